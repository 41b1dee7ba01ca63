/- As region_round_lit, for whatever class of worlds: all operations but the last one are quiet in the class (calls that leave a world of the class). -/
import Derived.Test.YtcbmbofbiodhmaaDoorLast
namespace Go.Proofs.YtcbmbofbiodhmaaDoor
open Go.RowKit

theorem asked_wide (P : Program) (o : Oper) (a : Act) (C : World → Prop) : o.askedIn Fence.wide P a C := fun _ _ _ _ => trivial
theorem region_round_c {n l : Nat} {P : Program} {last : Oper} {Q : Exit → Act → World → Prop} (C : World → Prop) {id : Nat} {M : List Oper} {a : Act} {w : World} (hm : P.follows .mixedOrders = true) (hM : M = M.dropLast ++ [last]) (hB : Region.lexB .any M.dropLast.toArray = true) (hok : lastB M.dropLast last = true)
    (hC : C { w with drawn := w.drawn + 1 })
    (h : wpQuietIn Fence.wide n P M.dropLast.toArray C (fun a' => ∀ w', C w' → Oper.wpIn Fence.wide n P last a' w' (Q .normal) Q) M.dropLast a) :
    (Code.region id M.toArray true).wpIn (Fence.wide.inRound l) n P Q a w := by
  obtain ⟨L, rfl⟩ : ∃ L, M = L ++ [last] := ⟨_, hM⟩
  rw [List.dropLast_concat] at hB hok h
  refine wpIn_region_any hm ?_
  simp only [Region.lexB, Bool.and_eq_true] at hB
  have h1 := wpAnyQIn_lex (F := Fence.wide) (n := n) (C := C) (md := .any) hB.1 L.toArray.toList 0 (Array.replicate L.toArray.size false) a (by simp) (by simpa using hB.2) h
  have h2 := any_last (l := l) (Q := Q) (C := C) (q := fun a' => ∀ w', C w' → Oper.wpIn Fence.wide n P last a' w' (Q .normal) Q) (lastB_ok hok) (fun a' w' hw' hq => hq w' hw') _ _ _ { w with drawn := w.drawn + 1 } (fun j o _ hj => by simp [Array.getD_eq_getD_getElem?, Array.getElem?_replicate] at hj; split at hj <;> simp at hj) (by simp) hC h1
  have e1 : (L ++ [last]).toArray = L.toArray.push last := by simp
  have e2 : Array.replicate (L.toArray.push last).size false = (Array.replicate L.toArray.size false).push false := by simp [Array.replicate_succ]
  rw [e1, e2]
  simpa using h2
end Go.Proofs.YtcbmbofbiodhmaaDoor
