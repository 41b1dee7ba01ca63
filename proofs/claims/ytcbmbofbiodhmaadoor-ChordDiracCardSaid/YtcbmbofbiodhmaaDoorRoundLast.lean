/- A region that draws its order, makes memory and calls, in a round of a range over a function, and whose last operation waits for all the others. -/
import Derived.Test.YtcbmbofbiodhmaaDoorHeld
import Derived.Test.YtcbmbofbiodhmaaDoorLastW
namespace Go.Proofs.YtcbmbofbiodhmaaDoor
open Go.RowKit

section
variable {n l : Nat} {P : Program} {ops : Array Oper} {last : Oper} {Q : Exit → Act → World → Prop}
theorem anyIn_of_anyL (hd : ∀ (j : Nat) (o : Oper), ops[j]? = some o → ∀ c, o.op ≠ .defer c) (hQ : ¬ LetsOut Q) : ∀ (fuel : Nat) (listed : Array Bool) (a : Act) (w : World),
    wpAny P .any ops Q fuel listed a w → wpAnyIn (Fence.wide.inRound l) n P .any ops Q fuel listed a w
  | 0, _, _, _, h => h
  | fuel + 1, listed, a, w, h => ⟨h.1, fun i hi => by
    have h1 := h.2 i hi
    unfold wpOp at h1
    unfold wpOpIn
    split
    · rename_i ho
      rw [ho] at h1
      exact anyIn_of_anyL hd hQ fuel _ a w h1
    · rename_i o ho
      rw [ho] at h1
      dsimp only at h1
      split
      · rename_i hw
        rw [if_pos hw] at h1
        rcases h1 with h1 | h1
        · exact opIn_round (hd i o ho) (operIn_of (Oper.wp_mono (fun a' w' hh => anyIn_of_anyL hd hQ fuel _ a' w' hh) h1))
        · exact absurd h1.2 hQ
      · rename_i hw
        rw [if_neg hw] at h1
        exact ⟨fun _ _ => trivial, anyIn_of_anyL hd hQ fuel _ _ w h1⟩⟩
theorem region_round_last {id : Nat} {M : List Oper} {a : Act} {w : World} (S : World → Prop) (hm : P.follows .mixedOrders = true) (hM : M = M.dropLast ++ [last]) (hok : lastB M.dropLast last = true) (hd : M.all (fun o => !isDefer o.op) = true) (hQ : ¬ LetsOut Q) (hS : S w.drew)
    (h : S w.drew → wpAnyH P .any M.dropLast.toArray (lastQ P last Q) S M.dropLast.toArray.size (Array.replicate M.dropLast.toArray.size false) a w.drew) : (Code.region id M.toArray true).wpIn (Fence.wide.inRound l) n P Q a w := by
  obtain ⟨L, rfl⟩ : ∃ L, M = L ++ [last] := ⟨_, hM⟩
  rw [List.dropLast_concat] at hok h
  refine wpIn_region_any hm (anyIn_of_anyL (noDefer hd) hQ _ _ _ _ ?_)
  have h2 := wany_last (P := P) (Q := Q) (lastB_ok hok) _ _ a w.drew (fun j o _ hj => by simp [Array.getD_eq_getD_getElem?, Array.getElem?_replicate] at hj; split at hj <;> simp at hj) (by simp) (wpAny_of_held _ _ _ _ (h hS))
  have e1 : (L ++ [last]).toArray = L.toArray.push last := by simp
  have e2 : Array.replicate (L.toArray.push last).size false = (Array.replicate L.toArray.size false).push false := by simp [Array.replicate_succ]
  rw [e1, e2]
  simpa using h2
end
end Go.Proofs.YtcbmbofbiodhmaaDoor
