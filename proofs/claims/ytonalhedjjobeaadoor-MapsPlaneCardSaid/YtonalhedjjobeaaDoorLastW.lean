/- A region that draws its order and whose last operation waits for all the others: the others first, in whatever way, then the last one. -/
import Derived.Test.YtonalhedjjobeaaDoorLast
import Derived.Deep.RegionHeld
namespace Go.Proofs.YtonalhedjjobeaaDoor
open Go.RowKit

def lastQ (P : Program) (last : Oper) (Q : Exit → Act → World → Prop) : Exit → Act → World → Prop
  | .normal => fun a w => last.wp P a w (Q .normal) Q
  | e => Q e
section
variable {P : Program} {ops : Array Oper} {last : Oper} {Q : Exit → Act → World → Prop}
theorem op_lastQ {o : Oper} {a : Act} {w : World} {K : Act → World → Prop} (hh : o.wp P a w K (lastQ P last Q)) : o.wp P a w K Q := by
  unfold Oper.wp at *
  generalize (execOp a.eval o).run P w = r at *
  cases r with
  | ok n w' => cases n <;> simp only [Oper.upon] at hh ⊢ <;> exact hh
  | halt x w' => cases x <;> simp only [Oper.upon] at hh ⊢ <;> exact hh
theorem wlast_now (ok : LastOk ops last) {fuel : Nat} {listed : Array Bool} {a : Act} {w : World} (hs : listed.size = ops.size) (hall : ∀ j, j < ops.size → listed.getD j false = true)
    (hL : last.wp P a w (Q .normal) Q) : wpAny P .any (ops.push last) Q (fuel + 1) (listed.push false) a w := by
  have hmem : ops.size ∈ Region.ready .any (ops.push last) (listed.push false) := (mem_full ok (Cl.all ok hall) hs).2 (.inr ⟨rfl, hall⟩)
  refine ⟨fun h => (by rw [h] at hmem; cases hmem), fun i hi => ?_⟩
  rcases (mem_full ok (Cl.all ok hall) hs).1 hi with h | ⟨rfl, _⟩
  · rw [none_of_all hall] at h; cases h
  · unfold wpOp
    simp only [Array.getElem?_push_size, wanted_none ok.lg, if_true]
    refine .inl (Oper.wp_mono (fun a' w' hq => wpAny_done (none_of_all fun j hj => ?_) hq _) hL)
    rw [Array.size_push] at hj
    by_cases he : j = ops.size
    · subst he
      rw [← hs, Array.setIfInBounds, dif_pos (by simp)]
      simp [Array.getD_eq_getD_getElem?]
    · have := hall j (by omega)
      simp only [Array.getD_eq_getD_getElem?, Array.getElem?_setIfInBounds, Array.getElem?_push] at this ⊢
      rw [if_neg (by omega), if_neg (by omega)]
      exact this
theorem wany_last (ok : LastOk ops last) :
    ∀ (fuel : Nat) (listed : Array Bool) (a : Act) (w : World), Cl ops listed → listed.size = ops.size → wpAny P .any ops (lastQ P last Q) fuel listed a w → wpAny P .any (ops.push last) Q (fuel + 1) (listed.push false) a w
  | 0, listed, a, w, hc, hs, h => wlast_now ok hs (all_of_none ok hs h.1) h.2
  | fuel + 1, listed, a, w, hc, hs, h => by
    by_cases he : Region.ready .any ops listed = []
    · exact wlast_now ok hs (all_of_none ok hs he) (h.1 he)
    · refine ⟨fun h0 => ?_, fun i hi => ?_⟩
      · obtain ⟨i, hi⟩ := List.exists_mem_of_ne_nil _ he
        have := (mem_full (last := last) ok hc hs).2 (.inl hi)
        rw [h0] at this; cases this
      · rcases (mem_full ok hc hs).1 hi with hi' | ⟨rfl, hall⟩
        · obtain ⟨_, o, ho, hdeps⟩ := mem_ready.1 hi'
          have hlt := (Array.getElem?_eq_some_iff.1 ho).1
          have hc2 : Cl ops (listed.setIfInBounds i true) := by
            intro j o' ho' hj e he hb
            by_cases hij : i = j
            · subst hij
              rw [ho] at ho'; cases ho'
              have h3 := hdeps e he hb
              simp only [Array.getD_eq_getD_getElem?, Array.getElem?_setIfInBounds] at h3 ⊢
              have := ok.bk i o ho e he
              rw [if_neg (by omega)]; exact h3
            · have hj' : listed.getD j false = true := by
                simp only [Array.getD_eq_getD_getElem?, Array.getElem?_setIfInBounds] at hj ⊢
                rwa [if_neg hij] at hj
              have h3 := hc j o' ho' hj' e he hb
              simp only [Array.getD_eq_getD_getElem?, Array.getElem?_setIfInBounds] at h3 ⊢
              split
              · split <;> first | rfl | (exfalso; omega)
              · exact h3
          have h1 := h.2 i hi'
          unfold wpOp at h1 ⊢
          rw [ho] at h1
          have hfull : (ops.push last)[i]? = some o := by simp [Array.getElem?_push, show i ≠ ops.size by omega, ho]
          rw [hfull]
          simp only [wanted_none (ok.ng i o ho), if_true] at h1 ⊢
          have hset : (listed.push false).setIfInBounds i true = (listed.setIfInBounds i true).push false := by
            apply Array.ext_getElem?
            intro k
            simp only [Array.getElem?_setIfInBounds, Array.getElem?_push, Array.size_push, Array.size_setIfInBounds]
            by_cases h1 : i = k
            · subst h1
              simp [show i ≠ listed.size by omega, show i < listed.size by omega, show i < listed.size + 1 by omega]
            · by_cases h2 : k = listed.size
              · simp [h2]; omega
              · simp [h1, h2]
          rw [hset]
          rcases h1 with h1 | ⟨h1, h2⟩
          · exact .inl (op_lastQ (Oper.wp_mono (fun a' w' hh => wany_last ok fuel _ a' w' hc2 (by simpa using hs) hh) h1))
          · exact .inr ⟨h1, h2⟩
        · exact absurd (none_of_all hall) he
/-- the operations are written out; the others may be taken by the kit's wpAnyH laws (S) -/
theorem region_last {id : Nat} {M : List Oper} {a : Act} {w : World} (S : World → Prop) (hm : P.follows .mixedOrders = true) (hM : M = M.dropLast ++ [last]) (hok : lastB M.dropLast last = true) (hS : S w.drew)
    (h : S w.drew → wpAnyH P .any M.dropLast.toArray (lastQ P last Q) S M.dropLast.toArray.size (Array.replicate M.dropLast.toArray.size false) a w.drew) : (Code.region id M.toArray true).wp P Q a w := by
  obtain ⟨L, rfl⟩ : ∃ L, M = L ++ [last] := ⟨_, hM⟩
  rw [List.dropLast_concat] at hok h
  refine wp_region_any hm ?_
  have h2 := wany_last (P := P) (Q := Q) (lastB_ok hok) _ _ a w.drew (fun j o _ hj => by simp [Array.getD_eq_getD_getElem?, Array.getElem?_replicate] at hj; split at hj <;> simp at hj) (by simp) (wpAny_of_held _ _ _ _ (h hS))
  have e1 : (L ++ [last]).toArray = L.toArray.push last := by simp
  have e2 : Array.replicate (L.toArray.push last).size false = (Array.replicate L.toArray.size false).push false := by simp [Array.replicate_succ]
  rw [e1, e2]
  simpa using h2
end
end Go.Proofs.YtonalhedjjobeaaDoor
