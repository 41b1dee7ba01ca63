/- When a graph may be, said of its list. -/
import Derived.Test.YtnkmfnnkophccaaDoorNear
namespace Go.Proofs.YtnkmfnnkophccaaDoor
open Go.RowKit

structure OkL (N : Int) (es : List E) : Prop where
  each : ∀ e ∈ es, outE N e = false ∧ e.1 ≠ e.2.1 ∧ heavyE e = false
  two : es.Pairwise fun f e => sameE e f = false
theorem echk_zero {N : Int} {pre : List E} {e : E} : echk N pre e = 0 ↔ (outE N e = false ∧ e.1 ≠ e.2.1 ∧ heavyE e = false) ∧ ∀ f ∈ pre, sameE e f = false := by
  unfold echk
  cases h1 : outE N e
  · by_cases h2 : e.1 = e.2.1
    · simp [h2]
    · cases h3 : pre.any (sameE e)
      · rw [List.any_eq_false] at h3
        cases h4 : heavyE e
        · simp [h2]; exact fun a b c hm => by simpa using h3 _ hm
        · simp [h2]
      · obtain ⟨f, hf, hs⟩ := List.any_eq_true.1 h3
        simp [h2]
        exact fun _ => ⟨f.1, f.2.1, f.2.2, hf, hs⟩
  · simp
theorem okL_iff {N : Int} {es : List E} : OkL N es ↔ ∀ j, j < es.length → echkAt N es j = 0 := by
  constructor
  · intro h j hj
    refine echk_zero.2 ⟨h.each _ (by rw [List.getD, List.getElem?_eq_getElem hj]; exact List.getElem_mem _), fun f hf => ?_⟩
    obtain ⟨i, hi, rfl⟩ := List.getElem_of_mem hf
    have hij : i < j := by simp at hi; omega
    have := List.pairwise_iff_getElem.1 h.two i j (by omega) hj hij
    rw [List.getD, List.getElem?_eq_getElem hj]
    simpa using this
  · intro h
    refine ⟨fun e he => ?_, List.pairwise_iff_getElem.2 fun i j hi hj hij => ?_⟩
    · obtain ⟨j, hj, rfl⟩ := List.getElem_of_mem he
      have := (echk_zero.1 (h j hj)).1
      rwa [List.getD, List.getElem?_eq_getElem hj] at this
    · have := (echk_zero.1 (h j hj)).2 es[i] (List.mem_take_iff_getElem.2 ⟨i, by omega, rfl⟩)
      rwa [List.getD, List.getElem?_eq_getElem hj] at this
theorem gchk_iff {N : Int} {es : List E} : gchk N es = 0 ↔ glarge N es.length = false ∧ OkL N es := by
  rw [okL_iff]
  constructor
  · intro h
    have hL : glarge N es.length = false := by
      cases hl : glarge N es.length
      · rfl
      · rw [gchk_large hl] at h; omega
    exact ⟨hL, (gchk_ok h).2.2.2.2⟩
  · rintro ⟨h1, h2⟩
    rw [gchk_small h1, gscan_none h2]
theorem OkL.ok {n : Nat} {es : List E} (h : OkL n es) : ∀ e ∈ es, okE n e := fun e he => by
  obtain ⟨h1, h2, _⟩ := h.each e he
  simp [outE] at h1
  exact ⟨e.1.toNat, e.2.1.toNat, by omega, by omega, by omega, by omega, by omega⟩
end Go.Proofs.YtnkmfnnkophccaaDoor
