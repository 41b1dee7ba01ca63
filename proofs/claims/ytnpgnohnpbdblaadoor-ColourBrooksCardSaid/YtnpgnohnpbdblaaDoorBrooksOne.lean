/- One part: all are linked. -/
import Derived.Test.YtnpgnohnpbdblaaDoorBrooksLawC
import Derived.Test.YtnpgnohnpbdblaaDoorLinkLaw
namespace Go.Proofs.YtnpgnohnpbdblaaDoor
open Go.RowKit

theorem cntB_one {q : Nat → Bool} : ∀ {n a : Nat}, a < n → q a = true → 1 ≤ cntB n q
  | 0, _, h, _ => absurd h (by omega)
  | n + 1, a, h, ha => by
    rw [cntB_succ]
    by_cases e : a = n
    · subst e; rw [if_pos ha]; omega
    · have := cntB_one (show a < n by omega) ha
      omega
theorem cntB_two {q : Nat → Bool} : ∀ {n a b : Nat}, a < b → b < n → q a = true → q b = true → 2 ≤ cntB n q
  | 0, _, _, _, h, _, _ => absurd h (by omega)
  | n + 1, a, b, hab, h, ha, hb => by
    rw [cntB_succ]
    by_cases e : b = n
    · subst e
      have := cntB_one hab ha
      rw [if_pos hb]; omega
    · have := cntB_two hab (show b < n by omega) ha hb
      omega
theorem unl_one {N : Nat} {f : Nat → Int} (h : unl ((List.range N).map f) = 1) : ∀ i, i < N → f i = f 0 := by
  intro i
  induction i using Nat.strongRecOn with
  | ind i ih =>
    intro hi
    by_cases e : i = 0
    · rw [e]
    · by_cases hf : f i = f 0
      · exact hf
      · exfalso
        have hg : ∀ j, j < N → ((List.range N).map f).getD j 0 = f j := fun j hj => by simp [List.getD, hj]
        have h2 : 2 ≤ unl ((List.range N).map f) := by
          unfold unl
          refine cntB_two (a := 0) (b := i) (by omega) (by simpa using hi) (by simp) ?_
          rw [hg i hi]
          simp only [Bool.not_eq_true', List.contains_eq_any_beq, List.any_eq_false, beq_iff_eq]
          intro y hy hye
          obtain ⟨q, hq, rfl⟩ := List.mem_take_iff_getElem.1 hy
          simp only [List.getElem_map, List.getElem_range] at hye
          simp at hq
          have := ih q (by omega) (by omega)
          omega
        omega
theorem lkd_of {es : List E} {N : Nat} {p : Nat → Nat} (hp : ∀ i, i < N → IsPart es N i (p i)) (h : unl ((List.range N).map fun i => ((p i : Nat) : Int)) = 1) : Lkd es N := fun i j hi hj => by
  have h1 := unl_one h i hi
  have h2 := unl_one h j hj
  have e : p i = p j := by have := h1.trans h2.symm; exact Int.ofNat.inj this
  have hi' := (hp i hi).has
  rw [e] at hi'
  exact cn_trans es N (p j) (by have := (hp j hj).le; omega) i j hi' (cn_symm es N _ _ (hp j hj).has)
end Go.Proofs.YtnpgnohnpbdblaaDoor
