/- A row of pairs in which one is stored anew. -/
import Derived.Test.YtgbkpjiefaejiaaPlaceMoreLaw
namespace Go.Proofs.Ytgbkpjiefaejiaa
open Go.RowKit Go.Shelf

theorem ps2_set {k₁ k₂ : IntKind} : ∀ (l : List (Int × Int)) (i : Nat) (a b : Int), i < l.length → ((ps2 k₁ k₂ l).set (i * 2) (.int k₁ a)).set (i * 2 + 1) (.int k₂ b) = ps2 k₁ k₂ (l.set i (a, b))
  | [], i, a, b, h => by simp at h
  | c :: l, 0, a, b, _ => by simp [ps2]
  | c :: l, i + 1, a, b, h => by
    have ih := ps2_set (k₁ := k₁) (k₂ := k₂) l i a b (by simpa using h)
    have e : ps2 k₁ k₂ (c :: l) = .int k₁ c.1 :: .int k₂ c.2 :: ps2 k₁ k₂ l := rfl
    rw [e, show (i + 1) * 2 = i * 2 + 1 + 1 by omega]
    simp only [List.set_cons_succ]
    rw [ih]
    rfl
theorem wat_set (l : List (Int × Int)) (i j : Nat) (c : Int × Int) (h : i < l.length) : wat (l.set i c) j = if j = i then c else wat l j := by
  unfold wat
  by_cases e : j = i
  · subst e; simp [List.getD, h]
  · rw [if_neg e]
    simp [List.getD, List.getElem?_set_ne (Ne.symm e)]
end Go.Proofs.Ytgbkpjiefaejiaa
