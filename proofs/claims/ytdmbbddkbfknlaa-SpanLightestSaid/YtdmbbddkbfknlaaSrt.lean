/- Insertion by a key, the greatest first. Plain. -/
import Derived.Test.YtdmbbddkbfknlaaBase
namespace Go.Proofs.Ytdmbbddkbfknlaa

section
variable {α : Type} (d : α) (K : α → Int)
/-- the first i by a key, the greatest first; but the one at j may stand too far back -/
def SrJ (y : List α) (i j : Nat) : Prop := ∀ p q, p < q → q ≤ i → q ≠ j → K (y.getD q d) ≤ K (y.getD p d)
def SrI (y : List α) (i : Nat) : Prop := ∀ p q, p < q → q < i → K (y.getD q d) ≤ K (y.getD p d)
def swpL (y : List α) (j : Nat) : List α := (y.set j (y.getD (j - 1) d)).set (j - 1) (y.getD j d)
variable {d K} {y : List α} {i j : Nat}
theorem swpL_len : (swpL d y j).length = y.length := by simp [swpL]
theorem swpL_get (hj : j < y.length) (h1 : 1 ≤ j) (k : Nat) : (swpL d y j).getD k d = if k = j - 1 then y.getD j d else if k = j then y.getD (j - 1) d else y.getD k d := by
  unfold swpL
  rw [List.getD, List.getElem?_set, List.getElem?_set, List.length_set]
  by_cases h2 : k = j - 1
  · subst h2
    rw [if_pos rfl, if_pos rfl, if_pos (by omega)]; rfl
  · rw [if_neg (fun h => h2 h.symm), if_neg h2]
    by_cases h3 : k = j
    · subst h3
      rw [if_pos rfl, if_pos rfl, if_pos hj]; rfl
    · rw [if_neg (fun h => h3 h.symm), if_neg h3]; rfl
theorem swpL_perm (hj : j < y.length) : (swpL d y j).Perm y := by
  have := @List.set_set_perm α y j (j - 1) hj (by omega)
  unfold swpL
  rwa [List.getD, List.getD, List.getElem?_eq_getElem hj, List.getElem?_eq_getElem (by omega)]
theorem SrJ.start (h : SrI d K y i) : SrJ d K y i i := fun p q h1 h2 h3 => h p q h1 (by omega)
theorem SrJ.done (h : SrJ d K y i j) (hno : 0 < j → K (y.getD j d) ≤ K (y.getD (j - 1) d)) : SrI d K y (i + 1) := fun p q h1 h2 => by
  by_cases hq : q = j
  · subst hq
    have := hno (by omega)
    by_cases hp : p = q - 1
    · subst hp; exact this
    · have := h p (q - 1) (by omega) (by omega) (by omega); omega
  · exact h p q h1 (by omega) hq
theorem SrJ.swap (h : SrJ d K y i j) (hj : j < y.length) (h1 : 1 ≤ j) (hlt : K (y.getD (j - 1) d) < K (y.getD j d)) : SrJ d K (swpL d y j) i (j - 1) := fun p q hpq hq hne => by
  rw [swpL_get hj h1, swpL_get hj h1, if_neg hne]
  by_cases hqj : q = j
  · rw [if_pos hqj]
    by_cases hp : p = j - 1
    · rw [if_pos hp]; omega
    · rw [if_neg hp, if_neg (by omega)]; exact h p (j - 1) (by omega) (by omega) (by omega)
  · rw [if_neg hqj]
    by_cases hp : p = j - 1
    · rw [if_pos hp]; exact h j q (by omega) hq hqj
    · rw [if_neg hp]
      by_cases hpj : p = j
      · rw [if_pos hpj]; exact h (j - 1) q (by omega) hq hqj
      · rw [if_neg hpj]; exact h p q hpq hq hqj
theorem SrI.one : SrI d K y 1 := fun p q h1 h2 => absurd h1 (by omega)
theorem SrI.pairs (h : SrI d K y y.length) : y.Pairwise (fun a b => K b ≤ K a) := by
  rw [List.pairwise_iff_getElem]
  intro p q hp hq hpq
  have := h p q hpq hq
  simpa [List.getD, hp, hq] using this
end
end Go.Proofs.Ytdmbbddkbfknlaa
