/- Orders of all numbers below n, as lists of integers. -/
import Derived.Test.YtcbmbofbiodhmaaDoorEachL
import Derived.Test.YtcbmbofbiodhmaaDoorNatI
namespace Go.Proofs.YtcbmbofbiodhmaaDoor
open Go.RowKit

theorem perm_of_sub {n : Nat} {p : List Nat} (hp : p.Nodup) (hlt : ∀ i ∈ p, i < n) (hl : n ≤ p.length) : p.Perm (List.range n) := by
  refine (List.perm_ext_iff_of_nodup hp List.nodup_range).2 fun a => ⟨fun ha => List.mem_range.2 (hlt a ha), fun ha => ?_⟩
  refine Classical.byContradiction fun hno => ?_
  have h1 : (p ++ [a]).Nodup := by rw [List.nodup_append]; exact ⟨hp, by simp, fun x hx b hb e => by simp at hb; subst hb; subst e; exact hno hx⟩
  have h2 := h1.length_le_of_subset (l₂ := List.range n) fun x hx => by
    rcases List.mem_append.1 hx with h | h
    · exact List.mem_range.2 (hlt x h)
    · simp at h; rw [h]; exact ha
  simp at h2; omega
theorem natI_getD {x : List Nat} {n : Nat} (hp : x.Perm (List.range n)) (k : Nat) (hk : k < n) : 0 ≤ (natI x).getD k 0 ∧ (natI x).getD k 0 < n := by
  have hl : x.length = n := by simpa using hp.length_eq
  have hm : x[k]'(by omega) ∈ List.range n := hp.mem_iff.1 (List.getElem_mem _)
  rw [List.mem_range] at hm
  simp only [natI, List.getD, List.getElem?_map, List.getElem?_eq_getElem (show k < x.length by omega), Option.map_some, Option.getD_some]
  omega
theorem natI_nodup {x : List Nat} : (natI x).Nodup ↔ x.Nodup := by
  unfold natI
  rw [List.Nodup, List.pairwise_map, List.Nodup]
  constructor <;> intro h <;> refine h.imp fun h => ?_ <;> omega
theorem hasB_mem (zs : List Int) (x : Int) : hasB zs x = true ↔ x ∈ zs := by
  unfold hasB
  rw [List.any_eq_true]
  exact ⟨fun ⟨y, h1, h2⟩ => by have := eq_of_beq h2; subst this; exact h1, fun h => ⟨x, h, by simp⟩⟩
/-- what Each says -/
theorem eachB_iff (n : Nat) (zs : List Int) : eachB n zs = true ↔ ∃ x : List Nat, x.Perm (List.range n) ∧ zs = natI x := by
  constructor
  · intro h
    unfold eachB at h
    simp only [Bool.and_eq_true, Bool.not_eq_true', decide_eq_true_eq] at h
    obtain ⟨h1, h2⟩ := h
    have hb : ∀ k, k < zs.length → 0 ≤ zs.getD k 0 ∧ zs.getD k 0 < n ∧ zs.getD k 0 ∉ zs.take k := fun k hk => by
      have := List.any_eq_false.1 h1 k (by simpa using hk)
      unfold badE at this
      simp only [Bool.or_eq_true, decide_eq_true_eq, not_or, hasB_mem] at this
      exact ⟨by omega, by omega, this.2⟩
    have hz : zs = natI (zs.map Int.toNat) := by
      unfold natI
      rw [List.map_map]
      refine (List.ext_getElem (by simp) fun i h3 h4 => ?_)
      have := hb i h3
      simp only [List.getD, List.getElem?_eq_getElem h3, Option.getD_some] at this
      simp; omega
    refine ⟨zs.map Int.toNat, ?_, hz⟩
    refine perm_of_sub ?_ ?_ (by simp; omega)
    · rw [← natI_nodup, ← hz, List.nodup_iff_pairwise_ne, List.pairwise_iff_getElem]
      intro i j hi hj hij he
      have := (hb j hj).2.2
      simp only [List.getD, List.getElem?_eq_getElem hj, Option.getD_some] at this
      exact this (by rw [← he]; exact List.mem_take_iff_getElem.2 ⟨i, by omega, rfl⟩)
    · intro a ha
      obtain ⟨y, hy, rfl⟩ := List.mem_map.1 ha
      obtain ⟨i, hi, rfl⟩ := List.getElem_of_mem hy
      have := hb i hi
      simp only [List.getD, List.getElem?_eq_getElem hi, Option.getD_some] at this
      omega
  · rintro ⟨x, hp, rfl⟩
    have hl : x.length = n := by simpa using hp.length_eq
    have hnd : x.Nodup := hp.nodup_iff.2 List.nodup_range
    unfold eachB
    simp only [Bool.and_eq_true, Bool.not_eq_true', decide_eq_true_eq]
    refine ⟨List.any_eq_false.2 fun k hk => ?_, by simp [natI]; omega⟩
    have hk : k < n := by simpa [natI, hl] using hk
    obtain ⟨g1, g2⟩ := natI_getD hp k hk
    unfold badE
    simp only [Bool.or_eq_true, decide_eq_true_eq, not_or, hasB_mem]
    refine ⟨⟨by omega, by omega⟩, fun hm => ?_⟩
    have hn2 := natI_nodup.2 hnd
    have hkl : k < (natI x).length := by simp [natI]; omega
    simp only [List.getD, List.getElem?_eq_getElem hkl, Option.getD_some] at hm
    obtain ⟨i, hi, he⟩ := List.mem_take_iff_getElem.1 hm
    have := (List.pairwise_iff_getElem.1 (List.nodup_iff_pairwise_ne.1 hn2)) i k (by omega) hkl (by omega)
    exact this he
end Go.Proofs.YtcbmbofbiodhmaaDoor
