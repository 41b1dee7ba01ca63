/- Erdos and Gallai: what score.May tells is what the law asks. Plain. -/
import Derived.Test.YtfbomimkjiaohaaScoreMay
import Derived.Test.YtfbomimkjiaohaaRefBit
namespace Go.Proofs.Ytfbomimkjiaohaa
open Go.RowKit

theorem popc_mask {n s : Nat} (hn : n ≤ 10) (hs : s < 2 ^ n) : (maskW n s).count true = popc 10 s := by
  obtain ⟨m, hm⟩ : ∃ m, 10 = n + m := ⟨10 - n, by omega⟩
  rw [hm, popc_more hs m]
  unfold maskW popc
  rw [List.count_eq_countP, List.countP_map, List.countP_eq_length_filter]
  congr 1
  exact List.filter_congr fun i _ => by simp
/-- what those in s have is no more than they can have -/
def condP (d : List Int) (s : Nat) : Prop :=
  sumI (fun j x => if s.testBit j then x else 0) d d.length ≤ (popc 10 s : Int) * ((popc 10 s : Int) - 1) + sumI (fun j x => if s.testBit j then 0 else mn (popc 10 s) x) d d.length
theorem condP_iff {d : List Int} {s : Nat} (hn : d.length ≤ 10) (hs : s < 2 ^ d.length) : condS d s ↔ condP d s := by
  unfold condS condP
  rw [popc_mask hn hs]
def LawC (d : List Int) : Prop := (∀ x ∈ d, 0 ≤ x ∧ x ≤ (d.length : Int)) ∧ isum d % 2 = 0 ∧ ∀ s, s < 2 ^ d.length → condP d s
theorem may_iff {d l : List Int} (hn : d.length ≤ 10) (hp : l.Perm d) (hs : l.Pairwise (fun a b => b ≤ a)) : LawC d ↔ MayC l := by
  have hl := hp.length_eq
  have hE : (∀ s, s < 2 ^ d.length → condP d s) ↔ ∀ k, k ≤ d.length → condK l k := by
    rw [← erdos hp hs]
    exact forall_congr' fun s => forall_congr' fun h => (condP_iff hn h).symm
  have hat : ∀ k, k < l.length → l.getD k 0 ∈ l := fun k hk => by simp [List.getD, hk]
  unfold LawC MayC
  rw [hE, isum_perm hp.symm]
  constructor
  · rintro ⟨h1, h2, h3⟩
    refine ⟨fun k hk => ?_, h2⟩
    have hr := h1 _ (hp.mem_iff.1 (hat k hk))
    refine ⟨hr.1, ?_, h3 _ (by omega)⟩
    have hc := h3 1 (by omega)
    unfold condK at hc
    have h0 : isum (l.take 1) = l.getD 0 0 := by
      match l, hk with
      | a :: l, _ => simp [isum]
    have hb := isum_bd (L := (l.drop 1).map (mn 1)) (n := 1) (fun u hu => by
      obtain ⟨u', hu', rfl⟩ := List.mem_map.1 hu
      have := h1 _ (hp.mem_iff.1 (List.mem_of_mem_drop hu'))
      unfold mn; split <;> omega)
    rw [List.length_map, List.length_drop] at hb
    have hk0 : l.getD k 0 ≤ l.getD 0 0 := by
      rcases Nat.eq_zero_or_pos k with e | e
      · rw [e]; exact Int.le_refl _
      · rw [List.pairwise_iff_getElem] at hs
        have := hs 0 k (by omega) hk e
        simpa [List.getD, hk, show 0 < l.length by omega] using this
    rw [h0] at hc
    omega
  · rintro ⟨h1, h2⟩
    refine ⟨fun x hx => ?_, h2, fun k hk => ?_⟩
    · obtain ⟨j, hj, rfl⟩ := List.mem_iff_getElem.1 (hp.mem_iff.2 hx)
      have := h1 j hj
      rw [show l.getD j 0 = l[j] by simp [List.getD, hj]] at this
      omega
    · match k with
      | 0 =>
        unfold condK
        have hb := isum_bd (L := (l.drop 0).map (mn 0)) (n := 0) (fun u hu => by
          obtain ⟨u', hu', rfl⟩ := List.mem_map.1 hu
          obtain ⟨j, hj, rfl⟩ := List.mem_iff_getElem.1 (List.mem_of_mem_drop hu')
          have := h1 j hj
          rw [show l.getD j 0 = l[j] by simp [List.getD, hj]] at this
          unfold mn; split <;> omega)
        simp only [List.take_zero, isum]
        omega
      | k + 1 => exact (h1 k (by omega)).2.2
theorem sumI_bd {f : Nat → Int → Int} {d : List Int} : ∀ i, (∀ j, j < i → 0 ≤ f j (d.getD j 0) ∧ f j (d.getD j 0) ≤ 10) → 0 ≤ sumI f d i ∧ sumI f d i ≤ 10 * i
  | 0, _ => by simp [sumI_zero]
  | i + 1, h => by
    have ih := sumI_bd i fun j hj => h j (by omega)
    have := h i (by omega)
    rw [sumI_succ]; omega
end Go.Proofs.Ytfbomimkjiaohaa
