/- What the words of a graph are. -/
import Derived.Test.YtnkmfnnkophccaaDoorDistLaw
import Derived.Test.YtnkmfnnkophccaaDoorGoodC
import Derived.Test.YtnkmfnnkophccaaDoorAdj
namespace Go.Proofs.YtnkmfnnkophccaaDoor
open Go.RowKit

theorem nearGr {N : Nat} {es : List E} (h : gchk N es = 0) : Gr N (nearW N es) := by
  obtain ⟨_, h10, _, hok, hall⟩ := gchk_ok h
  rw [Int.toNat_natCast] at hok
  have h10 : N ≤ 10 := by omega
  have hlt : ∀ i, (nearW N es).getD i 0 < 1024 := fun i => getD_lt1024 (nearW_lt h10 hok) i
  have hok2 : ∀ i j, nb (nearW N es) i j = true → i < N ∧ j < N ∧ nb (nearW N es) j i = true ∧ i ≠ j := fun i j hij => by
    have hi : i < N := Nat.lt_of_not_le fun hle => by
      unfold nb at hij
      rw [show (nearW N es).getD i 0 = 0 by simp [List.getD, show (nearW N es)[i]? = none by rw [List.getElem?_eq_none_iff, nearW_length]; exact hle]] at hij
      simp at hij
    have ha : adj es i j = true := by rw [← nearW_bit es hok i j hi]; exact hij
    obtain ⟨e, he, hae⟩ := List.any_eq_true.1 ha
    obtain ⟨x, y, ex, ey, hx, hy, hxy⟩ := hok e he
    unfold adjE at hae
    rw [ex, ey] at hae
    simp at hae
    have hj : j < N := by omega
    refine ⟨hi, hj, ?_, by omega⟩
    show ((nearW N es).getD j 0).testBit i = true
    rw [nearW_bit es hok j i hj]
    refine List.any_eq_true.2 ⟨e, he, ?_⟩
    unfold adjE
    rw [ex, ey]
    simp
    omega
  refine ⟨h10, fun i => Nat.lt_pow_two_of_testBit _ fun m hm => ?_, hok2⟩
  cases hb : ((nearW N es).getD i 0).testBit m
  · rfl
  · have := (hok2 i m hb).2.1; omega
end Go.Proofs.YtnkmfnnkophccaaDoor
