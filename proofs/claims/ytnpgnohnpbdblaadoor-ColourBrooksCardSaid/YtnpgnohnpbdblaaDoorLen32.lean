/- math/bits.Len32 below 1024: the place of the highest bit, and one. -/
import Derived.Test.YtnpgnohnpbdblaaDoorRows
import Derived.Test.YtnpgnohnpbdblaaDoorBase
namespace Go.Proofs.YtnpgnohnpbdblaaDoor
open Go.RowKit

def len8 : ByteArray := { data := #[0, 1, 2, 2, 3, 3, 3, 3, 4, 4, 4, 4, 4, 4, 4, 4, 5, 5, 5, 5, 5, 5, 5, 5, 5, 5, 5, 5, 5, 5, 5, 5, 6, 6, 6, 6, 6, 6, 6, 6, 6, 6, 6, 6, 6, 6, 6, 6, 6, 6, 6, 6, 6, 6, 6, 6, 6, 6, 6, 6, 6, 6, 6, 6, 7, 7, 7, 7, 7, 7, 7, 7, 7, 7, 7, 7, 7, 7, 7, 7, 7, 7, 7, 7, 7, 7, 7, 7, 7, 7, 7, 7, 7, 7, 7, 7, 7, 7, 7, 7, 7, 7, 7, 7, 7, 7, 7, 7, 7, 7, 7, 7, 7, 7, 7, 7, 7, 7, 7, 7, 7, 7, 7, 7, 7, 7, 7, 7, 8, 8, 8, 8, 8, 8, 8, 8, 8, 8, 8, 8, 8, 8, 8, 8, 8, 8, 8, 8, 8, 8, 8, 8, 8, 8, 8, 8, 8, 8, 8, 8, 8, 8, 8, 8, 8, 8, 8, 8, 8, 8, 8, 8, 8, 8, 8, 8, 8, 8, 8, 8, 8, 8, 8, 8, 8, 8, 8, 8, 8, 8, 8, 8, 8, 8, 8, 8, 8, 8, 8, 8, 8, 8, 8, 8, 8, 8, 8, 8, 8, 8, 8, 8, 8, 8, 8, 8, 8, 8, 8, 8, 8, 8, 8, 8, 8, 8, 8, 8, 8, 8, 8, 8, 8, 8, 8, 8, 8, 8, 8, 8, 8, 8, 8, 8, 8, 8, 8, 8, 8, 8, 8, 8, 8, 8, 8, 8] }
theorem len8_size : len8.size = 256 := by decide +kernel
theorem len8_ok : ∀ k : Fin 256, ∀ i : Fin 8, 2 ^ i.val ≤ k.val → k.val < 2 ^ (i.val + 1) → (len8.data.getD k.val 0).toNat = i.val + 1 := by decide +kernel
theorem idxLn (k : Nat) (h1 : k < 256) (W : World) : (Instr.index 9 (.string { data := #[0, 1, 2, 2, 3, 3, 3, 3, 4, 4, 4, 4, 4, 4, 4, 4, 5, 5, 5, 5, 5, 5, 5, 5, 5, 5, 5, 5, 5, 5, 5, 5, 6, 6, 6, 6, 6, 6, 6, 6, 6, 6, 6, 6, 6, 6, 6, 6, 6, 6, 6, 6, 6, 6, 6, 6, 6, 6, 6, 6, 6, 6, 6, 6, 7, 7, 7, 7, 7, 7, 7, 7, 7, 7, 7, 7, 7, 7, 7, 7, 7, 7, 7, 7, 7, 7, 7, 7, 7, 7, 7, 7, 7, 7, 7, 7, 7, 7, 7, 7, 7, 7, 7, 7, 7, 7, 7, 7, 7, 7, 7, 7, 7, 7, 7, 7, 7, 7, 7, 7, 7, 7, 7, 7, 7, 7, 7, 7, 8, 8, 8, 8, 8, 8, 8, 8, 8, 8, 8, 8, 8, 8, 8, 8, 8, 8, 8, 8, 8, 8, 8, 8, 8, 8, 8, 8, 8, 8, 8, 8, 8, 8, 8, 8, 8, 8, 8, 8, 8, 8, 8, 8, 8, 8, 8, 8, 8, 8, 8, 8, 8, 8, 8, 8, 8, 8, 8, 8, 8, 8, 8, 8, 8, 8, 8, 8, 8, 8, 8, 8, 8, 8, 8, 8, 8, 8, 8, 8, 8, 8, 8, 8, 8, 8, 8, 8, 8, 8, 8, 8, 8, 8, 8, 8, 8, 8, 8, 8, 8, 8, 8, 8, 8, 8, 8, 8, 8, 8, 8, 8, 8, 8, 8, 8, 8, 8, 8, 8, 8, 8, 8, 8, 8, 8, 8, 8] }) (.int .u8 (k : Int))).run Tryd.prog W = .ok (.int .u8 ((len8.data.getD k 0).toNat : Nat)) W := by
  have hs : (k : Int) < (len8.size : Int) := by rw [len8_size]; omega
  have h := run_index_string (P := Tryd.prog) (w := W) 9 len8 .u8 (k : Int) Tryd.underlying9
  rw [dif_pos ⟨by omega, hs⟩] at h
  refine Eq.trans h ?_
  have he : ((len8[(k : Int).toNat]'(by rw [Int.toNat_natCast]; omega)).toNat) = (len8.data.getD k 0).toNat := by
    simp only [Int.toNat_natCast]
    have hk2 : k < len8.data.size := by have := len8_size; exact (show k < len8.size by omega)
    rw [Array.getD, dif_pos hk2]
    rfl
  rw [he]
theorem ret_intL {k : IntKind} {a b : Int} (h : a = b) : Ending.returned (.int k a) = .returned (.int k b) := by rw [h]
set_option maxRecDepth 100000 in
set_option maxHeartbeats 400000 in
theorem len32_any (x i : Nat) (w : World) (h1 : 2 ^ i ≤ x) (h2 : x < 2 ^ (i + 1)) (hx : x < 1024) :
    Calls Tryd.prog 59 #[.int .u32 (x : Int)] w fun e w' => e = .returned (.int .i64 ((i : Int) + 1)) ∧ w = w' := by
  have hi : i < 10 := by
    refine Classical.byContradiction fun h => ?_
    have : 2 ^ 10 ≤ 2 ^ i := Nat.pow_le_pow_right (by omega) (by omega)
    omega
  have hx0 : ¬ (65536 : Int) ≤ x := by omega
  by_cases h8 : i < 8
  · have hx2 : x < 256 := Nat.lt_of_lt_of_le h2 (Nat.pow_le_pow_right (n := 2) (by omega) (show i + 1 ≤ 8 by omega))
    have hq := len8_ok ⟨x, hx2⟩ ⟨i, h8⟩ h1 h2
    simp only at hq
    have ix := idxLn x hx2
    rw [hq] at ix
    have hlt : (x : Int) < 256 := by omega
    have hx1 : ¬ (256 : Int) ≤ x := by omega
    clear hq h1 h2
    go_enter Tryd.func59, Tryd.ntmps59
    go_wp2
    go_ret
    exact ⟨by simp, rfl⟩
  · have hx2 : 256 ≤ x := Nat.le_trans (Nat.pow_le_pow_right (n := 2) (by omega) (show 8 ≤ i by omega)) h1
    obtain ⟨j, rfl⟩ : ∃ j, i = j + 8 := ⟨i - 8, by omega⟩
    have e1 : 2 ^ (j + 8) = 2 ^ j * 256 := by rw [Nat.pow_add]
    have e2 : 2 ^ (j + 8 + 1) = 2 ^ (j + 1) * 256 := by rw [show j + 8 + 1 = (j + 1) + 8 by omega, Nat.pow_add]
    have hq := len8_ok ⟨x / 256, by omega⟩ ⟨j, by omega⟩ (by simp only; omega) (by simp only; omega)
    simp only at hq
    have ix := idxLn (x / 256) (by omega)
    rw [hq] at ix
    have hge : (256 : Int) ≤ x := by omega
    have ix2 : ∀ W, (Instr.index 9 (.string { data := #[0, 1, 2, 2, 3, 3, 3, 3, 4, 4, 4, 4, 4, 4, 4, 4, 5, 5, 5, 5, 5, 5, 5, 5, 5, 5, 5, 5, 5, 5, 5, 5, 6, 6, 6, 6, 6, 6, 6, 6, 6, 6, 6, 6, 6, 6, 6, 6, 6, 6, 6, 6, 6, 6, 6, 6, 6, 6, 6, 6, 6, 6, 6, 6, 7, 7, 7, 7, 7, 7, 7, 7, 7, 7, 7, 7, 7, 7, 7, 7, 7, 7, 7, 7, 7, 7, 7, 7, 7, 7, 7, 7, 7, 7, 7, 7, 7, 7, 7, 7, 7, 7, 7, 7, 7, 7, 7, 7, 7, 7, 7, 7, 7, 7, 7, 7, 7, 7, 7, 7, 7, 7, 7, 7, 7, 7, 7, 7, 8, 8, 8, 8, 8, 8, 8, 8, 8, 8, 8, 8, 8, 8, 8, 8, 8, 8, 8, 8, 8, 8, 8, 8, 8, 8, 8, 8, 8, 8, 8, 8, 8, 8, 8, 8, 8, 8, 8, 8, 8, 8, 8, 8, 8, 8, 8, 8, 8, 8, 8, 8, 8, 8, 8, 8, 8, 8, 8, 8, 8, 8, 8, 8, 8, 8, 8, 8, 8, 8, 8, 8, 8, 8, 8, 8, 8, 8, 8, 8, 8, 8, 8, 8, 8, 8, 8, 8, 8, 8, 8, 8, 8, 8, 8, 8, 8, 8, 8, 8, 8, 8, 8, 8, 8, 8, 8, 8, 8, 8, 8, 8, 8, 8, 8, 8, 8, 8, 8, 8, 8, 8, 8, 8, 8, 8, 8, 8] }) (.int .u8 ((x : Int) / 256))).run Tryd.prog W = .ok (.int .u8 ((j + 1 : Nat) : Int)) W := ix
    clear hq h1 h2 e1 e2 ix
    go_enter Tryd.func59, Tryd.ntmps59
    go_wp2
    go_ret
    exact ⟨ret_intL (by omega), rfl⟩
end Go.Proofs.YtnpgnohnpbdblaaDoor
