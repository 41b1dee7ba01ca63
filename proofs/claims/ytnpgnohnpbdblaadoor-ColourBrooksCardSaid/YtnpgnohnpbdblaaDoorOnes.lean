/- math/bits.OnesCount32: how many bits are set. -/
import Derived.Test.YtnpgnohnpbdblaaDoorRows
import Derived.Test.YtnpgnohnpbdblaaDoorBase
import Derived.Test.YtnpgnohnpbdblaaDoorPopc
namespace Go.Proofs.YtnpgnohnpbdblaaDoor
open Go.RowKit

def tab8 : ByteArray := { data := #[0, 1, 1, 2, 1, 2, 2, 3, 1, 2, 2, 3, 2, 3, 3, 4, 1, 2, 2, 3, 2, 3, 3, 4, 2, 3, 3, 4, 3, 4, 4, 5, 1, 2, 2, 3, 2, 3, 3, 4, 2, 3, 3, 4, 3, 4, 4, 5, 2, 3, 3, 4, 3, 4, 4, 5, 3, 4, 4, 5, 4, 5, 5, 6, 1, 2, 2, 3, 2, 3, 3, 4, 2, 3, 3, 4, 3, 4, 4, 5, 2, 3, 3, 4, 3, 4, 4, 5, 3, 4, 4, 5, 4, 5, 5, 6, 2, 3, 3, 4, 3, 4, 4, 5, 3, 4, 4, 5, 4, 5, 5, 6, 3, 4, 4, 5, 4, 5, 5, 6, 4, 5, 5, 6, 5, 6, 6, 7, 1, 2, 2, 3, 2, 3, 3, 4, 2, 3, 3, 4, 3, 4, 4, 5, 2, 3, 3, 4, 3, 4, 4, 5, 3, 4, 4, 5, 4, 5, 5, 6, 2, 3, 3, 4, 3, 4, 4, 5, 3, 4, 4, 5, 4, 5, 5, 6, 3, 4, 4, 5, 4, 5, 5, 6, 4, 5, 5, 6, 5, 6, 6, 7, 2, 3, 3, 4, 3, 4, 4, 5, 3, 4, 4, 5, 4, 5, 5, 6, 3, 4, 4, 5, 4, 5, 5, 6, 4, 5, 5, 6, 5, 6, 6, 7, 3, 4, 4, 5, 4, 5, 5, 6, 4, 5, 5, 6, 5, 6, 6, 7, 4, 5, 5, 6, 5, 6, 6, 7, 5, 6, 6, 7, 6, 7, 7, 8] }
theorem tab8_size : tab8.size = 256 := by decide +kernel
theorem tab8_ok : ∀ k : Fin 256, (tab8.data.getD k.val 0).toNat = popc 8 k.val := by decide +kernel
theorem idx8 (i : Int) (h0 : 0 ≤ i) (h1 : i < 256) (W : World) : (Instr.index 9 (.string { data := #[0, 1, 1, 2, 1, 2, 2, 3, 1, 2, 2, 3, 2, 3, 3, 4, 1, 2, 2, 3, 2, 3, 3, 4, 2, 3, 3, 4, 3, 4, 4, 5, 1, 2, 2, 3, 2, 3, 3, 4, 2, 3, 3, 4, 3, 4, 4, 5, 2, 3, 3, 4, 3, 4, 4, 5, 3, 4, 4, 5, 4, 5, 5, 6, 1, 2, 2, 3, 2, 3, 3, 4, 2, 3, 3, 4, 3, 4, 4, 5, 2, 3, 3, 4, 3, 4, 4, 5, 3, 4, 4, 5, 4, 5, 5, 6, 2, 3, 3, 4, 3, 4, 4, 5, 3, 4, 4, 5, 4, 5, 5, 6, 3, 4, 4, 5, 4, 5, 5, 6, 4, 5, 5, 6, 5, 6, 6, 7, 1, 2, 2, 3, 2, 3, 3, 4, 2, 3, 3, 4, 3, 4, 4, 5, 2, 3, 3, 4, 3, 4, 4, 5, 3, 4, 4, 5, 4, 5, 5, 6, 2, 3, 3, 4, 3, 4, 4, 5, 3, 4, 4, 5, 4, 5, 5, 6, 3, 4, 4, 5, 4, 5, 5, 6, 4, 5, 5, 6, 5, 6, 6, 7, 2, 3, 3, 4, 3, 4, 4, 5, 3, 4, 4, 5, 4, 5, 5, 6, 3, 4, 4, 5, 4, 5, 5, 6, 4, 5, 5, 6, 5, 6, 6, 7, 3, 4, 4, 5, 4, 5, 5, 6, 4, 5, 5, 6, 5, 6, 6, 7, 4, 5, 5, 6, 5, 6, 6, 7, 5, 6, 6, 7, 6, 7, 7, 8] }) (.int .u32 i)).run Tryd.prog W = .ok (.int .u8 (popc 8 i.toNat : Nat)) W := by
  obtain ⟨k, rfl⟩ := Int.eq_ofNat_of_zero_le h0
  have hk : k < 256 := by omega
  have hs : (k : Int) < (tab8.size : Int) := by rw [tab8_size]; omega
  have h := run_index_string (P := Tryd.prog) (w := W) 9 tab8 .u32 (k : Int) Tryd.underlying9
  rw [dif_pos ⟨by omega, hs⟩] at h
  refine Eq.trans h ?_
  have ht := tab8_ok ⟨k, hk⟩
  simp only at ht
  have he : ((tab8[(k : Int).toNat]'(by rw [Int.toNat_natCast]; omega)).toNat) = popc 8 (k : Int).toNat := by
    simp only [Int.toNat_natCast]
    rw [← ht]
    have hk2 : k < tab8.data.size := by have := tab8_size; exact (show k < tab8.size by omega)
    rw [Array.getD, dif_pos hk2]
    rfl
  rw [he]
theorem and255 (x : Int) (h0 : 0 ≤ x) (h1 : x < 4294967296) : bits .and .u32 x 255 = x % 256 := by
  obtain ⟨k, rfl⟩ := Int.eq_ofNat_of_zero_le h0
  have h := u32_and_nat k 255 (by omega) (by omega)
  rw [nat_mask8] at h
  rw [show (255 : Int) = ((255 : Nat) : Int) from rfl, h]
  omega
theorem popc_split (x : Nat) (hx : x < 1024) : popc 8 (x / 256) + popc 8 (x % 256) = popc 10 x := by
  have h1 : ∀ i, (x / 256).testBit i = x.testBit (i + 8) := by intro i; rw [show 256 = 2 ^ 8 from rfl, Nat.testBit_div_two_pow]
  have h2 : ∀ i, i < 8 → (x % 256).testBit i = x.testBit i := by intro i hi; rw [show 256 = 2 ^ 8 from rfl, Nat.testBit_mod_two_pow]; simp [hi]
  have h3 : ∀ i, 10 ≤ i → x.testBit i = false := fun i hi => Nat.testBit_lt_two_pow (Nat.lt_of_lt_of_le hx (Nat.pow_le_pow_right (n := 2) (by omega) hi))
  have hl : ∀ (p : Nat → Bool) (n : Nat), ((List.range (n + 1)).filter p).length = ((List.range n).filter p).length + if p n then 1 else 0 := by
    intro p n
    rw [List.range_succ, List.filter_append, List.length_append]
    cases h : p n <;> simp [h]
  unfold popc
  simp only [hl, h1, h2 0 (by omega), h2 1 (by omega), h2 2 (by omega), h2 3 (by omega), h2 4 (by omega), h2 5 (by omega), h2 6 (by omega), h2 7 (by omega), List.range_zero, List.filter_nil, List.length_nil]
  simp [h3 10 (by omega), h3 11 (by omega), h3 12 (by omega), h3 13 (by omega), h3 14 (by omega), h3 15 (by omega)]
  omega

set_option maxRecDepth 100000 in
set_option maxHeartbeats 400000 in
theorem ones_any (x : Nat) (w : World) (hx : x < 1024) :
    Calls Tryd.prog 35 #[.int .u32 (x : Int)] w fun e w' => e = .returned (.int .i64 (popc 10 x : Nat)) ∧ ∃ n, w' = w.drewN n := by
  have hs := popc_split x hx
  have a1 := and255 ((x : Int) / 65536) (by omega) (by omega)
  have a2 := and255 ((x : Int) / 256) (by omega) (by omega)
  have a3 := and255 (x : Int) (by omega) (by omega)
  have i1 := idx8 ((x : Int) / 16777216) (by omega) (by omega)
  have i2 := idx8 (bits .and .u32 ((x : Int) / 65536) 255) (by rw [a1]; omega) (by rw [a1]; omega)
  have i3 := idx8 (bits .and .u32 ((x : Int) / 256) 255) (by rw [a2]; omega) (by rw [a2]; omega)
  have i4 := idx8 (bits .and .u32 (x : Int) 255) (by rw [a3]; omega) (by rw [a3]; omega)
  have e1 : popc 8 ((x : Int) / 16777216).toNat = 0 := by rw [show ((x : Int) / 16777216).toNat = 0 by omega, popc_zero]
  have e2 : popc 8 (bits .and .u32 ((x : Int) / 65536) 255).toNat = 0 := by rw [a1, show ((x : Int) / 65536 % 256).toNat = 0 by omega, popc_zero]
  have e3 : popc 8 (bits .and .u32 ((x : Int) / 256) 255).toNat = popc 8 (x / 256) := by rw [a2, show ((x : Int) / 256 % 256).toNat = x / 256 by omega]
  have e4 : popc 8 (bits .and .u32 (x : Int) 255).toNat = popc 8 (x % 256) := by rw [a3, show ((x : Int) % 256).toNat = x % 256 by omega]
  rw [e1] at i1
  rw [e2] at i2
  rw [e3] at i3
  rw [e4] at i4
  have l3 := popc_le 8 (x / 256)
  have l4 := popc_le 8 (x % 256)
  have hsH := Lib.hid hs
  clear a1 a2 a3 e1 e2 e3 e4 hs
  generalize popc 8 (x / 256) = p at *
  generalize popc 8 (x % 256) = q at *
  go_enter Tryd.func35, Tryd.ntmps35
  go_wp2
  go_quiet (fail)
  go_wp2
  go_ret
  exact ⟨by rw [← hsH.out]; go_num, _, rfl⟩
end Go.Proofs.YtnpgnohnpbdblaaDoor
