/- teamsterref.Bit, Size. -/
import Derived.Test.YtonalhedjjobeaaDoorRows
import Derived.Test.YtonalhedjjobeaaDoorBase
import Derived.Test.YtonalhedjjobeaaDoorPopc
namespace Go.Proofs.YtonalhedjjobeaaDoor
open Go.RowKit

theorem bit_any (x i : Nat) (w : World) (hx : x < 4294967296) (hi : i < 32) :
    Calls Tryd.prog 24 #[.int .u32 (x : Int), .int .i64 (i : Int)] w fun e w' => e = .returned (.bool (x.testBit i)) ∧ w = w' := by
  have hbc := bit_core x i hx hi
  have h0 : (0 : Int) ≤ i := by omega
  have h1 : (i : Int) < 32 := by omega
  go_enter Tryd.func24, Tryd.ntmps24
  go_wp2
  go_ret
  exact ⟨rfl, rfl⟩
theorem popc_next (k x : Nat) : popc (k + 1) x = popc k x + if x.testBit k then 1 else 0 := by
  unfold popc
  rw [List.range_succ, List.filter_append, List.length_append]
  cases h : x.testBit k <;> simp [h]
theorem popc_more {k x : Nat} (hx : x < 2 ^ k) : ∀ m, popc (k + m) x = popc k x
  | 0 => rfl
  | m + 1 => by
    rw [← Nat.add_assoc, popc_next, popc_more hx m]
    have : x.testBit (k + m) = false := Nat.testBit_lt_two_pow (Nat.lt_of_lt_of_le hx (Nat.pow_le_pow_right (n := 2) (by omega) (by omega)))
    rw [this]; rfl
set_option maxHeartbeats 400000 in
theorem size_any (x : Nat) (w : World) (hx : x < 1024) :
    Calls Tryd.prog 11 #[.int .u32 (x : Int)] w fun e w' => e = .returned (.int .i64 (popc 10 x : Nat)) ∧ w = w' := by
  have hfin := Lib.hid (show popc 32 x = popc 10 x from popc_more (k := 10) hx 22)
  have HB := fun i (hi : i < 32) => Lib.hid (bit_any x i w (by omega) hi)
  go_enter Tryd.func11, Tryd.ntmps11
  go_wp2
  go_loop [3, 4] (fun n i => ∃ k : Nat, k ≤ 32 ∧ i = .int .i64 k ∧ n = .int .i64 (popc k x : Nat)) (fun _ i => 32 - (intOf i).toNat)
  case atStart => exact ⟨0, Nat.zero_le _, rfl, rfl⟩
  case round =>
    obtain ⟨k, hk, rfl, rfl⟩ := hrel
    by_cases hlt : k < 32
    · have hn := Lib.hid (popc_next k x)
      have hle := popc_le k x
      have hb := HB k hlt
      generalize popc k x = p at *
      have hlt' : (k : Int) < 32 := by omega
      go_wp2_with fail
      refine hb.out.mono ?_
      rintro e w' ⟨rfl, rfl⟩
      cases hq : x.testBit k
      · have hn' := Lib.hid (show popc (k + 1) x = p by rw [hn.out, hq]; rfl)
        clear hq
        go_wp2
        go_round
        case rel => exact ⟨k + 1, by omega, by go_num, by rw [hn'.out]⟩
        case measure => simp [intOf]; omega
      · have hn' := Lib.hid (show popc (k + 1) x = p + 1 by rw [hn.out, hq]; rfl)
        clear hq
        go_wp2
        go_round
        case rel => exact ⟨k + 1, by omega, by go_num, by rw [hn'.out]; go_num⟩
        case measure => simp [intOf]; omega
    · obtain rfl : k = 32 := by omega
      rw [hfin.out]
      go_wp2
      go_ret
      exact ⟨rfl, rfl⟩
end Go.Proofs.YtonalhedjjobeaaDoor
