/- slices.Index at int, where there is one. -/
import Derived.Test.YtonalhedjjobeaaDoorRows
import Derived.Test.YtonalhedjjobeaaDoorBase
namespace Go.Proofs.YtonalhedjjobeaaDoor
open Go.RowKit

set_option maxHeartbeats 400000 in
theorem index_at (A : Option Addr) (len cap : Nat) (zs : List Int) (x : Int) (w : World) (hz : Rd w A len 1 (ints .i64 zs)) (hl : len ≤ 9223372036854775807) (i : Nat) (hi : i < len) (hx : zs.getD i 0 = x) (hm : ∀ m, m < i → zs.getD m 0 ≠ x) :
    Calls Tryd.prog 41 #[.slice A len cap, .int .i64 x] w fun e w' => e = .returned (.int .i64 (i : Int)) ∧ w = w' := by
  have hzH := Lib.hid hz
  have hxH := Lib.hid hx; have hmH := Lib.hid hm
  clear hz hx hm
  go_enter Tryd.func41, Tryd.ntmps41
  go_wp2
  go_loop [8] (fun kv => ∃ k : Nat, k ≤ i ∧ kv = .int .i64 k) (fun kv => len - (intOf kv).toNat)
  case atStart => exact ⟨0, Nat.zero_le _, rfl⟩
  case round =>
    obtain ⟨k, hk, rfl⟩ := hrel
    obtain ⟨b, o, rfl, hab, hc⟩ := hzH.out.int (show k < len by omega)
    have hk0 : (0 : Int) ≤ (k : Int) := by omega
    have hkl : (k : Int) < len := by omega
    by_cases hax : k = i
    · subst hax
      rw [hxH.out] at hc
      have hb : (x == x) = true := by simp
      go_wp2
      go_ret
      exact ⟨rfl, rfl⟩
    · have hne := hmH.out k (by omega)
      generalize zs.getD k 0 = a at *
      have hb : (x == a) = false := by rw [beq_eq_false_iff_ne]; exact fun e => hne e.symm
      have hb2 : (a == x) = false := by rw [beq_eq_false_iff_ne]; exact hne
      clear hne
      go_wp2
      go_round
      case rel => exact ⟨k + 1, by omega, by go_num⟩
      case measure => simp [intOf]; omega
end Go.Proofs.YtonalhedjjobeaaDoor
