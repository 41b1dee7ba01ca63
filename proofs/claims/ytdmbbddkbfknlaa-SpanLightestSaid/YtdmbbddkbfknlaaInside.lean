/- teamsterkeep.inside: are numbers from 0 to below n? -/
import Derived.Test.YtdmbbddkbfknlaaRows
import Derived.Test.YtdmbbddkbfknlaaBase
namespace Go.Proofs.Ytdmbbddkbfknlaa
open Go.RowKit

def inB (n i : Int) : Bool := decide (0 ≤ i) && decide (i < n)
def insideB (n : Int) (zs : List Int) : Bool := zs.all (inB n)
set_option maxHeartbeats 400000 in
theorem inside_any (n : Int) (A : Option Addr) (len cap : Nat) (zs : List Int) (w : World) (hz : Rd w A len 1 (ints .i64 zs)) (hl : len ≤ 9223372036854775807) :
    Calls Try.prog 10 #[.int .i64 n, .slice A len cap] w fun e w' => e = .returned (.bool (insideB n zs)) ∧ w = w' := by
  have hzl : zs.length = len := by simpa [ints] using hz.1
  have hzl := Lib.hid hzl
  have hzH := Lib.hid hz; clear hz
  go_enter Try.func10, Try.ntmps10
  go_wp2
  go_loop [9] (fun i => ∃ k : Nat, k ≤ len ∧ i = .int .i64 k ∧ (zs.take k).all (inB n) = true) (fun i => len - (intOf i).toNat)
  case atStart => exact ⟨0, Nat.zero_le _, rfl, rfl⟩
  case round =>
    obtain ⟨k, hk, rfl, hp⟩ := hrel
    have hpH := Lib.hid hp; clear hp
    by_cases hlt : k < len
    · obtain ⟨b, o, rfl, hab, hc⟩ := hzH.out.int hlt
      have hy := Lib.hid (all_take_succ' (inB n) 0 zs k (by rw [hzl.out]; exact hlt) hpH.out)
      have hno := Lib.hid (all_of_getD' (inB n) 0 zs k (by rw [hzl.out]; exact hlt))
      generalize zs.getD k 0 = a at *
      by_cases h0 : 0 ≤ a ∧ a < n
      · have hq := Lib.hid (show inB n a = true by simp [inB]; omega)
        obtain ⟨h1, h2⟩ := h0
        go_wp2
        go_round
        case rel => exact ⟨k + 1, by omega, by go_num, hy.out hq.out⟩
        case measure => simp [intOf]; omega
      · have hq := Lib.hid (show inB n a = false by simp [inB]; omega)
        have hr := Lib.hid (show insideB n zs = false from hno.out hq.out)
        go_wp2
        all_goals first
          | (exfalso; omega)
          | (go_ret; exact ⟨by rw [hr.out]; rfl, rfl⟩)
    · have hr := Lib.hid (show insideB n zs = true by
        have := hpH.out
        rwa [List.take_of_length_le (by rw [hzl.out]; omega)] at this)
      go_wp2
      go_ret
      exact ⟨by rw [hr.out]; rfl, rfl⟩
end Go.Proofs.Ytdmbbddkbfknlaa
