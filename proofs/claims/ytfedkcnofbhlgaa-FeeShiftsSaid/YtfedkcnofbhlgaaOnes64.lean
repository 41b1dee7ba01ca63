/- math/bits.OnesCount at small numbers. -/
import Derived.Test.YtfedkcnofbhlgaaPopc
import Derived.Test.YtfedkcnofbhlgaaRows
namespace Go.Proofs.Ytfedkcnofbhlgaa
open Go.RowKit

theorem ret_int64 {k : IntKind} {a b : Int} (h : a = b) : Ending.returned (.int k a) = .returned (.int k b) := by rw [h]
theorem ones64_any (x : Nat) (w : World) (hx : x < 256) :
    Calls Try.prog 18 #[.int .u64 (x : Int)] w fun e w' => e = .returned (.int .i64 ((popc 8 x : Nat) : Int)) ∧ w = w' := by
  go_enter Try.func18, Try.ntmps18
  go_wp2
  go_ret
  refine ⟨ret_int64 ?_, rfl⟩
  clear w
  revert x
  decide +kernel
theorem ones_any (x : Nat) (w : World) (hx : x < 256) :
    Calls Try.prog 11 #[.int .u64 (x : Int)] w fun e w' => e = .returned (.int .i64 ((popc 8 x : Nat) : Int)) ∧ w = w' := by
  have H := Lib.hid (ones64_any x w hx)
  clear hx
  go_enter Try.func11, Try.ntmps11
  go_wp2_with fail
  refine H.out.mono ?_
  rintro e w' ⟨rfl, rfl⟩
  go_wp2
  go_ret
  exact ⟨rfl, rfl⟩
end Go.Proofs.Ytfedkcnofbhlgaa
