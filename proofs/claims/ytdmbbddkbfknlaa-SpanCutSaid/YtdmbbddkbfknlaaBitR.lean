/- teamsterref.Bit alone. -/
import Derived.Test.YtdmbbddkbfknlaaRows
import Derived.Test.YtdmbbddkbfknlaaBase
namespace Go.Proofs.Ytdmbbddkbfknlaa
open Go.RowKit

theorem bitR_any (x i : Nat) (w : World) (hx : x < 4294967296) (hi : i < 32) :
    Calls Try.prog 9 #[.int .u32 (x : Int), .int .i64 (i : Int)] w fun e w' => e = .returned (.bool (x.testBit i)) ∧ w = w' := by
  have hbc := bit_core x i hx hi
  have h0 : (0 : Int) ≤ i := by omega
  have h1 : (i : Int) < 32 := by omega
  go_enter Try.func9, Try.ntmps9
  go_wp2
  go_ret
  exact ⟨rfl, rfl⟩
end Go.Proofs.Ytdmbbddkbfknlaa
