/- graph.Check and GraphCheck, for any graph. -/
import Derived.Test.YtnkmfnnkophccaaDoorNear
namespace Go.Proofs.YtnkmfnnkophccaaDoor
open Go.RowKit

theorem check_any (N : Int) (A : Option Addr) (len cap : Nat) (es : List E) (w : World) (hr : Rd w A len 3 (ps3 .i64 .i64 .i64 es)) (hlen : len ≤ 9223372036854775807) :
    Calls Tryd.prog 11 #[.agg #[.int .i64 N, .slice A len cap]] w fun e w' => e = .returned (.int .i64 (gchk N es)) ∧ Below w.heap.size w w' := by
  have hel := ps3_len hr
  cases hL : glarge N len
  · obtain ⟨h1, h2, h3⟩ := glarge_false hL
    obtain ⟨n, rfl⟩ := Int.eq_ofNat_of_zero_le h1
    rw [gchk_small (by rw [hel]; exact hL)]
    exact check_small n A len cap es w hr (by omega) h3
  · rw [gchk_large (by rw [hel]; exact hL)]
    exact check_large N A len cap w hlen hL
theorem graphCheck_any (N : Int) (A : Option Addr) (len cap : Nat) (es : List E) (w : World) (hr : Rd w A len 3 (ps3 .i64 .i64 .i64 es)) (hlen : len ≤ 9223372036854775807) (hcap : len ≤ cap) :
    Calls Tryd.prog 17 #[.agg #[.int .i64 N, .slice A len cap]] w fun e w' => e = .returned (.int .i64 (gchk N es)) ∧ Below w.heap.size w w' := by
  have hel := ps3_len hr
  cases hL : glarge N len
  · obtain ⟨h1, h2, h3⟩ := glarge_false hL
    obtain ⟨n, rfl⟩ := Int.eq_ofNat_of_zero_le h1
    rw [gchk_small (by rw [hel]; exact hL)]
    exact graphCheck_small n A len cap es w hr (by omega) h3 hcap
  · rw [gchk_large (by rw [hel]; exact hL)]
    exact graphCheck_large N A len cap w hlen hL
end Go.Proofs.YtnkmfnnkophccaaDoor
