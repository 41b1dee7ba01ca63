/- graph.Check, GraphCheck and good, for any graph. -/
import Derived.Test.YtbghkpkpmbbghaaDoorNear
namespace Go.Proofs.YtbghkpkpmbbghaaDoor
open Go.RowKit

theorem check_any (N : Int) (A : Option Addr) (len cap : Nat) (es : List E) (w : World) (hr : Rd w A len 3 (ps3 .i64 .i64 .i64 es)) (hlen : len ≤ 9223372036854775807) :
    Calls Tryd.prog 10 #[.agg #[.int .i64 N, .slice A len cap]] w fun e w' => e = .returned (.int .i64 (gchk N es)) ∧ Below w.heap.size w w' := by
  have hel := ps3_len hr
  cases hL : glarge N len
  · obtain ⟨h1, h2, h3⟩ := glarge_false hL
    obtain ⟨n, rfl⟩ := Int.eq_ofNat_of_zero_le h1
    rw [gchk_small (by rw [hel]; exact hL)]
    exact check_small n A len cap es w hr (by omega) h3
  · rw [gchk_large (by rw [hel]; exact hL)]
    exact check_large N A len cap w hlen hL
theorem graphCheck_any (N : Int) (A : Option Addr) (len cap : Nat) (es : List E) (w : World) (hr : Rd w A len 3 (ps3 .i64 .i64 .i64 es)) (hlen : len ≤ 9223372036854775807) (hcap : len ≤ cap) :
    Calls Tryd.prog 19 #[.agg #[.int .i64 N, .slice A len cap]] w fun e w' => e = .returned (.int .i64 (gchk N es)) ∧ Below w.heap.size w w' := by
  have hel := ps3_len hr
  cases hL : glarge N len
  · obtain ⟨h1, h2, h3⟩ := glarge_false hL
    obtain ⟨n, rfl⟩ := Int.eq_ofNat_of_zero_le h1
    rw [gchk_small (by rw [hel]; exact hL)]
    exact graphCheck_small n A len cap es w hr (by omega) h3 hcap
  · rw [gchk_large (by rw [hel]; exact hL)]
    exact graphCheck_large N A len cap w hlen hL
theorem good_any (N : Int) (A : Option Addr) (len cap : Nat) (es : List E) (w : World) (hr : Rd w A len 3 (ps3 .i64 .i64 .i64 es)) (hlen : len ≤ 9223372036854775807) (hcap : len ≤ cap) :
    Calls Tryd.prog 7 #[.agg #[.int .i64 N, .slice A len cap]] w fun e w' => e = .returned (.bool (gchk N es == 0)) ∧ Below w.heap.size w w' := by
  have hrH := Lib.hid hr; clear hr
  go_enter Tryd.func7, Tryd.ntmps7
  go_wp2_with fail
  refine (graphCheck_any N A len cap es _ (hrH.out.alloc _) hlen hcap).mono ?_
  rintro e w1 ⟨rfl, hb⟩
  go_wp2
  go_ret
  exact ⟨rfl, ((Below.refl _ _).alloc (Nat.le_refl _) _).trans (hb.mono (by simp))⟩

end Go.Proofs.YtbghkpkpmbbghaaDoor
