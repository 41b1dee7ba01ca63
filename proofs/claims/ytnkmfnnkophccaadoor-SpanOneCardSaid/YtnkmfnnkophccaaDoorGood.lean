/- teamsterkeep.good, for any graph. -/
import Derived.Test.YtnkmfnnkophccaaDoorGoodC
namespace Go.Proofs.YtnkmfnnkophccaaDoor
open Go.RowKit

theorem good_any (N : Int) (A : Option Addr) (len cap : Nat) (es : List E) (w : World) (hr : Rd w A len 3 (ps3 .i64 .i64 .i64 es)) (hlen : len ≤ 9223372036854775807) (hcap : len ≤ cap) :
    Calls Tryd.prog 7 #[.agg #[.int .i64 N, .slice A len cap]] w fun e w' => e = .returned (.bool (gchk N es == 0)) ∧ Below w.heap.size w w' := by
  have hrH := Lib.hid hr; clear hr
  go_enter Tryd.func7, Tryd.ntmps7
  go_wp2_with fail
  refine (graphCheck_any N A len cap es _ (hrH.out.alloc _) hlen hcap).mono ?_
  rintro e w1 ⟨rfl, hb⟩
  go_wp2
  go_ret
  exact ⟨rfl, ((Below.refl _ _).alloc (Nat.le_refl _) _).trans (hb.mono (by simp))⟩

end Go.Proofs.YtnkmfnnkophccaaDoor
