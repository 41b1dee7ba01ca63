/- For any graph, in whatever memory it comes: GraphHands returns true and leaves its argument as it was. No condition. -/
import Derived.Test.YtbdgefkpmgkecaaRows
import Derived.Test.YtbdgefkpmgkecaaOpen
import Derived.Test.YtbdgefkpmgkecaaHands
namespace Go.Proofs.Ytbdgefkpmgkecaa
open Go.ChangeShapes Go.WideShapes Go.ChangeAt Go.RowKit Go.Joins

theorem own : ownKnob Try.prog.godebug = none := by kernel_rfl
theorem laidOut : laidOutB Try.prog = true := by kernel_rfl

set_option maxRecDepth 100000 in
theorem hands_lifted (os : Os) (started : os.Started) (H : Type) (enc : TypeId × Value → H) :
    ReturnsInHanded {} Try.checked os 3 .any (Rows.graphHandsSpec.pre6 enc Try.prog Try.f3 Rows.graphHandsRow.domain false) (Rows.graphHandsSpec.post enc Try.prog Try.f3 false true false false) := by
  refine law_lift (C := Try.checked) (tb := 4) own started (by kernel_rfl) Try.func3 laidOut (by kernel_rfl) (by kernel_rfl) Try.underlying4 rfl ?_
    (ChangeSpec.witness6 (enc := enc) (C := Try.checked) false ⟨#[], #[.agg #[.int .i64 0, .slice none 0 0]], []⟩ 8 (by kernel_rfl) (by kernel_rfl) (by kernel_rfl) (by kernel_rfl)) ?_
  · intro H' ds hds
    have h : Try.f3.params.toList.length = 1 := by kernel_rfl
    rw [h] at hds
    match ds, hds with
    | [_], _ => rfl
  · intro W base args ds p hval0 hA hsz
    have hval : ∀ (j : Nat) t v, Try.f3.params[j]? = some t → args[j]? = some v → Value.okWide Try.prog W .any base t v := hval0
    have hA : DataW.TrodAll enc Try.prog W 0 (fun _ => true) true Try.f3.params.toList args.toList ds p := hA
    rw [Try.params3] at hA hval
    obtain ⟨v0, vs0, d0, ds0, p0, q0, hargs, rfl, rfl, h0, r0⟩ := trodAll_cons hA
    obtain ⟨rfl, rfl, rfl⟩ := trodAll_nil r0
    obtain rfl : args = #[v0] := by cases args; simp_all
    obtain ⟨c0, c1, y0, y1, m, rfl, _, _, hy0, hy1⟩ := open_agg2 Try.underlying24 (by kernel_rfl) (by kernel_rfl) (hval 0 24 v0 rfl rfl) h0
    obtain ⟨N, rfl, wN⟩ := tr_int Try.underlying3 hy0
    obtain ⟨A, len, cap, es, rfl, hmax, hcap, hlen, hr, hwf, hfit⟩ := tr_ps3 (bytes := 24) Try.underlying22 Try.underlying37 (by kernel_rfl) (by kernel_rfl) (by kernel_rfl) Try.underlying3 Try.underlying3 Try.underlying2 hy1
    exact hands_any N A len cap es W hr hmax hcap

theorem graphHands_holds : Rows.GraphHandsSaid :=
  OpenClaim.holds_of_wide 3 Try.f3 rfl rfl rfl rfl rfl rfl rfl ⟨rfl, rfl, rfl, rfl, rfl⟩ rfl rfl rfl rfl rfl (by kernel_rfl) Try.func3 (by kernel_rfl)
    (of_decide_eq_true (by kernel_rfl)) (by unfold Func.isWrapper; first | (rw [if_pos (by decide +kernel)]; kernel_rfl) | (rw [if_neg (by decide +kernel)]; exact ⟨rfl, rfl⟩))
    (fun os started H enc _ => hands_lifted os started H enc)
end Go.Proofs.Ytbdgefkpmgkecaa
