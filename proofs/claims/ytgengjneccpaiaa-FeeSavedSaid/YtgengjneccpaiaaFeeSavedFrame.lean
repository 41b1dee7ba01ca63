/- FeeSaved: for any arguments, in whatever memory they come: the law returns true and leaves its arguments as they were. No condition. -/
import Derived.Test.YtgengjneccpaiaaRows
import Derived.Test.YtgengjneccpaiaaOpen
import Derived.Test.YtgengjneccpaiaaNetOpen
import Derived.Test.YtgengjneccpaiaaFeeSaved
namespace Go.Proofs.Ytgengjneccpaiaa
open Go.ChangeShapes Go.WideShapes Go.ChangeAt Go.RowKit Go.Joins

theorem own : ownKnob Try.prog.godebug = none := by kernel_rfl
theorem laidOut : laidOutB Try.prog = true := by kernel_rfl

set_option maxRecDepth 100000 in
theorem law_lifted (os : Os) (started : os.Started) (H : Type) (enc : TypeId × Value → H) :
    ReturnsInHanded {} Try.checked os 4 .any (Rows.feeSavedSpec.pre6 enc Try.prog Try.f4 Rows.feeSavedRow.domain false) (Rows.feeSavedSpec.post enc Try.prog Try.f4 false true false false) := by
  refine law_lift (C := Try.checked) (tb := 4) own started (by kernel_rfl) Try.func4 laidOut (by kernel_rfl) (by kernel_rfl) Try.underlying4 rfl ?_
    (ChangeSpec.witness6 (enc := enc) (C := Try.checked) false ⟨#[], #[.agg #[.int .i64 0, .slice none 0 0], .int .i64 0, .int .i64 0, .int .i64 0, .slice none 0 0], []⟩ 8 (by kernel_rfl) (by kernel_rfl) (by kernel_rfl) (by kernel_rfl)) ?_
  · intro H' ds hds
    have h : Try.f4.params.toList.length = 5 := by kernel_rfl
    rw [h] at hds
    match ds, hds with
    | [_, _, _, _, _], _ => rfl
  · intro W base args ds p hval0 hA hsz
    have hval : ∀ (j : Nat) t v, Try.f4.params[j]? = some t → args[j]? = some v → Value.okWide Try.prog W .any base t v := hval0
    have hA : DataW.TrodAll enc Try.prog W 0 (fun _ => true) true Try.f4.params.toList args.toList ds p := hA
    rw [Try.params4] at hA hval
    obtain ⟨v0, vs0, d0, ds0, p0, q0, hargs, rfl, rfl, h0, r0⟩ := trodAll_cons hA
    obtain ⟨v1, vs1, d1, ds1, p1, q1, rfl, rfl, rfl, h1, r1⟩ := trodAll_cons r0
    obtain ⟨v2, vs2, d2, ds2, p2, q2, rfl, rfl, rfl, h2, r2⟩ := trodAll_cons r1
    obtain ⟨v3, vs3, d3, ds3, p3, q3, rfl, rfl, rfl, h3, r3⟩ := trodAll_cons r2
    obtain ⟨v4, vs4, d4, ds4, p4, q4, rfl, rfl, rfl, h4, r4⟩ := trodAll_cons r3
    obtain ⟨rfl, rfl, rfl⟩ := trodAll_nil r4
    obtain rfl : args = #[v0, v1, v2, v3, v4] := by cases args; simp_all
    obtain ⟨c0_0, c1_0, y0_0, y1_0, m0, rfl, _, _, hy0_0, hy1_0⟩ := open_agg2 Try.underlying24 (by kernel_rfl) (by kernel_rfl) (hval 0 24 v0 rfl rfl) h0
    obtain ⟨N0, rfl, wN0⟩ := tr_int Try.underlying3 hy0_0
    obtain ⟨A0, len0, cap0, es0, rfl, hmax0, hcap0, hlen0, hr0, hwf0⟩ := tr_arcs hy1_0
    obtain ⟨n1, rfl, rfl, rfl, wf1⟩ := open_int Try.underlying3 (hval 1 3 v1 rfl rfl) h1
    obtain ⟨n2, rfl, rfl, rfl, wf2⟩ := open_int Try.underlying3 (hval 2 3 v2 rfl rfl) h2
    obtain ⟨n3, rfl, rfl, rfl, wf3⟩ := open_int Try.underlying2 (hval 3 2 v3 rfl rfl) h3
    obtain ⟨a4, len4, cap4, rfl⟩ := okWide_slice Try.underlying25 (hval 4 25 v4 rfl rfl)
    obtain ⟨f4, h4⟩ := h4
    obtain ⟨A4, l4, c4, zs4, hv, hmax4, hcap4, hr4, hwf4, _⟩ := tr_ints (bytes := 8) Try.underlying25 Try.underlying2 (by kernel_rfl) (by kernel_rfl) (by simpa [Value.cells] using h4)
    injection hv with e1 e2 e3
    subst e1; subst e2; subst e3
    exact feeSaved_any N0 A0 len0 cap0 es0 n1 n2 n3 a4 len4 cap4 zs4 W hr0 hmax0 hr4 hmax4 (wf_i64 wf3).2

theorem feeSaved_holds : Rows.FeeSavedSaid :=
  OpenClaim.holds_of_wide 4 Try.f4 rfl rfl rfl rfl rfl rfl rfl ⟨rfl, rfl, rfl, rfl, rfl⟩ rfl rfl rfl rfl rfl (by kernel_rfl) Try.func4 (by kernel_rfl)
    (of_decide_eq_true (by kernel_rfl)) (by unfold Func.isWrapper; first | (rw [if_pos (by decide +kernel)]; kernel_rfl) | (rw [if_neg (by decide +kernel)]; exact ⟨rfl, rfl⟩))
    (fun os started H enc _ => law_lifted os started H enc)
end Go.Proofs.Ytgengjneccpaiaa
