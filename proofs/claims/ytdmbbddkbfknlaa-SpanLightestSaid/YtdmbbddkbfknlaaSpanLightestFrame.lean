/- SpanLightest: for any arguments, in whatever memory they come: the law returns true and leaves its arguments as they were. No condition. -/
import Derived.Test.YtdmbbddkbfknlaaRows
import Derived.Test.YtdmbbddkbfknlaaOpen
import Derived.Test.YtdmbbddkbfknlaaSpanLightest
namespace Go.Proofs.Ytdmbbddkbfknlaa
open Go.ChangeShapes Go.WideShapes Go.ChangeAt Go.RowKit Go.Joins

theorem own : ownKnob Try.prog.godebug = none := by kernel_rfl
theorem laidOut : laidOutB Try.prog = true := by kernel_rfl

set_option maxRecDepth 100000 in
theorem law_lifted (os : Os) (started : os.Started) (H : Type) (enc : TypeId × Value → H) :
    ReturnsInHanded {} Try.checked os 3 .any (Rows.spanLightestSpec.pre6 enc Try.prog Try.f3 Rows.spanLightestRow.domain false) (Rows.spanLightestSpec.post enc Try.prog Try.f3 false true false false) := by
  refine law_lift (C := Try.checked) (tb := 4) own started (by kernel_rfl) Try.func3 laidOut (by kernel_rfl) (by kernel_rfl) Try.underlying4 rfl ?_
    (ChangeSpec.witness6 (enc := enc) (C := Try.checked) false ⟨#[], #[.agg #[.int .i64 0, .slice none 0 0], .slice none 0 0], []⟩ 8 (by kernel_rfl) (by kernel_rfl) (by kernel_rfl) (by kernel_rfl)) ?_
  · intro H' ds hds
    have h : Try.f3.params.toList.length = 2 := by kernel_rfl
    rw [h] at hds
    match ds, hds with
    | [_, _], _ => rfl
  · intro W base args ds p hval0 hA hsz
    have hval : ∀ (j : Nat) t v, Try.f3.params[j]? = some t → args[j]? = some v → Value.okWide Try.prog W .any base t v := hval0
    have hA : DataW.TrodAll enc Try.prog W 0 (fun _ => true) true Try.f3.params.toList args.toList ds p := hA
    rw [Try.params3] at hA hval
    obtain ⟨v0, vs0, d0, ds0, p0, q0, hargs, rfl, rfl, h0, r0⟩ := trodAll_cons hA
    obtain ⟨v1, vs1, d1, ds1, p1, q1, rfl, rfl, rfl, h1, r1⟩ := trodAll_cons r0
    obtain ⟨rfl, rfl, rfl⟩ := trodAll_nil r1
    obtain rfl : args = #[v0, v1] := by cases args; simp_all
    obtain ⟨c0_0, c1_0, y0_0, y1_0, m0, rfl, _, _, hy0_0, hy1_0⟩ := open_agg2 Try.underlying24 (by kernel_rfl) (by kernel_rfl) (hval 0 24 v0 rfl rfl) h0
    obtain ⟨N0, rfl, wN0⟩ := tr_int Try.underlying3 hy0_0
    obtain ⟨A0, len0, cap0, es0, rfl, hmax0, hcap0, hlen0, hr0, hwf0, hfit0⟩ := tr_ps3 (bytes := 24) Try.underlying22 Try.underlying34 (by kernel_rfl) (by kernel_rfl) (by kernel_rfl) Try.underlying3 Try.underlying3 Try.underlying2 hy1_0
    obtain ⟨a1, len1, cap1, rfl⟩ := okWide_slice Try.underlying25 (hval 1 25 v1 rfl rfl)
    obtain ⟨f1, h1⟩ := h1
    obtain ⟨A1, l1, c1, zs1, hv, hmax1, hcap1, hr1, hwf1, _⟩ := tr_ints (bytes := 8) Try.underlying25 Try.underlying3 (by kernel_rfl) (by kernel_rfl) (by simpa [Value.cells] using h1)
    injection hv with e1 e2 e3
    subst e1; subst e2; subst e3
    exact spanLightest_any N0 A0 len0 cap0 es0 a1 len1 cap1 zs1 W wN0 hr0 hmax0 hcap0 hwf0 hr1 hmax1 hcap1 hwf1

theorem spanLightest_holds : Rows.SpanLightestSaid :=
  OpenClaim.holds_of_wide 3 Try.f3 rfl rfl rfl rfl rfl rfl rfl ⟨rfl, rfl, rfl, rfl, rfl⟩ rfl rfl rfl rfl rfl (by kernel_rfl) Try.func3 (by kernel_rfl)
    (of_decide_eq_true (by kernel_rfl)) (by unfold Func.isWrapper; first | (rw [if_pos (by decide +kernel)]; kernel_rfl) | (rw [if_neg (by decide +kernel)]; exact ⟨rfl, rfl⟩))
    (fun os started H enc _ => law_lifted os started H enc)
end Go.Proofs.Ytdmbbddkbfknlaa
