/- ScoreHavel: for any arguments, in whatever memory they come: the law returns true and leaves its arguments as they were. No condition. -/
import Derived.Test.YtfbomimkjiaohaaRows
import Derived.Test.YtfbomimkjiaohaaOpen
import Derived.Test.YtfbomimkjiaohaaScoreHavel
namespace Go.Proofs.Ytfbomimkjiaohaa
open Go.ChangeShapes Go.WideShapes Go.ChangeAt Go.RowKit Go.Joins

theorem own : ownKnob Try.prog.godebug = none := by kernel_rfl
theorem laidOut : laidOutB Try.prog = true := by kernel_rfl

set_option maxRecDepth 100000 in
theorem law_lifted (os : Os) (started : os.Started) (H : Type) (enc : TypeId × Value → H) :
    ReturnsInHanded {} Try.checked os 4 .any (Rows.scoreHavelSpec.pre6 enc Try.prog Try.f4 Rows.scoreHavelRow.domain false) (Rows.scoreHavelSpec.post enc Try.prog Try.f4 false true false false) := by
  refine law_lift (C := Try.checked) (tb := 4) own started (by kernel_rfl) Try.func4 laidOut (by kernel_rfl) (by kernel_rfl) Try.underlying4 rfl ?_
    (ChangeSpec.witness6 (enc := enc) (C := Try.checked) false ⟨#[], #[.slice none 0 0, .agg #[.int .i64 0, .slice none 0 0]], []⟩ 8 (by kernel_rfl) (by kernel_rfl) (by kernel_rfl) (by kernel_rfl)) ?_
  · intro H' ds hds
    have h : Try.f4.params.toList.length = 2 := by kernel_rfl
    rw [h] at hds
    match ds, hds with
    | [_, _], _ => rfl
  · intro W base args ds p hval0 hA hsz
    have hval : ∀ (j : Nat) t v, Try.f4.params[j]? = some t → args[j]? = some v → Value.okWide Try.prog W .any base t v := hval0
    have hA : DataW.TrodAll enc Try.prog W 0 (fun _ => true) true Try.f4.params.toList args.toList ds p := hA
    rw [Try.params4] at hA hval
    obtain ⟨v0, vs0, d0, ds0, p0, q0, hargs, rfl, rfl, h0, r0⟩ := trodAll_cons hA
    obtain ⟨v1, vs1, d1, ds1, p1, q1, rfl, rfl, rfl, h1, r1⟩ := trodAll_cons r0
    obtain ⟨rfl, rfl, rfl⟩ := trodAll_nil r1
    obtain rfl : args = #[v0, v1] := by cases args; simp_all
    obtain ⟨a0, len0, cap0, rfl⟩ := okWide_slice Try.underlying22 (hval 0 22 v0 rfl rfl)
    obtain ⟨f0, h0⟩ := h0
    obtain ⟨A0, l0, c0, zs0, hv, hmax0, hcap0, hr0, hwf0, _⟩ := tr_ints (bytes := 8) Try.underlying22 Try.underlying3 (by kernel_rfl) (by kernel_rfl) (by simpa [Value.cells] using h0)
    injection hv with e1 e2 e3
    subst e1; subst e2; subst e3
    obtain ⟨c0_1, c1_1, y0_1, y1_1, m1, rfl, _, _, hy0_1, hy1_1⟩ := open_agg2 Try.underlying33 (by kernel_rfl) (by kernel_rfl) (hval 1 33 v1 rfl rfl) h1
    obtain ⟨N1, rfl, wN1⟩ := tr_int Try.underlying3 hy0_1
    obtain ⟨A1, len1, cap1, es1, rfl, hmax1, hcap1, hlen1, hr1, hwf1, hfit1⟩ := tr_ps3 (bytes := 24) Try.underlying31 Try.underlying47 (by kernel_rfl) (by kernel_rfl) (by kernel_rfl) Try.underlying3 Try.underlying3 Try.underlying2 hy1_1
    exact scoreHavel_any a0 len0 cap0 zs0 N1 A1 len1 cap1 es1 W hr0 hmax0 hr1 hcap1 hmax1

theorem scoreHavel_holds : Rows.ScoreHavelSaid :=
  OpenClaim.holds_of_wide 4 Try.f4 rfl rfl rfl rfl rfl rfl rfl ⟨rfl, rfl, rfl, rfl, rfl⟩ rfl rfl rfl rfl rfl (by kernel_rfl) Try.func4 (by kernel_rfl)
    (of_decide_eq_true (by kernel_rfl)) (by unfold Func.isWrapper; first | (rw [if_pos (by decide +kernel)]; kernel_rfl) | (rw [if_neg (by decide +kernel)]; exact ⟨rfl, rfl⟩))
    (fun os started H enc _ => law_lifted os started H enc)
end Go.Proofs.Ytfbomimkjiaohaa
