/- TopMost: for any arguments, in whatever memory they come: the law returns true and leaves its arguments as they were. No condition. -/
import Derived.Test.YticffbcbfgboeaaRows
import Derived.Test.YticffbcbfgboeaaOpen
import Derived.Test.YticffbcbfgboeaaTopMost
namespace Go.Proofs.Yticffbcbfgboeaa
open Go.ChangeShapes Go.WideShapes Go.ChangeAt Go.RowKit Go.Joins

theorem own : ownKnob Try.prog.godebug = none := by kernel_rfl
theorem laidOut : laidOutB Try.prog = true := by kernel_rfl

set_option maxRecDepth 100000 in
theorem law_lifted (os : Os) (started : os.Started) (H : Type) (enc : TypeId × Value → H) :
    ReturnsInHanded {} Try.checked os 3 .any (Rows.topMostSpec.pre6 enc Try.prog Try.f3 Rows.topMostRow.domain false) (Rows.topMostSpec.post enc Try.prog Try.f3 false true false false) := by
  refine law_lift (C := Try.checked) (tb := 4) own started (by kernel_rfl) Try.func3 laidOut (by kernel_rfl) (by kernel_rfl) Try.underlying4 rfl ?_
    (ChangeSpec.witness6 (enc := enc) (C := Try.checked) false ⟨#[], #[.slice none 0 0, .slice none 0 0, .slice none 0 0], []⟩ 8 (by kernel_rfl) (by kernel_rfl) (by kernel_rfl) (by kernel_rfl)) ?_
  · intro H' ds hds
    have h : Try.f3.params.toList.length = 3 := by kernel_rfl
    rw [h] at hds
    match ds, hds with
    | [_, _, _], _ => rfl
  · intro W base args ds p hval0 hA hsz
    have hval : ∀ (j : Nat) t v, Try.f3.params[j]? = some t → args[j]? = some v → Value.okWide Try.prog W .any base t v := hval0
    have hA : DataW.TrodAll enc Try.prog W 0 (fun _ => true) true Try.f3.params.toList args.toList ds p := hA
    rw [Try.params3] at hA hval
    obtain ⟨v0, vs0, d0, ds0, p0, q0, hargs, rfl, rfl, h0, r0⟩ := trodAll_cons hA
    obtain ⟨v1, vs1, d1, ds1, p1, q1, rfl, rfl, rfl, h1, r1⟩ := trodAll_cons r0
    obtain ⟨v2, vs2, d2, ds2, p2, q2, rfl, rfl, rfl, h2, r2⟩ := trodAll_cons r1
    obtain ⟨rfl, rfl, rfl⟩ := trodAll_nil r2
    obtain rfl : args = #[v0, v1, v2] := by cases args; simp_all
    obtain ⟨a0, len0, cap0, rfl⟩ := okWide_slice Try.underlying22 (hval 0 22 v0 rfl rfl)
    obtain ⟨f0, h0⟩ := h0
    obtain ⟨A0, l0, c0, zs0, hv, hmax0, hcap0, hlen0, hr0, hwf0, _⟩ := tr_ps2 (bytes := 16) Try.underlying22 Try.underlying39 (by kernel_rfl) (by kernel_rfl) (by kernel_rfl) Try.underlying3 Try.underlying28 (by simpa [Value.cells] using h0)
    injection hv with e1 e2 e3
    subst e1; subst e2; subst e3
    obtain ⟨a1, len1, cap1, rfl⟩ := okWide_slice Try.underlying23 (hval 1 23 v1 rfl rfl)
    obtain ⟨f1, h1⟩ := h1
    obtain ⟨A1, l1, c1, zs1, hv, hmax1, hcap1, hr1, hwf1, _⟩ := tr_ints (bytes := 4) Try.underlying23 Try.underlying28 (by kernel_rfl) (by kernel_rfl) (by simpa [Value.cells] using h1)
    injection hv with e1 e2 e3
    subst e1; subst e2; subst e3
    obtain ⟨a2, len2, cap2, rfl⟩ := okWide_slice Try.underlying24 (hval 2 24 v2 rfl rfl)
    obtain ⟨f2, h2⟩ := h2
    obtain ⟨A2, l2, c2, zs2, hv, hmax2, hcap2, hlen2, hr2, hwf2, hfit2⟩ := tr_ps3 (bytes := 24) Try.underlying24 Try.underlying26 (by kernel_rfl) (by kernel_rfl) (by kernel_rfl) Try.underlying3 Try.underlying3 Try.underlying3 (by simpa [Value.cells] using h2)
    injection hv with e1 e2 e3
    subst e1; subst e2; subst e3
    obtain ⟨ew1, hwx1⟩ := wds_ofP hwf1
    rw [ew1] at hr1
    have hbytes : len2 * 24 ≤ 140737488351232 := by
      refine hfit2 ?_
      rw [Try.params3] at hsz
      simp only [DataW.weightsEach, List.all_append, Bool.and_eq_true] at hsz
      exact hsz.2.2.1
    exact topMost_any a0 a1 a2 len0 len1 len2 cap0 cap1 cap2 zs0 (zs1.map Int.toNat) zs2 W hr0 hr1 hr2 hmax0 hmax1 hbytes (fun c hc => wf_u32 (hwf0 c hc).2) (fun i => by
      rcases Nat.lt_or_ge i (zs1.map Int.toNat).length with h | h
      · exact hwx1 _ (by simp only [List.getD, List.getElem?_eq_getElem h, Option.getD_some]; exact List.getElem_mem h)
      · simp only [List.getD, List.getElem?_eq_none h, Option.getD_none]; omega)

theorem topMost_holds : Rows.TopMostSaid :=
  OpenClaim.holds_of_wide 3 Try.f3 rfl rfl rfl rfl rfl rfl rfl ⟨rfl, rfl, rfl, rfl, rfl⟩ rfl rfl rfl rfl rfl (by kernel_rfl) Try.func3 (by kernel_rfl)
    (of_decide_eq_true (by kernel_rfl)) (by unfold Func.isWrapper; first | (rw [if_pos (by decide +kernel)]; kernel_rfl) | (rw [if_neg (by decide +kernel)]; exact ⟨rfl, rfl⟩))
    (fun os started H enc _ => law_lifted os started H enc)
end Go.Proofs.Yticffbcbfgboeaa
