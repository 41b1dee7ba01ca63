/- One change. -/
import Derived.Test.YticffbcbfgboeaaCrewE
namespace Go.Proofs.Yticffbcbfgboeaa
open Go.RowKit Go.Shelf

section
variable {pl : List (Int × Int) → List Nat → List Int} {ws : List (Int × Int)} {ss : List Nat} {s : CS}
theorem step_off {k who n c : Int} (h : stepC ws ss s (k, who, n) = c) (hc : c ≠ 0) : stepS pl ws ss s (k, who, n) = s := by
  unfold stepS; rw [h, if_neg hc]
theorem step_on {k who n : Int} (h : stepC ws ss s (k, who, n) = 0) : stepS pl ws ss s (k, who, n) = doneF pl ws ss s (k, who, n) := by
  unfold stepS; rw [h, if_pos rfl]
theorem stepC_kind {k who n : Int} (h : k < 1 ∨ 4 < k) : stepC ws ss s (k, who, n) = 6 := by
  unfold stepC; rw [if_pos h]
theorem stepC_tick {who n : Int} : stepC ws ss s (4, who, n) = 0 := by
  unfold stepC; rw [if_neg (by dsimp only; omega), if_pos rfl]
theorem stepC_want_arg {who n : Int} (h : who < 0 ∨ (ss.length : Int) ≤ who) : stepC ws ss s (3, who, n) = 2 := by
  unfold stepC; rw [if_neg (by dsimp only; omega), if_neg (by dsimp only; omega)]; simp only [if_true]; rw [if_pos h]
theorem stepC_want {i : Nat} {n : Int} (h : i < ss.length) : stepC ws ss s (3, (i : Int), n) = wantC s i n := by
  unfold stepC wantC; rw [if_neg (by dsimp only; omega), if_neg (by dsimp only; omega)]; simp only [if_true]; rw [if_neg (by omega), Int.toNat_natCast]
theorem stepC_arg {k who n : Int} (hk : k = 1 ∨ k = 2) (h : who < 0 ∨ (ws.length : Int) ≤ who) : stepC ws ss s (k, who, n) = 2 := by
  unfold stepC
  rw [if_neg (by simp only; omega), if_neg (by simp only; omega)]
  simp only [show ¬ k = 3 by omega, if_false]
  rw [if_pos h]
theorem stepC_in {k n : Int} {i : Nat} (hk : k = 1 ∨ k = 2) (h : i < ws.length) : stepC ws ss s (k, (i : Int), n) = if s.inn.testBit i = decide (k = 1) then 7 else 0 := by
  unfold stepC
  rw [if_neg (by simp only; omega), if_neg (by simp only; omega)]
  simp only [show ¬ k = 3 by omega, if_false, Int.toNat_natCast]
  rw [if_neg (by omega)]
end
set_option maxHeartbeats 3200000 in
set_option maxRecDepth 100000 in
set_option linter.unusedSimpArgs false in
theorem change_any (pl : List (Int × Int) → List Nat → List Int) (hpl : ∀ (ws : List (Int × Int)) (ts : List Nat) (n : Nat) (room : Nat → Int) (t : Int) (l : List Int), n = ts.length → Gr (PDm ws ts (rms ws)) n room t l → l = pl ws ts)
    (cb nw ns : Nat) (A B : Option Addr) (cA cB : Nat) (ws : List (Int × Int)) (ss : List Nat) (s : CS) (cs : List Int) (vC vW vT : Value) (tv : List Value) (kd who n : Int) (W : World)
    (h : CM cb ns (.slice A nw cA) (.slice B ns cB) s cs vC vW vT tv W) (hs : OkS nw ns s) (hok : pchk ws ns = 0)
    (hA : ∀ W', Below cb W W' → Rd W' A nw 2 (ps2 .i64 .u32 ws)) (hB : ∀ W', Below cb W W' → Rd W' B ns 1 (wds ss)) :
    Calls Try.prog 16 #[.pointer (some ⟨cb, 0, none⟩), .agg #[.int .i64 kd, .int .i64 who, .int .i64 n]] W fun e w' => e = .returned (.int .i64 (stepC ws ss s (kd, who, n))) ∧ (∃ tv', CM cb ns (.slice A nw cA) (.slice B ns cB) (stepS pl ws ss s (kd, who, n)) cs vC vW vT tv' w') ∧ Below cb W w' := by
  obtain ⟨hn6, hn12, hrm⟩ := pchk_ok hok
  have hwl : ws.length = nw := by have := (hA W (Below.refl _ _)).1; rw [ps2_length] at this; omega
  have hsl : ss.length = ns := by have := (hB W (Below.refl _ _)).1; rw [wds_length] at this; omega
  rw [hwl] at hn6
  have hlt := h.lt
  have h1 := h.later ((Below.refl _ W).alloc (Nat.le_refl _) (.cells #[.int .i64 kd, .int .i64 who, .int .i64 n] 26))
  have hb1 := (Below.refl cb W).alloc (Nat.le_of_lt h.lt) (.cells #[.int .i64 kd, .int .i64 who, .int .i64 n] 26)
  have bX := Blk.new W 26 #[.int .i64 kd, .int .i64 who, .int .i64 n]
  have c0 := h1.bk.cell (j := 0) rfl
  have c1 := h1.bk.cell (j := 1) rfl
  have x0 := bX.cell (j := 0) rfl
  have x1 := bX.cell (j := 1) rfl
  have x2 := bX.cell (j := 2) rfl
  have hT := Lib.hid (fun w' (hb : Below cb W w') (hM : CM cb ns (.slice A nw cA) (.slice B ns cB) s cs vC vW vT tv w') => tick_any pl hpl cb nw ns A B cA cB ws ss s cs vC vW vT tv w' hM hs hok (fun W' hW => hA W' (hb.trans hW)) (fun W' hW => hB W' (hb.trans hW)))
  have h1H := Lib.hid h1; have hb1H := Lib.hid hb1; have hsH := Lib.hid hs; have hwlH := Lib.hid hwl; have hslH := Lib.hid hsl
  clear h h1 hb1 bX hs hok hA hB hrm hwl hsl hpl
  obtain ⟨cd, hcd⟩ : ∃ cd, stepC ws ss s (kd, who, n) = cd := ⟨_, rfl⟩
  obtain ⟨s', hs'⟩ : ∃ s', stepS pl ws ss s (kd, who, n) = s' := ⟨_, rfl⟩
  rw [hcd, hs']
  have hcdH := Lib.hid hcd; have hsH' := Lib.hid hs'
  clear hcd hs'
  by_cases hlo : kd < 1
  · obtain rfl : 6 = cd := (stepC_kind (.inl hlo)).symm.trans hcdH.out
    obtain rfl : s = s' := (step_off hcdH.out (by decide)).symm.trans hsH'.out
    have hd : decide (kd < 1) = true := decide_eq_true hlo
    have hk3 : (kd == 3) = false := beq_false_of_ne (by omega)
    go_enter Try.func16, Try.ntmps16
    go_wp2
    go_ret
    exact ⟨rfl, ⟨_, h1H.out⟩, hb1H.out⟩
  by_cases hhi : 4 < kd
  · obtain rfl : 6 = cd := (stepC_kind (.inr hhi)).symm.trans hcdH.out
    obtain rfl : s = s' := (step_off hcdH.out (by decide)).symm.trans hsH'.out
    have hd : decide (kd < 1) = false := decide_eq_false hlo
    have hd2 : decide (4 < kd) = true := decide_eq_true hhi
    have hk3 : (kd == 3) = false := beq_false_of_ne (by omega)
    go_enter Try.func16, Try.ntmps16
    go_wp2
    go_ret
    exact ⟨rfl, ⟨_, h1H.out⟩, hb1H.out⟩
  by_cases h4 : kd = 4
  · subst h4
    obtain rfl : 0 = cd := stepC_tick.symm.trans hcdH.out
    have hs2 : tickF pl ws ss s = s' := (show stepS pl ws ss s (4, who, n) = tickF pl ws ss s from (step_on hcdH.out).trans rfl).symm.trans hsH'.out
    subst hs2
    have HT := Lib.hid (hT.out _ hb1H.out h1H.out)
    go_enter Try.func16, Try.ntmps16
    go_wp2_with fail
    refine HT.out.mono ?_
    rintro e w2 ⟨⟨x, rfl⟩, ⟨tv2, hM2⟩, hb2⟩
    have hfin := Lib.hid (And.intro hM2 (hb1H.out.trans hb2))
    clear hM2 hb2 HT
    go_wp2
    go_ret
    exact ⟨rfl, ⟨_, hfin.out.1⟩, hfin.out.2⟩
  by_cases h3 : kd = 3
  · subst h3
    by_cases har : who < 0 ∨ (ns : Int) ≤ who
    · obtain rfl : 2 = cd := (stepC_want_arg (by rw [hslH.out]; exact har)).symm.trans hcdH.out
      obtain rfl : s = s' := (step_off hcdH.out (by decide)).symm.trans hsH'.out
      by_cases hw0 : who < 0
      · have hd : decide (who < 0) = true := decide_eq_true hw0
        go_enter Try.func16, Try.ntmps16
        go_wp2
        go_ret
        exact ⟨rfl, ⟨_, h1H.out⟩, hb1H.out⟩
      · have hd : decide (who < 0) = false := decide_eq_false hw0
        have hd2 : decide ((ns : Int) ≤ who) = true := decide_eq_true (by omega)
        go_enter Try.func16, Try.ntmps16
        go_wp2
        go_ret
        exact ⟨rfl, ⟨_, h1H.out⟩, hb1H.out⟩
    · obtain ⟨i, rfl⟩ := Int.eq_ofNat_of_zero_le (show 0 ≤ who by omega)
      have hin : i < ns := by omega
      have hd : decide ((i : Int) < 0) = false := decide_eq_false (by omega)
      have hd2 : decide ((ns : Int) ≤ (i : Int)) = false := decide_eq_false (by omega)
      have hcw := stepC_want (ws := ws) (s := s) (n := n) (i := i) (ss := ss) (by rw [hslH.out]; exact hin)
      obtain rfl : wantC s i n = cd := hcw.symm.trans hcdH.out
      have hs2 : (if wantC s i n = 0 then (⟨s.inn, s.wants.set i n, s.tasks⟩ : CS) else s) = s' := by
        rw [← hsH'.out]
        by_cases h0 : wantC s i n = 0
        · rw [if_pos h0, step_on (hcw.trans h0)]
          unfold doneF
          rw [if_neg (by dsimp only; omega), if_pos rfl, Int.toNat_natCast]
        · rw [if_neg h0, step_off hcw h0]
      have HWt := Lib.hid (want_any cb nw ns i n _ _ s cs vC vW vT tv _ h1H.out hsH.out hin hn12)
      rw [hs2] at HWt
      generalize wantC s i n = cd at *
      clear hs2 hcw hcdH hsH'
      go_enter Try.func16, Try.ntmps16
      go_wp2_with fail
      refine HWt.out.mono ?_
      rintro e w2 ⟨rfl, hM2, hb2⟩
      have hfin := Lib.hid (And.intro hM2 (hb1H.out.trans hb2))
      clear hM2 hb2 HWt
      go_wp2
      go_ret
      exact ⟨rfl, ⟨_, hfin.out.1⟩, hfin.out.2⟩
  have hk12 : kd = 1 ∨ kd = 2 := by omega
  have hk3 : (kd == 3) = false := beq_false_of_ne h3
  have hk4 : (kd == 4) = false := beq_false_of_ne h4
  have hdl : decide (kd < 1) = false := decide_eq_false hlo
  have hdh : decide (4 < kd) = false := decide_eq_false hhi
  by_cases har : who < 0 ∨ (nw : Int) ≤ who
  · obtain rfl : 2 = cd := (stepC_arg hk12 (by rw [hwlH.out]; exact har)).symm.trans hcdH.out
    obtain rfl : s = s' := (step_off hcdH.out (by decide)).symm.trans hsH'.out
    by_cases hw0 : who < 0
    · have hd : decide (who < 0) = true := decide_eq_true hw0
      go_enter Try.func16, Try.ntmps16
      go_wp2
      go_ret
      exact ⟨rfl, ⟨_, h1H.out⟩, hb1H.out⟩
    · have hd : decide (who < 0) = false := decide_eq_false hw0
      have hd2 : decide ((nw : Int) ≤ who) = true := decide_eq_true (by omega)
      go_enter Try.func16, Try.ntmps16
      go_wp2
      go_ret
      exact ⟨rfl, ⟨_, h1H.out⟩, hb1H.out⟩
  obtain ⟨i, rfl⟩ := Int.eq_ofNat_of_zero_le (show 0 ≤ who by omega)
  have hin : i < nw := by omega
  have hd : decide ((i : Int) < 0) = false := decide_eq_false (by omega)
  have hd2 : decide ((nw : Int) ≤ (i : Int)) = false := decide_eq_false (by omega)
  have hcw := stepC_in (ss := ss) (s := s) (n := n) (ws := ws) hk12 (show i < ws.length by rw [hwlH.out]; exact hin)
  rw [hcw] at hcdH
  have hinn : s.inn < 64 := Nat.lt_of_lt_of_le hsH.out.inn (Nat.pow_le_pow_right (n := 2) (by omega) hn6)
  have hi0 : (0 : Int) ≤ i := by omega
  have hi1 : (i : Int) < 32 := by omega
  have hM2 := h1H.out.later ((Below.refl _ _).drew)
  have HI := Lib.hid (in_any cb _ _ _ _ _ s.inn i _ hM2.bk (by omega) (by omega))
  have hM2H := Lib.hid hM2
  clear hM2 hlo hhi h4 h3 har
  obtain ⟨bb, hbb⟩ : ∃ bb, s.inn.testBit i = bb := ⟨_, rfl⟩
  rw [hbb] at hcdH hcw HI
  rcases hk12 with rfl | rfl
  · cases bb
    case false =>
      replace hcw := hcw.trans (if_neg (by decide))
      obtain rfl : 0 = cd := by have := hcdH.out; rw [if_neg (by decide)] at this; exact this
      obtain ⟨x, hx⟩ : ∃ x, s.inn ||| 2 ^ i = x := ⟨_, rfl⟩
      have hs2 : (⟨x, s.wants, s.tasks⟩ : CS) = s' := by
        rw [← hsH'.out, step_on hcw, ← hx]; unfold doneF
        rw [if_neg (by dsimp only; omega), if_neg (by dsimp only; omega), if_pos rfl, Int.toNat_natCast]
      subst hs2
      have hpi : 2 ^ i ≤ 2 ^ 6 := Nat.pow_le_pow_right (by omega) (by omega)
      have hpw : IntKind.u32.wrap ((2 : Int) ^ i) = ((2 ^ i : Nat) : Int) := by rw [IntKind.wrap_u32']; exact two_pow_u32 i (by omega)
      have hor := u32_or_nat s.inn (2 ^ i) (by omega) (by omega)
      rw [hx] at hor
      have hor2 : bits .or .u32 (s.inn : Int) ((2 : Int) ^ i) = (x : Int) := by rw [show ((2 : Int) ^ i) = ((2 ^ i : Nat) : Int) by simp]; exact hor
      clear hor hsH' hcdH hcw hbb hx
      go_enter Try.func16, Try.ntmps16
      go_upto_region 13 with fail
      generalize W.alloc (.cells #[.int .i64 1, .int .i64 (i : Int), .int .i64 n] 26) = w1 at *
      generalize hbX : W.heap.size = bX at *
      refine region_last (fun w' => w'.cell? ⟨bX, 0, none⟩ = some (.int .i64 1) ∧ w'.cell? ⟨bX, 1, none⟩ = some (.int .i64 (i : Int))) (by kernel_rfl) rfl (by kernel_rfl) ⟨x0, x1⟩ (fun hHeld => ?_)
      dsimp only [List.dropLast]
      (refine wpAnyH_take (i := 0) (v := ?_) rfl (by kernel_rfl) (by kernel_rfl) (by kernel_rfl) (fun _ _ _ h => h) (Or.inl ⟨by rfl, ?_⟩) hHeld ?_; rotate_left; first | (intro w' hSw; go_simp; done) | (intro w' hSw; go_simp; with_reducible rfl))
      simp only [Act.put, List.getElem_toArray, List.getElem_cons_zero, List.getElem_cons_succ, List.setIfInBounds_toArray, List.set_cons_zero, List.set_cons_succ]
      (refine wpAnyH_take (i := 1) (v := ?_) rfl (by kernel_rfl) (by kernel_rfl) (by kernel_rfl) (fun _ _ _ h => h) (Or.inl ⟨by rfl, ?_⟩) hHeld ?_; rotate_left; first | (intro w' hSw; go_simp; done) | (intro w' hSw; go_simp; with_reducible rfl))
      simp only [Act.put, List.getElem_toArray, List.getElem_cons_zero, List.getElem_cons_succ, List.setIfInBounds_toArray, List.set_cons_zero, List.set_cons_succ]
      (refine wpAnyH_take (i := 2) (v := ?_) rfl (by kernel_rfl) (by kernel_rfl) (by kernel_rfl) (fun _ _ _ h => h) (Or.inl ⟨by rfl, ?_⟩) hHeld ?_; rotate_left; first | (intro w' hSw; (have hq := hSw.2); go_simp; done) | (intro w' hSw; (have hq := hSw.2); go_simp; with_reducible rfl))
      simp only [Act.put, List.getElem_toArray, List.getElem_cons_zero, List.getElem_cons_succ, List.setIfInBounds_toArray, List.set_cons_zero, List.set_cons_succ]
      (refine wpAnyH_take (i := 4) (v := ?_) rfl (by kernel_rfl) (by kernel_rfl) (by kernel_rfl) (fun _ _ _ h => h) (Or.inl ⟨by rfl, ?_⟩) hHeld ?_; rotate_left; first | (intro w' hSw; go_simp; done) | (intro w' hSw; go_simp; with_reducible rfl))
      simp only [Act.put, List.getElem_toArray, List.getElem_cons_zero, List.getElem_cons_succ, List.setIfInBounds_toArray, List.set_cons_zero, List.set_cons_succ]
      (refine wpAnyH_take (i := 5) (v := ?_) rfl (by kernel_rfl) (by kernel_rfl) (by kernel_rfl) (fun _ _ _ h => h) (Or.inl ⟨by rfl, ?_⟩) hHeld ?_; rotate_left; first | (intro w' hSw; (have hq := hSw.1); go_simp; done) | (intro w' hSw; (have hq := hSw.1); go_simp; with_reducible rfl))
      simp only [Act.put, List.getElem_toArray, List.getElem_cons_zero, List.getElem_cons_succ, List.setIfInBounds_toArray, List.set_cons_zero, List.set_cons_succ]
      (refine wpAnyH_take (i := 6) (v := ?_) rfl (by kernel_rfl) (by kernel_rfl) (by kernel_rfl) (fun _ _ _ h => h) (Or.inl ⟨by rfl, ?_⟩) hHeld ?_; rotate_left; first | (intro w' hSw; go_simp; done) | (intro w' hSw; go_simp; with_reducible rfl))
      simp only [Act.put, List.getElem_toArray, List.getElem_cons_zero, List.getElem_cons_succ, List.setIfInBounds_toArray, List.set_cons_zero, List.set_cons_succ]
      refine wpAnyH_ready (rs := [3]) (by kernel_rfl) (by simp) ?_
      refine AllReadyH.cons rfl (fun K hK => ?_) AllReadyH.nil
      go_simp
      refine HI.out.mono ?_
      rintro e wz ⟨rfl, rfl⟩
      refine hK.out _ _ hHeld (fun hHeld => ?_)
      clear hK K HI
      (try simp only [Act.put, List.getElem_toArray, List.getElem_cons_zero, List.getElem_cons_succ, List.setIfInBounds_toArray, List.set_cons_zero, List.set_cons_succ])
      (refine wpAnyH_take (i := 7) (v := ?_) rfl (by kernel_rfl) (by kernel_rfl) (by kernel_rfl) (fun _ _ _ h => h) (Or.inl ⟨by rfl, ?_⟩) hHeld ?_; rotate_left; first | (intro w' hSw; go_simp; done) | (intro w' hSw; go_simp; with_reducible rfl))
      simp only [Act.put, List.getElem_toArray, List.getElem_cons_zero, List.getElem_cons_succ, List.setIfInBounds_toArray, List.set_cons_zero, List.set_cons_succ]
      refine wpAnyH_done (by kernel_rfl) ?_ _
      clear hHeld
      have hb2 : Below cb W w1.drew := hb1H.out.drew
      have hb2H := Lib.hid hb2
      have y0 : w1.drew.cell? ⟨bX, 0, none⟩ = some (.int .i64 1) := x0
      have y1 : w1.drew.cell? ⟨bX, 1, none⟩ = some (.int .i64 (i : Int)) := x1
      clear x0 x1 x2 c0 c1 hb2 hb1H h1H hT
      generalize w1.drew = w2 at *
      show Oper.wp _ _ _ _ _ _
      go_simp
      go_upto_region 16 with fail
      have c3 := hM2H.out.bk.cell (j := 3) rfl
      refine region_last (fun w' => w'.cell? ⟨cb, 3, none⟩ = some (.int .u32 (s.inn : Int)) ∧ w'.cell? ⟨bX, 1, none⟩ = some (.int .i64 (i : Int))) (by kernel_rfl) rfl (by kernel_rfl) ⟨c3, y1⟩ (fun hHeld => ?_)
      dsimp only [List.dropLast]
      (refine wpAnyH_take (i := 0) (v := ?_) rfl (by kernel_rfl) (by kernel_rfl) (by kernel_rfl) (fun _ _ _ h => h) (Or.inl ⟨by rfl, ?_⟩) hHeld ?_; rotate_left; first | (intro w' hSw; go_simp; done) | (intro w' hSw; go_simp; with_reducible rfl))
      simp only [Act.put, List.getElem_toArray, List.getElem_cons_zero, List.getElem_cons_succ, List.setIfInBounds_toArray, List.set_cons_zero, List.set_cons_succ]
      (refine wpAnyH_take (i := 1) (v := ?_) rfl (by kernel_rfl) (by kernel_rfl) (by kernel_rfl) (fun _ _ _ h => h) (Or.inl ⟨by rfl, ?_⟩) hHeld ?_; rotate_left; first | (intro w' hSw; go_simp; done) | (intro w' hSw; go_simp; with_reducible rfl))
      simp only [Act.put, List.getElem_toArray, List.getElem_cons_zero, List.getElem_cons_succ, List.setIfInBounds_toArray, List.set_cons_zero, List.set_cons_succ]
      (refine wpAnyH_take (i := 2) (v := ?_) rfl (by kernel_rfl) (by kernel_rfl) (by kernel_rfl) (fun _ _ _ h => h) (Or.inl ⟨by rfl, ?_⟩) hHeld ?_; rotate_left; first | (intro w' hSw; go_simp; done) | (intro w' hSw; go_simp; with_reducible rfl))
      simp only [Act.put, List.getElem_toArray, List.getElem_cons_zero, List.getElem_cons_succ, List.setIfInBounds_toArray, List.set_cons_zero, List.set_cons_succ]
      (refine wpAnyH_take (i := 3) (v := ?_) rfl (by kernel_rfl) (by kernel_rfl) (by kernel_rfl) (fun _ _ _ h => h) (Or.inl ⟨by rfl, ?_⟩) hHeld ?_; rotate_left; first | (intro w' hSw; go_simp; done) | (intro w' hSw; go_simp; with_reducible rfl))
      simp only [Act.put, List.getElem_toArray, List.getElem_cons_zero, List.getElem_cons_succ, List.setIfInBounds_toArray, List.set_cons_zero, List.set_cons_succ]
      (refine wpAnyH_take (i := 4) (v := ?_) rfl (by kernel_rfl) (by kernel_rfl) (by kernel_rfl) (fun _ _ _ h => h) (Or.inl ⟨by rfl, ?_⟩) hHeld ?_; rotate_left; first | (intro w' hSw; (have hq := hSw.1); go_simp; done) | (intro w' hSw; (have hq := hSw.1); go_simp; with_reducible rfl))
      simp only [Act.put, List.getElem_toArray, List.getElem_cons_zero, List.getElem_cons_succ, List.setIfInBounds_toArray, List.set_cons_zero, List.set_cons_succ]
      (refine wpAnyH_take (i := 5) (v := ?_) rfl (by kernel_rfl) (by kernel_rfl) (by kernel_rfl) (fun _ _ _ h => h) (Or.inl ⟨by rfl, ?_⟩) hHeld ?_; rotate_left; first | (intro w' hSw; go_simp; done) | (intro w' hSw; go_simp; with_reducible rfl))
      simp only [Act.put, List.getElem_toArray, List.getElem_cons_zero, List.getElem_cons_succ, List.setIfInBounds_toArray, List.set_cons_zero, List.set_cons_succ]
      (refine wpAnyH_take (i := 6) (v := ?_) rfl (by kernel_rfl) (by kernel_rfl) (by kernel_rfl) (fun _ _ _ h => h) (Or.inl ⟨by rfl, ?_⟩) hHeld ?_; rotate_left; first | (intro w' hSw; (have hq := hSw.2); go_simp; done) | (intro w' hSw; (have hq := hSw.2); go_simp; with_reducible rfl))
      simp only [Act.put, List.getElem_toArray, List.getElem_cons_zero, List.getElem_cons_succ, List.setIfInBounds_toArray, List.set_cons_zero, List.set_cons_succ]
      (refine wpAnyH_take (i := 7) (v := ?_) rfl (by kernel_rfl) (by kernel_rfl) (by kernel_rfl) (fun _ _ _ h => h) (Or.inl ⟨by rfl, ?_⟩) hHeld ?_; rotate_left; first | (intro w' hSw; go_simp; done) | (intro w' hSw; go_simp; with_reducible rfl))
      simp only [Act.put, List.getElem_toArray, List.getElem_cons_zero, List.getElem_cons_succ, List.setIfInBounds_toArray, List.set_cons_zero, List.set_cons_succ]
      (refine wpAnyH_take (i := 8) (v := ?_) rfl (by kernel_rfl) (by kernel_rfl) (by kernel_rfl) (fun _ _ _ h => h) (Or.inl ⟨by rfl, ?_⟩) hHeld ?_; rotate_left; first | (intro w' hSw; go_simp; done) | (intro w' hSw; go_simp; with_reducible rfl))
      simp only [Act.put, List.getElem_toArray, List.getElem_cons_zero, List.getElem_cons_succ, List.setIfInBounds_toArray, List.set_cons_zero, List.set_cons_succ]
      (refine wpAnyH_take (i := 9) (v := ?_) rfl (by kernel_rfl) (by kernel_rfl) (by kernel_rfl) (fun _ _ _ h => h) (Or.inl ⟨by rfl, ?_⟩) hHeld ?_; rotate_left; first | (intro w' hSw; go_simp; done) | (intro w' hSw; go_simp; with_reducible rfl))
      simp only [Act.put, List.getElem_toArray, List.getElem_cons_zero, List.getElem_cons_succ, List.setIfInBounds_toArray, List.set_cons_zero, List.set_cons_succ]
      (refine wpAnyH_take (i := 10) (v := ?_) rfl (by kernel_rfl) (by kernel_rfl) (by kernel_rfl) (fun _ _ _ h => h) (Or.inl ⟨by rfl, ?_⟩) hHeld ?_; rotate_left; first | (intro w' hSw; go_simp; done) | (intro w' hSw; go_simp; with_reducible rfl))
      simp only [Act.put, List.getElem_toArray, List.getElem_cons_zero, List.getElem_cons_succ, List.setIfInBounds_toArray, List.set_cons_zero, List.set_cons_succ]
      (refine wpAnyH_take (i := 11) (v := ?_) rfl (by kernel_rfl) (by kernel_rfl) (by kernel_rfl) (fun _ _ _ h => h) (Or.inl ⟨by rfl, ?_⟩) hHeld ?_; rotate_left; first | (intro w' hSw; go_simp; done) | (intro w' hSw; go_simp; with_reducible rfl))
      simp only [Act.put, List.getElem_toArray, List.getElem_cons_zero, List.getElem_cons_succ, List.setIfInBounds_toArray, List.set_cons_zero, List.set_cons_succ]
      refine wpAnyH_done (by kernel_rfl) ?_ _
      have h2 := hM2H.out.later ((Below.refl _ w2).drew)
      have hb2 : Below cb W w2.drew := hb2H.out.drew
      clear hHeld c3 y0 y1 hM2H hb2H
      generalize w2.drew = w3 at *
      have c3 := h2.bk.cell (j := 3) rfl; have f3 := h2.bk.frozen 3; have l3 := h2.lt
      have hfin := Lib.hid (And.intro (h2.setIn x) (hb2.setCell (p := ⟨cb, 3, none⟩) (Nat.le_refl _) (.int .u32 (x : Int))))
      clear h2 hb2
      show Oper.wp _ _ _ _ _ _
      go_simp
      go_wp2
      go_ret
      exact ⟨rfl, ⟨_, hfin.out.1⟩, hfin.out.2⟩
    case true =>
      replace hcw := hcw.trans (if_pos (by decide))
      replace hcdH := Lib.hid (show (7 : Int) = cd by have := hcdH.out; rw [if_pos (by decide)] at this; exact this)
      obtain rfl : 7 = cd := hcdH.out
      obtain rfl : s = s' := (step_off hcw (by decide)).symm.trans hsH'.out
      go_enter Try.func16, Try.ntmps16
      go_upto_region 13 with fail
      generalize W.alloc (.cells #[.int .i64 1, .int .i64 (i : Int), .int .i64 n] 26) = w1 at *
      generalize hbX : W.heap.size = bX at *
      refine region_last (fun w' => w'.cell? ⟨bX, 0, none⟩ = some (.int .i64 1) ∧ w'.cell? ⟨bX, 1, none⟩ = some (.int .i64 (i : Int))) (by kernel_rfl) rfl (by kernel_rfl) ⟨x0, x1⟩ (fun hHeld => ?_)
      dsimp only [List.dropLast]
      (refine wpAnyH_take (i := 0) (v := ?_) rfl (by kernel_rfl) (by kernel_rfl) (by kernel_rfl) (fun _ _ _ h => h) (Or.inl ⟨by rfl, ?_⟩) hHeld ?_; rotate_left; first | (intro w' hSw; go_simp; done) | (intro w' hSw; go_simp; with_reducible rfl))
      simp only [Act.put, List.getElem_toArray, List.getElem_cons_zero, List.getElem_cons_succ, List.setIfInBounds_toArray, List.set_cons_zero, List.set_cons_succ]
      (refine wpAnyH_take (i := 1) (v := ?_) rfl (by kernel_rfl) (by kernel_rfl) (by kernel_rfl) (fun _ _ _ h => h) (Or.inl ⟨by rfl, ?_⟩) hHeld ?_; rotate_left; first | (intro w' hSw; go_simp; done) | (intro w' hSw; go_simp; with_reducible rfl))
      simp only [Act.put, List.getElem_toArray, List.getElem_cons_zero, List.getElem_cons_succ, List.setIfInBounds_toArray, List.set_cons_zero, List.set_cons_succ]
      (refine wpAnyH_take (i := 2) (v := ?_) rfl (by kernel_rfl) (by kernel_rfl) (by kernel_rfl) (fun _ _ _ h => h) (Or.inl ⟨by rfl, ?_⟩) hHeld ?_; rotate_left; first | (intro w' hSw; (have hq := hSw.2); go_simp; done) | (intro w' hSw; (have hq := hSw.2); go_simp; with_reducible rfl))
      simp only [Act.put, List.getElem_toArray, List.getElem_cons_zero, List.getElem_cons_succ, List.setIfInBounds_toArray, List.set_cons_zero, List.set_cons_succ]
      (refine wpAnyH_take (i := 4) (v := ?_) rfl (by kernel_rfl) (by kernel_rfl) (by kernel_rfl) (fun _ _ _ h => h) (Or.inl ⟨by rfl, ?_⟩) hHeld ?_; rotate_left; first | (intro w' hSw; go_simp; done) | (intro w' hSw; go_simp; with_reducible rfl))
      simp only [Act.put, List.getElem_toArray, List.getElem_cons_zero, List.getElem_cons_succ, List.setIfInBounds_toArray, List.set_cons_zero, List.set_cons_succ]
      (refine wpAnyH_take (i := 5) (v := ?_) rfl (by kernel_rfl) (by kernel_rfl) (by kernel_rfl) (fun _ _ _ h => h) (Or.inl ⟨by rfl, ?_⟩) hHeld ?_; rotate_left; first | (intro w' hSw; (have hq := hSw.1); go_simp; done) | (intro w' hSw; (have hq := hSw.1); go_simp; with_reducible rfl))
      simp only [Act.put, List.getElem_toArray, List.getElem_cons_zero, List.getElem_cons_succ, List.setIfInBounds_toArray, List.set_cons_zero, List.set_cons_succ]
      (refine wpAnyH_take (i := 6) (v := ?_) rfl (by kernel_rfl) (by kernel_rfl) (by kernel_rfl) (fun _ _ _ h => h) (Or.inl ⟨by rfl, ?_⟩) hHeld ?_; rotate_left; first | (intro w' hSw; go_simp; done) | (intro w' hSw; go_simp; with_reducible rfl))
      simp only [Act.put, List.getElem_toArray, List.getElem_cons_zero, List.getElem_cons_succ, List.setIfInBounds_toArray, List.set_cons_zero, List.set_cons_succ]
      refine wpAnyH_ready (rs := [3]) (by kernel_rfl) (by simp) ?_
      refine AllReadyH.cons rfl (fun K hK => ?_) AllReadyH.nil
      go_simp
      refine HI.out.mono ?_
      rintro e wz ⟨rfl, rfl⟩
      refine hK.out _ _ hHeld (fun hHeld => ?_)
      clear hK K HI
      (try simp only [Act.put, List.getElem_toArray, List.getElem_cons_zero, List.getElem_cons_succ, List.setIfInBounds_toArray, List.set_cons_zero, List.set_cons_succ])
      (refine wpAnyH_take (i := 7) (v := ?_) rfl (by kernel_rfl) (by kernel_rfl) (by kernel_rfl) (fun _ _ _ h => h) (Or.inl ⟨by rfl, ?_⟩) hHeld ?_; rotate_left; first | (intro w' hSw; go_simp; done) | (intro w' hSw; go_simp; with_reducible rfl))
      simp only [Act.put, List.getElem_toArray, List.getElem_cons_zero, List.getElem_cons_succ, List.setIfInBounds_toArray, List.set_cons_zero, List.set_cons_succ]
      refine wpAnyH_done (by kernel_rfl) ?_ _
      clear hHeld
      have hb2 : Below cb W w1.drew := hb1H.out.drew
      have hb2H := Lib.hid hb2
      have y0 : w1.drew.cell? ⟨bX, 0, none⟩ = some (.int .i64 1) := x0
      have y1 : w1.drew.cell? ⟨bX, 1, none⟩ = some (.int .i64 (i : Int)) := x1
      clear x0 x1 x2 c0 c1 hb2 hb1H h1H hT
      generalize w1.drew = w2 at *
      show Oper.wp _ _ _ _ _ _
      go_simp
      go_wp2
      go_ret
      exact ⟨rfl, ⟨_, hM2H.out⟩, hb2H.out⟩
  · cases bb
    case true =>
      replace hcw := hcw.trans (if_neg (by decide))
      obtain rfl : 0 = cd := by have := hcdH.out; rw [if_neg (by decide)] at this; exact this
      have hs2 : leaveF s i = s' := by
        rw [← hsH'.out, step_on hcw]; unfold doneF
        rw [if_neg (by dsimp only; omega), if_neg (by dsimp only; omega), if_neg (by dsimp only; omega), Int.toNat_natCast]
      subst hs2
      clear hsH' hcdH hcw hbb
      go_enter Try.func16, Try.ntmps16
      go_upto_region 13 with fail
      generalize W.alloc (.cells #[.int .i64 2, .int .i64 (i : Int), .int .i64 n] 26) = w1 at *
      generalize hbX : W.heap.size = bX at *
      refine region_last (fun w' => w'.cell? ⟨bX, 0, none⟩ = some (.int .i64 2) ∧ w'.cell? ⟨bX, 1, none⟩ = some (.int .i64 (i : Int))) (by kernel_rfl) rfl (by kernel_rfl) ⟨x0, x1⟩ (fun hHeld => ?_)
      dsimp only [List.dropLast]
      (refine wpAnyH_take (i := 0) (v := ?_) rfl (by kernel_rfl) (by kernel_rfl) (by kernel_rfl) (fun _ _ _ h => h) (Or.inl ⟨by rfl, ?_⟩) hHeld ?_; rotate_left; first | (intro w' hSw; go_simp; done) | (intro w' hSw; go_simp; with_reducible rfl))
      simp only [Act.put, List.getElem_toArray, List.getElem_cons_zero, List.getElem_cons_succ, List.setIfInBounds_toArray, List.set_cons_zero, List.set_cons_succ]
      (refine wpAnyH_take (i := 1) (v := ?_) rfl (by kernel_rfl) (by kernel_rfl) (by kernel_rfl) (fun _ _ _ h => h) (Or.inl ⟨by rfl, ?_⟩) hHeld ?_; rotate_left; first | (intro w' hSw; go_simp; done) | (intro w' hSw; go_simp; with_reducible rfl))
      simp only [Act.put, List.getElem_toArray, List.getElem_cons_zero, List.getElem_cons_succ, List.setIfInBounds_toArray, List.set_cons_zero, List.set_cons_succ]
      (refine wpAnyH_take (i := 2) (v := ?_) rfl (by kernel_rfl) (by kernel_rfl) (by kernel_rfl) (fun _ _ _ h => h) (Or.inl ⟨by rfl, ?_⟩) hHeld ?_; rotate_left; first | (intro w' hSw; (have hq := hSw.2); go_simp; done) | (intro w' hSw; (have hq := hSw.2); go_simp; with_reducible rfl))
      simp only [Act.put, List.getElem_toArray, List.getElem_cons_zero, List.getElem_cons_succ, List.setIfInBounds_toArray, List.set_cons_zero, List.set_cons_succ]
      (refine wpAnyH_take (i := 4) (v := ?_) rfl (by kernel_rfl) (by kernel_rfl) (by kernel_rfl) (fun _ _ _ h => h) (Or.inl ⟨by rfl, ?_⟩) hHeld ?_; rotate_left; first | (intro w' hSw; go_simp; done) | (intro w' hSw; go_simp; with_reducible rfl))
      simp only [Act.put, List.getElem_toArray, List.getElem_cons_zero, List.getElem_cons_succ, List.setIfInBounds_toArray, List.set_cons_zero, List.set_cons_succ]
      (refine wpAnyH_take (i := 5) (v := ?_) rfl (by kernel_rfl) (by kernel_rfl) (by kernel_rfl) (fun _ _ _ h => h) (Or.inl ⟨by rfl, ?_⟩) hHeld ?_; rotate_left; first | (intro w' hSw; (have hq := hSw.1); go_simp; done) | (intro w' hSw; (have hq := hSw.1); go_simp; with_reducible rfl))
      simp only [Act.put, List.getElem_toArray, List.getElem_cons_zero, List.getElem_cons_succ, List.setIfInBounds_toArray, List.set_cons_zero, List.set_cons_succ]
      (refine wpAnyH_take (i := 6) (v := ?_) rfl (by kernel_rfl) (by kernel_rfl) (by kernel_rfl) (fun _ _ _ h => h) (Or.inl ⟨by rfl, ?_⟩) hHeld ?_; rotate_left; first | (intro w' hSw; go_simp; done) | (intro w' hSw; go_simp; with_reducible rfl))
      simp only [Act.put, List.getElem_toArray, List.getElem_cons_zero, List.getElem_cons_succ, List.setIfInBounds_toArray, List.set_cons_zero, List.set_cons_succ]
      refine wpAnyH_ready (rs := [3]) (by kernel_rfl) (by simp) ?_
      refine AllReadyH.cons rfl (fun K hK => ?_) AllReadyH.nil
      go_simp
      refine HI.out.mono ?_
      rintro e wz ⟨rfl, rfl⟩
      refine hK.out _ _ hHeld (fun hHeld => ?_)
      clear hK K HI
      (try simp only [Act.put, List.getElem_toArray, List.getElem_cons_zero, List.getElem_cons_succ, List.setIfInBounds_toArray, List.set_cons_zero, List.set_cons_succ])
      (refine wpAnyH_take (i := 7) (v := ?_) rfl (by kernel_rfl) (by kernel_rfl) (by kernel_rfl) (fun _ _ _ h => h) (Or.inl ⟨by rfl, ?_⟩) hHeld ?_; rotate_left; first | (intro w' hSw; go_simp; done) | (intro w' hSw; go_simp; with_reducible rfl))
      simp only [Act.put, List.getElem_toArray, List.getElem_cons_zero, List.getElem_cons_succ, List.setIfInBounds_toArray, List.set_cons_zero, List.set_cons_succ]
      refine wpAnyH_done (by kernel_rfl) ?_ _
      clear hHeld
      have hb2 : Below cb W w1.drew := hb1H.out.drew
      have hb2H := Lib.hid hb2
      have y0 : w1.drew.cell? ⟨bX, 0, none⟩ = some (.int .i64 2) := x0
      have y1 : w1.drew.cell? ⟨bX, 1, none⟩ = some (.int .i64 (i : Int)) := x1
      clear x0 x1 x2 c0 c1 hb2 hb1H h1H hT
      generalize w1.drew = w2 at *
      have HL := Lib.hid (leave_any cb nw ns i _ _ s cs vC vW vT tv w2 hM2H.out hsH.out hin hn6 hn12)
      show Oper.wp _ _ _ _ _ _
      go_simp
      go_wp2_with fail
      refine HL.out.mono ?_
      rintro e w5 ⟨⟨x, rfl⟩, ⟨tv5, hM5⟩, hb5⟩
      have hfin := Lib.hid (And.intro hM5 (hb2H.out.trans hb5))
      clear hM5 hb5 HL
      go_wp2
      go_ret
      exact ⟨rfl, ⟨_, hfin.out.1⟩, hfin.out.2⟩
    case false =>
      replace hcw := hcw.trans (if_pos (by decide))
      replace hcdH := Lib.hid (show (7 : Int) = cd by have := hcdH.out; rw [if_pos (by decide)] at this; exact this)
      obtain rfl : 7 = cd := hcdH.out
      obtain rfl : s = s' := (step_off hcw (by decide)).symm.trans hsH'.out
      go_enter Try.func16, Try.ntmps16
      go_upto_region 13 with fail
      generalize W.alloc (.cells #[.int .i64 2, .int .i64 (i : Int), .int .i64 n] 26) = w1 at *
      generalize hbX : W.heap.size = bX at *
      refine region_last (fun w' => w'.cell? ⟨bX, 0, none⟩ = some (.int .i64 2) ∧ w'.cell? ⟨bX, 1, none⟩ = some (.int .i64 (i : Int))) (by kernel_rfl) rfl (by kernel_rfl) ⟨x0, x1⟩ (fun hHeld => ?_)
      dsimp only [List.dropLast]
      (refine wpAnyH_take (i := 0) (v := ?_) rfl (by kernel_rfl) (by kernel_rfl) (by kernel_rfl) (fun _ _ _ h => h) (Or.inl ⟨by rfl, ?_⟩) hHeld ?_; rotate_left; first | (intro w' hSw; go_simp; done) | (intro w' hSw; go_simp; with_reducible rfl))
      simp only [Act.put, List.getElem_toArray, List.getElem_cons_zero, List.getElem_cons_succ, List.setIfInBounds_toArray, List.set_cons_zero, List.set_cons_succ]
      (refine wpAnyH_take (i := 1) (v := ?_) rfl (by kernel_rfl) (by kernel_rfl) (by kernel_rfl) (fun _ _ _ h => h) (Or.inl ⟨by rfl, ?_⟩) hHeld ?_; rotate_left; first | (intro w' hSw; go_simp; done) | (intro w' hSw; go_simp; with_reducible rfl))
      simp only [Act.put, List.getElem_toArray, List.getElem_cons_zero, List.getElem_cons_succ, List.setIfInBounds_toArray, List.set_cons_zero, List.set_cons_succ]
      (refine wpAnyH_take (i := 2) (v := ?_) rfl (by kernel_rfl) (by kernel_rfl) (by kernel_rfl) (fun _ _ _ h => h) (Or.inl ⟨by rfl, ?_⟩) hHeld ?_; rotate_left; first | (intro w' hSw; (have hq := hSw.2); go_simp; done) | (intro w' hSw; (have hq := hSw.2); go_simp; with_reducible rfl))
      simp only [Act.put, List.getElem_toArray, List.getElem_cons_zero, List.getElem_cons_succ, List.setIfInBounds_toArray, List.set_cons_zero, List.set_cons_succ]
      (refine wpAnyH_take (i := 4) (v := ?_) rfl (by kernel_rfl) (by kernel_rfl) (by kernel_rfl) (fun _ _ _ h => h) (Or.inl ⟨by rfl, ?_⟩) hHeld ?_; rotate_left; first | (intro w' hSw; go_simp; done) | (intro w' hSw; go_simp; with_reducible rfl))
      simp only [Act.put, List.getElem_toArray, List.getElem_cons_zero, List.getElem_cons_succ, List.setIfInBounds_toArray, List.set_cons_zero, List.set_cons_succ]
      (refine wpAnyH_take (i := 5) (v := ?_) rfl (by kernel_rfl) (by kernel_rfl) (by kernel_rfl) (fun _ _ _ h => h) (Or.inl ⟨by rfl, ?_⟩) hHeld ?_; rotate_left; first | (intro w' hSw; (have hq := hSw.1); go_simp; done) | (intro w' hSw; (have hq := hSw.1); go_simp; with_reducible rfl))
      simp only [Act.put, List.getElem_toArray, List.getElem_cons_zero, List.getElem_cons_succ, List.setIfInBounds_toArray, List.set_cons_zero, List.set_cons_succ]
      (refine wpAnyH_take (i := 6) (v := ?_) rfl (by kernel_rfl) (by kernel_rfl) (by kernel_rfl) (fun _ _ _ h => h) (Or.inl ⟨by rfl, ?_⟩) hHeld ?_; rotate_left; first | (intro w' hSw; go_simp; done) | (intro w' hSw; go_simp; with_reducible rfl))
      simp only [Act.put, List.getElem_toArray, List.getElem_cons_zero, List.getElem_cons_succ, List.setIfInBounds_toArray, List.set_cons_zero, List.set_cons_succ]
      refine wpAnyH_ready (rs := [3]) (by kernel_rfl) (by simp) ?_
      refine AllReadyH.cons rfl (fun K hK => ?_) AllReadyH.nil
      go_simp
      refine HI.out.mono ?_
      rintro e wz ⟨rfl, rfl⟩
      refine hK.out _ _ hHeld (fun hHeld => ?_)
      clear hK K HI
      (try simp only [Act.put, List.getElem_toArray, List.getElem_cons_zero, List.getElem_cons_succ, List.setIfInBounds_toArray, List.set_cons_zero, List.set_cons_succ])
      (refine wpAnyH_take (i := 7) (v := ?_) rfl (by kernel_rfl) (by kernel_rfl) (by kernel_rfl) (fun _ _ _ h => h) (Or.inl ⟨by rfl, ?_⟩) hHeld ?_; rotate_left; first | (intro w' hSw; go_simp; done) | (intro w' hSw; go_simp; with_reducible rfl))
      simp only [Act.put, List.getElem_toArray, List.getElem_cons_zero, List.getElem_cons_succ, List.setIfInBounds_toArray, List.set_cons_zero, List.set_cons_succ]
      refine wpAnyH_done (by kernel_rfl) ?_ _
      clear hHeld
      have hb2 : Below cb W w1.drew := hb1H.out.drew
      have hb2H := Lib.hid hb2
      have y0 : w1.drew.cell? ⟨bX, 0, none⟩ = some (.int .i64 2) := x0
      have y1 : w1.drew.cell? ⟨bX, 1, none⟩ = some (.int .i64 (i : Int)) := x1
      clear x0 x1 x2 c0 c1 hb2 hb1H h1H hT
      generalize w1.drew = w2 at *
      show Oper.wp _ _ _ _ _ _
      go_simp
      go_wp2
      go_ret
      exact ⟨rfl, ⟨_, hM2H.out⟩, hb2H.out⟩
end Go.Proofs.Yticffbcbfgboeaa
