/- TopMost: the walk. -/
import Derived.Test.YticffbcbfgboeaaTopMostLaw
import Derived.Test.YticffbcbfgboeaaTopA
import Derived.Test.YticffbcbfgboeaaBitR
namespace Go.Proofs.Yticffbcbfgboeaa
open Go.RowKit Go.Shelf

theorem tiXt : TI Try.prog 24 26 (.agg #[.int .i64 0, .int .i64 0, .int .i64 0]) 3 24 := TI.mk' Try.underlying24 (by kernel_rfl) rfl (by decide)
theorem ps3_app {k₁ k₂ k₃ : IntKind} (a b : List (Int × Int × Int)) : ps3 k₁ k₂ k₃ (a ++ b) = ps3 k₁ k₂ k₃ a ++ ps3 k₁ k₂ k₃ b := by simp [ps3]
/-- an answer in memory -/
structure CQ (W : World) (b : Nat) (A1 : Option Addr) (n c1 : Nat) (A2 : Option Addr) (ns c2 : Nat) (A3 : Option Addr) (c3 : Nat) (s : CS) (cs : List Int) : Prop where
  bk : Blk W b 32 #[.slice A1 n c1, .int .u32 (s.inn : Int), .slice A2 ns c2, .slice A3 ns c3]
  co : Rd W A1 n 1 (ints .i64 cs)
  rl : RL W A3 ns s.tasks
theorem PM.cq {n₀ ns n d1 d2 d3 : Nat} {D1 D2 D3 : Option Addr} {s : CS} {cs : List Int} {tv : List Value} {W : World} (h : PM n₀ ns s cs (.slice D1 n d1) (.slice D2 ns d2) (.slice D3 ns d3) tv W) (hn : cs.length = n) :
    CQ (W.alloc (.cells #[.slice D1 n d1, .int .u32 (s.inn : Int), .slice D2 ns d2, .slice D3 ns d3] 32)) W.heap.size D1 n d1 D2 ns d2 D3 d3 s cs := by
  have h1 := h.co
  rw [hn] at h1
  exact ⟨Blk.new W _ _, (Rd.of_own h1).alloc _, h.lists.later ((Below.refl _ W).alloc (Nat.le_refl _) _)⟩
theorem CQ.later {W W' : World} {b n ns c1 c2 c3 : Nat} {A1 A2 A3 : Option Addr} {s : CS} {cs : List Int} (h : CQ W b A1 n c1 A2 ns c2 A3 c3 s cs) (hb : Below W.heap.size W W') : CQ W' b A1 n c1 A2 ns c2 A3 c3 s cs :=
  ⟨h.bk.below hb h.bk.lt, h.co.later hb, h.rl.later hb⟩
theorem tiWt : TI Try.prog 22 39 (.agg #[.int .i64 0, .int .u32 0]) 2 16 := TI.mk' Try.underlying22 (by kernel_rfl) rfl (by decide)
theorem ps2_app {k₁ k₂ : IntKind} (a b : List (Int × Int)) : ps2 k₁ k₂ (a ++ b) = ps2 k₁ k₂ a ++ ps2 k₁ k₂ b := by simp [ps2]
theorem lsum_take (F : Int × Int → Int) (l : List (Int × Int)) (k : Nat) (hk : k < l.length) : lsum F (l.take (k + 1)) = lsum F (l.take k) + F (l.getD k (0, 0)) := by
  rw [List.take_add_one, List.getElem?_eq_getElem hk, lsum_app]
  simp [lsum, List.getD, List.getElem?_eq_getElem hk]
theorem room_bd {ss : List Nat} {wants : List Int} {s ns : Nat} {l : List (Int × Int)} (h : ∀ c ∈ l, 0 ≤ c.1 ∧ c.1 ≤ 12) : ∀ k, k ≤ l.length → 0 ≤ lsum (roomIf ss wants s ns) (l.take k) ∧ lsum (roomIf ss wants s ns) (l.take k) ≤ 12 * k
  | 0, _ => by simp [lsum]
  | k + 1, hk => by
    have ih := room_bd (ss := ss) (wants := wants) (s := s) (ns := ns) h k (by omega)
    rw [lsum_take _ _ _ (by omega)]
    have h1 := h (l.getD k (0, 0)) (by simp only [List.getD, List.getElem?_eq_getElem (show k < l.length by omega), Option.getD_some]; exact List.getElem_mem _)
    unfold roomIf at ih ⊢
    split <;> omega
theorem some_zero (ss : List Nat) (wants : List Int) (h : Int) : ∀ n, someB ss wants 0 h n = false
  | 0 => rfl
  | n + 1 => by rw [someB, some_zero ss wants h n]; simp
theorem room_zero (ss : List Nat) (wants : List Int) (ns : Nat) (l : List (Int × Int)) : lsum (roomIf ss wants 0 ns) l = 0 := by
  have h : ∀ c : Int × Int, roomIf ss wants 0 ns c = 0 := fun c => by unfold roomIf; rw [some_zero]; rfl
  induction l with
  | nil => rfl
  | cons a l ih => rw [lsum, h a, ih]; rfl
theorem sum_bit0 (f : Nat → Int) : ∀ n, sumTo (fun i => if (0 : Nat).testBit i then f i else 0) n = 0
  | 0 => rfl
  | n + 1 => by rw [sumTo, sum_bit0 f n]; simp
set_option maxHeartbeats 3200000 in
set_option maxRecDepth 100000 in
set_option linter.unusedSimpArgs false in
theorem topMost_any (A B C : Option Addr) (nw ns nc cA cB cC : Nat) (ws : List (Int × Int)) (ss : List Nat) (xs : List Chg) (w : World) (hA : Rd w A nw 2 (ps2 .i64 .u32 ws)) (hB : Rd w B ns 1 (wds ss)) (hC : Rd w C nc 3 (ps3 .i64 .i64 .i64 xs))
    (hnw : nw ≤ 9223372036854775807) (hns : ns ≤ 9223372036854775807) (hnc : nc * 24 ≤ 140737488351232) (hws : ∀ c ∈ ws, 0 ≤ c.2 ∧ c.2 < 4294967296) (hts : ∀ i, ss.getD i 0 < 4294967296) :
    Calls Try.prog 3 #[.slice A nw cA, .slice B ns cB, .slice C nc cC] w fun e w' => e = .returned (.bool true) ∧ Below w.heap.size w w' := by
  have hAH := Lib.hid hA; have hBH := Lib.hid hB; have hCH := Lib.hid hC
  obtain ⟨xs1, hx1⟩ : ∃ xs1 : List Chg, xs ++ [(4, 0, 0)] = xs1 := ⟨_, rfl⟩
  have hx1H := Lib.hid hx1
  have hwl : ws.length = nw := by have := hA.1; rw [ps2_length] at this; omega
  have hsl : ss.length = ns := by have := hB.1; rw [wds_length] at this; omega
  have hxl : xs.length = nc := by have := hC.1; rw [ps3_length] at this; omega
  have hwlH := Lib.hid hwl; have hslH := Lib.hid hsl; have hxlH := Lib.hid hxl; have hwsH := Lib.hid hws; have htsH := Lib.hid hts
  clear hA hB hC hx1 hwl hsl hxl hws hts
  go_enter Try.func3, Try.ntmps3
  go_wp2_with (at_builtin; refine wpList_app (s := .tmp 26) (x := .tmp 27) _ tiXt (World.ownsRow_lit (base := w.heap.size) w #[] 0 (Nat.le_refl _) (Nat.zero_le _) rfl) (hCH.out.alloc _) (ps3_one (l := xs)) (by omega) (by omega) (by simp) rfl rfl rfl rfl ?_)
  intro v1 w1 hown1 hg1 _
  have hb1 : Below w.heap.size w w1 := ((Below.refl _ _).alloc (Nat.le_refl _) _).grown hg1 (by simp) (by simp [Value.ownBlock])
  obtain ⟨A1, c1, rfl⟩ := own_slice hown1
  have hbA1 := hb1.alloc hb1.size (.cells #[.int .i64 4, .int .i64 0, .int .i64 0] 26)
  have hrd1 := rd_new3 w1 (.int .i64 4) (.int .i64 0) (.int .i64 0) 26
  have ho1 := hown1.alloc (.cells #[.int .i64 4, .int .i64 0, .int .i64 0] 26)
  clear hg1
  go_wp2_with (at_builtin; refine wpList_app (s := .tmp 28) (x := .tmp 30) _ tiXt ho1 hrd1 (ps3_one (l := [(4, 0, 0)])) (by omega) (by omega) hbA1.size rfl rfl rfl rfl ?_)
  intro v2 w2 hown2 hg2 _
  have hb2 := hbA1.grown hg2 hbA1.size (fun q hq => (ho1.lt q hq).1)
  obtain ⟨A2, c2, rfl⟩ := own_slice hown2
  have hR2 : Rd w2 A2 (nc + 1) 3 (ps3 .i64 .i64 .i64 xs1) := by
    have := Rd.of_own hown2
    rw [← hx1H.out, ps3_app]
    exact this
  have hR2H := Lib.hid hR2; have hb2H := Lib.hid hb2
  clear hbA1 hrd1 ho1 hown1 hown2 hg2 hb1 hb2 hR2
  have hx1l : xs1.length = nc + 1 := by rw [← hx1H.out, List.length_append, hxlH.out]; rfl
  have hx1lH := Lib.hid hx1l
  clear hx1l
  by_cases hgo : pchk ws ns = 0 ∧ nc + 1 ≤ 64
  case neg =>
    have HP3 : Hid (∀ W (_ : Below w2.heap.size w2 W), Calls Try.prog 7 #[.slice A nw cA, .slice B ns cB, .slice A2 (nc + 1) c2] W fun e w' => (∃ code : Int, (code != 0) = true ∧ e = .returned (.tuple #[.agg #[.slice none 0 0, .int .u32 0, .slice none 0 0, .slice none 0 0], .int .i64 code])) ∧ Below W.heap.size W w') := Lib.hid (fun W hb => by
      by_cases hok : pchk ws ns = 0
      · exact (play_big A B A2 nw ns (nc + 1) cA cB c2 ws W (hAH.out.later (hb2H.out.trans (hb.mono hb2H.out.size))) hok (Nat.lt_of_not_le fun h => hgo ⟨hok, h⟩) (by omega)).mono fun e w' ⟨he, hb⟩ => ⟨⟨1, rfl, he⟩, hb⟩
      · exact (play_bad A B A2 nw ns (nc + 1) cA cB c2 ws W (hAH.out.later (hb2H.out.trans (hb.mono hb2H.out.size))) hnw hns hok).mono fun e w' ⟨he, hb⟩ => ⟨⟨_, bne_iff_ne.2 hok, he⟩, hb⟩)
    have hf : (decide (pchk ws ns = 0) && decide (nc + 1 ≤ 64)) = false := by
      rw [Bool.and_eq_false_iff]
      by_cases hok : pchk ws ns = 0
      · exact .inr (decide_eq_false fun h => hgo ⟨hok, h⟩)
      · exact .inl (decide_eq_false hok)
    have HM := Lib.hid (fun W (hb : Below w2.heap.size w2 W) => tmay_any A B A2 nw ns (nc + 1) cA cB c2 ws W (hAH.out.later (hb2H.out.trans (hb.mono hb2H.out.size))) hnw hns (by omega))
    rw [hf] at HM
    clear hf hgo hR2H
    go_wp2_with fail
    refine (HP3.out _ (Below.refl _ _)).mono ?_
    rintro e p3 ⟨⟨code3, hc3, rfl⟩, hq3⟩
    have hq3H := Lib.hid (hq3.alloc hq3.size (.cells #[.slice none 0 0, .int .u32 0, .slice none 0 0, .slice none 0 0] 32))
    clear hq3 HP3
    go_wp2_with fail
    refine (HM.out _ hq3H.out).mono ?_
    rintro e p4 ⟨rfl, hq4⟩
    have hq4a := hq3H.out.trans (hq4.mono hq3H.out.size)
    have hfin := Lib.hid (hb2H.out.trans (hq4a.mono hb2H.out.size))
    clear hq4 hq4a hq3H HM
    go_wp2
    go_ret
    exact ⟨rfl, hfin.out⟩
  obtain ⟨hok, h5⟩ := hgo
  obtain ⟨hn6, hn12, hrm⟩ := pchk_ok hok
  rw [hwlH.out] at hn6
  obtain ⟨pl, hpl⟩ := exists_pl
  have HP := Lib.hid (fun W (hb : Below w2.heap.size w2 W) => play_ok pl hpl A B A2 nw ns (nc + 1) cA cB c2 ws ss xs1 W (hAH.out.later (hb2H.out.trans (hb.mono hb2H.out.size))) (hBH.out.later (hb2H.out.trans (hb.mono hb2H.out.size))) (hR2H.out.later hb) hok h5)
  have HM := Lib.hid (fun W (hb : Below w2.heap.size w2 W) => tmay_any A B A2 nw ns (nc + 1) cA cB c2 ws W (hAH.out.later (hb2H.out.trans (hb.mono hb2H.out.size))) hnw hns (by omega))
  have htr : (decide (pchk ws ns = 0) && decide (nc + 1 ≤ 64)) = true := by rw [decide_eq_true hok, decide_eq_true h5]; rfl
  rw [htr] at HM
  have hO0 := runS_ok (pl := pl) hwlH.out hslH.out xs (initC ns) (initC_ok nw ns)
  have hO1 := runS_ok (pl := pl) hwlH.out hslH.out xs1 (initC ns) (initC_ok nw ns)
  have hl1 := runC_length pl ws ss xs1 (initC ns)
  rw [hx1lH.out] at hl1
  have e1 : runS pl ws ss xs1 (initC ns) = tickF pl ws ss (runS pl ws ss xs (initC ns)) := by rw [← hx1H.out, runS_snoc, step_tick]
  have hlaw := top_most (ss := ss) hpl hO0 hrm
  have ei : (runS pl ws ss xs1 (initC ns)).inn = (runS pl ws ss xs (initC ns)).inn := by rw [e1]; rfl
  have ew : (runS pl ws ss xs1 (initC ns)).wants = (runS pl ws ss xs (initC ns)).wants := by rw [e1]; rfl
  rw [← e1, ← ei, ← ew] at hlaw
  generalize runS pl ws ss xs1 (initC ns) = s1 at *
  generalize runC pl ws ss xs1 (initC ns) = k1 at *
  have hl1H := Lib.hid hl1; have hO1H := Lib.hid hO1; have hlawH := Lib.hid hlaw; have hrmH := Lib.hid hrm
  have hin : s1.inn < 64 := Nat.lt_of_lt_of_le hO1.inn (Nat.pow_le_pow_right (n := 2) (by omega) hn6)
  clear hl1 hO0 hO1 e1 ei ew hlaw hR2H hrm hpl htr hok hx1H
  go_wp2_with fail
  refine (HP.out _ (Below.refl _ _)).mono ?_
  rintro e p1 ⟨vC, vW, vT, tv, rfl, hP, hq⟩
  obtain ⟨D1, d1, e1⟩ := own_slice hP.co
  obtain ⟨D2, d2, rfl⟩ := own_slice hP.wa
  obtain ⟨D3, d3, rfl⟩ := own_slice hP.ta
  rw [hl1H.out] at e1
  subst e1
  have qc := Lib.hid (hP.cq hl1H.out)
  have qw := Lib.hid ((Rd.of_own hP.wa).alloc (.cells #[.slice D1 (nc + 1) d1, .int .u32 (s1.inn : Int), .slice D2 ns d2, .slice D3 ns d3] 32))
  have hqa := Lib.hid (hq.alloc hq.size (.cells #[.slice D1 (nc + 1) d1, .int .u32 (s1.inn : Int), .slice D2 ns d2, .slice D3 ns d3] 32))
  clear hP hq HP
  go_wp2_with fail
  generalize p1.alloc (.cells #[.slice D1 (nc + 1) d1, .int .u32 (s1.inn : Int), .slice D2 ns d2, .slice D3 ns d3] 32) = u1 at *
  generalize p1.heap.size = b1 at *
  refine (HM.out _ hqa.out).mono ?_
  rintro e u4 ⟨rfl, hq⟩
  have qc4 := Lib.hid (qc.out.later hq); have qw4 := Lib.hid (qw.out.later hq)
  have hqd := Lib.hid (hqa.out.trans (hq.mono hqa.out.size))
  clear hq HM qc qw hqa
  have y0 := qc4.out.bk.cell (j := 0) rfl; have y1 := qc4.out.bk.cell (j := 1) rfl; have y2 := qc4.out.bk.cell (j := 2) rfl; have y3 := qc4.out.bk.cell (j := 3) rfl
  go_wp2_with fail
  refine (whole_ok D1 D2 D3 B A2 ns (nc + 1) d1 d2 d3 cB c2 _ u4).mono ?_
  rintro e u ⟨rfl, hq⟩
  have qcu := Lib.hid (qc4.out.later hq); have qwu := Lib.hid (qw4.out.later hq)
  have hqe := Lib.hid (hb2H.out.trans ((hqd.out.trans (hq.mono hqd.out.size)).mono hb2H.out.size))
  clear hq qc4 qw4 hqd y0 y1 y2 y3
  go_wp2
  go_loopw [10, 11, 12, 57, 59, 60, 61, 62, 63, 64, 65, 66, 67, 68, 69] (fun v _ _ i _ _ _ _ _ _ _ _ _ _ _ wr => ∃ k : Nat, k ≤ nw ∧ i = .int .i64 k ∧ wr.ownsRow u.heap.size 39 2 v (inTo ws s1.inn k).length (ps2 .i64 .u32 (inTo ws s1.inn k)) ∧ Below u.heap.size u wr) (fun _ _ _ i _ _ _ _ _ _ _ _ _ _ _ _ => nw - (intOf i).toNat)
  case atStart => exact ⟨0, Nat.zero_le _, rfl, World.ownsRow_nil _ _ _ _, Below.refl _ _⟩
  case round =>
    obtain ⟨wo, rfl⟩ : ∃ wo : World, wo = wr := ⟨_, rfl⟩
    obtain ⟨k, hk, rfl, hown, hb⟩ := hrel
    by_cases hlt : k < nw
    · obtain ⟨ba, oa, rfl, hba, a0, a1⟩ := (hAH.out.later (hqe.out.trans (hb.mono hqe.out.size))).pair hlt
      have hin1 := Lib.hid (show inTo ws s1.inn (k + 1) = inTo ws s1.inn k ++ if s1.inn.testBit k then [ws.getD k (0, 0)] else [] from rfl)
      have hle := Lib.hid (inTo_le ws s1.inn k)
      generalize ws.getD k (0, 0) = c at *
      obtain ⟨cr, ch⟩ := c
      dsimp only at a0 a1
      obtain ⟨AI, cI, rfl⟩ := own_slice hown
      have bkw := qcu.out.bk.below hb qcu.out.bk.lt
      have x1 := (bkw.alloc (.cells #[.int .i64 cr, .int .u32 ch] 39)).cell (j := 1) rfl
      have bX := Blk.new wo 39 #[.int .i64 cr, .int .u32 ch]
      have z0 := bX.cell (j := 0) rfl; have z1 := bX.cell (j := 1) rfl; have zl := bX.lt
      have HBt := Lib.hid (bitR_any s1.inn k (wo.alloc (.cells #[.int .i64 cr, .int .u32 ch] 39)) (by omega) (by omega))
      have hownA := hown.alloc (.cells #[.int .i64 cr, .int .u32 ch] 39)
      have hbA := hb.alloc hb.size (.cells #[.int .i64 cr, .int .u32 ch] 39)
      have hownH := Lib.hid hownA; have hbH := Lib.hid hbA
      have hk0 : (0 : Int) ≤ k := by omega
      have hkn : (k : Int) < nw := by omega
      have hk1 : IntKind.i64.wrap ((k : Int) + 1) = ((k + 1 : Nat) : Int) := by rw [IntWalk.i64_in _ (by omega)]; omega
      clear hown hb bkw bX hownA hbA
      cases hbit : s1.inn.testBit k
      · rw [hbit] at hin1 HBt
        have e2 : inTo ws s1.inn (k + 1) = inTo ws s1.inn k := by rw [hin1.out]; simp
        have hfin := Lib.hid (show (wo.alloc (.cells #[.int .i64 cr, .int .u32 ch] 39)).ownsRow u.heap.size 39 2 (.slice AI (inTo ws s1.inn k).length cI) (inTo ws s1.inn (k + 1)).length (ps2 .i64 .u32 (inTo ws s1.inn (k + 1))) by rw [e2]; exact hownH.out)
        clear e2 hownH hin1
        go_wp2_with fail
        refine HBt.out.mono ?_
        rintro e w9 ⟨rfl, rfl⟩
        go_wp2
        go_roundw
        case rel => exact ⟨k + 1, by omega, by go_num, hfin.out, hbH.out⟩
        case measure => simp [intOf]; omega
      · rw [hbit] at hin1 HBt
        have e2 : inTo ws s1.inn k ++ [(cr, ch)] = inTo ws s1.inn (k + 1) := by rw [hin1.out]; simp
        have hrd := Lib.hid (rd_new2 (wo.alloc (.cells #[.int .i64 cr, .int .u32 ch] 39)) (.int .i64 cr) (.int .u32 ch) 39)
        rw [World.size_alloc] at hrd
        obtain ⟨n9, hn9⟩ : ∃ n9, (inTo ws s1.inn k).length = n9 := ⟨_, rfl⟩
        have hn64 : n9 ≤ 6 := by have := hle.out; omega
        rw [hn9] at hownH ⊢
        have hbsz := Nat.le_trans hbH.out.size (show _ ≤ ((wo.alloc (.cells #[.int .i64 cr, .int .u32 ch] 39)).alloc (.cells #[.int .i64 cr, .int .u32 ch] 39)).heap.size by simp)
        have hn9H := Lib.hid hn9
        clear hn9
        go_wp2_with (first | (at_builtin; refine wpList_app (s := .tmp 66) (x := .tmp 68) _ tiWt (hownH.out.alloc _) hrd.out (ps2_one (l := [(cr, ch)])) (by omega) (by omega) hbsz rfl rfl rfl rfl ?_) | (refine HBt.out.mono ?_; rintro e w9 ⟨rfl, rfl⟩))
        intro v' w' hown' hg' _
        rw [show ([Value.int .i64 cr, .int .u32 ch] : List Value) = ps2 .i64 .u32 [(cr, ch)] from rfl, ← ps2_app, e2] at hown'
        rw [show n9 + 1 = (inTo ws s1.inn (k + 1)).length by rw [← e2, List.length_append, hn9H.out]; rfl] at hown'
        have hfin := Lib.hid (And.intro hown' ((hbH.out.alloc hbH.out.size (.cells #[.int .i64 cr, .int .u32 ch] 39)).grown hg' hbsz (fun q hq => (hownH.out.lt q hq).1)))
        clear hown' hg' hownH hbH hrd e2
        go_wp2
        go_roundw
        case rel => exact ⟨k + 1, by omega, by go_num, hfin.out.1, hfin.out.2⟩
        case measure => simp [intOf]; omega
    · obtain rfl : k = nw := by omega
      obtain ⟨AI, cI, rfl⟩ := own_slice hown
      have hRI := Rd.of_own hown
      have hnI := inTo_le ws s1.inn k
      have hIr : ∀ c ∈ inTo ws s1.inn k, (0 ≤ c.1 ∧ c.1 ≤ 12) ∧ 0 ≤ c.2 ∧ c.2 < 4294967296 := fun c hc => by
        obtain ⟨j, hj, e⟩ := inTo_mem hc
        have hj' : j < ws.length := by rw [hwlH.out]; exact hj
        have h1 := hrmH.out j hj'
        have h2 := hwsH.out (wat ws j) (wat_mem hj')
        rw [e]
        exact ⟨h1, h2⟩
      have hsumH := Lib.hid (fun x => in_sum ws ss s1.wants s1.inn x ns)
      rw [hwlH.out] at hsumH
      generalize inTo ws s1.inn k = inL at *
      obtain ⟨nI, hnIe⟩ : ∃ nI, inL.length = nI := ⟨_, rfl⟩
      rw [hnIe] at hRI hnI
      have hRIH := Lib.hid hRI; have hIrH := Lib.hid hIr; have hnIeH := Lib.hid hnIe
      have hbkH := Lib.hid (qcu.out.bk.below hb qcu.out.bk.lt)
      have hRWH := Lib.hid (qwu.out.later hb)
      have hbw := hqe.out.trans (hb.mono hqe.out.size)
      have hRBH := Lib.hid (hBH.out.later hbw)
      have hRLH := Lib.hid (qcu.out.rl.later hb)
      have hbwH := Lib.hid hbw
      have hlawX := hlawH.out
      clear hown hRI hIr hb hbw qcu qwu hqe hCH hAH hBH hrmH hwsH hnIe
      rw [show (Value.slice AI inL.length cI) = .slice AI nI cI by rw [hnIeH.out]]
      generalize hwo : wo = ub at *
      have c2 := hbkH.out.cell (j := 2) rfl
      go_wp2
      go_loopw [13, 15, 74, 76, 77, 78, 79, 80, 81, 82] (fun a _ i _ _ _ _ _ _ _ wr => ∃ k : Nat, k ≤ ns ∧ i = .int .i64 k ∧ a = .int .i64 (sumTo (fun i => s1.wants.getD i 0) k) ∧ wr = ub) (fun _ _ i _ _ _ _ _ _ _ _ => ns - (intOf i).toNat)
      case atStart => exact ⟨0, Nat.zero_le _, rfl, rfl, rfl⟩
      case round =>
        obtain ⟨k2, hk2, rfl, rfl, rfl⟩ := hrel
        obtain ⟨ub, rfl⟩ : ∃ ub : World, ub = wr := ⟨_, rfl⟩
        have hs0 := sumTo_nonneg (f := fun i => s1.wants.getD i 0) (n := k2) fun i hi => hO1H.out.w0 i (by omega)
        have hs12 := Int.le_trans (sumTo_mono hO1H.out.w0 k2 hk2) hO1H.out.sm
        by_cases hlt : k2 < ns
        · obtain ⟨bw, ow, rfl, hbwl, cw⟩ := hRWH.out.int hlt
          have h0 := hO1H.out.w0 k2 hlt
          have hx := Int.le_trans (sumTo_term hO1H.out.w0 hlt) hO1H.out.sm
          have hst := Lib.hid (show sumTo (fun i => s1.wants.getD i 0) (k2 + 1) = sumTo (fun i => s1.wants.getD i 0) k2 + s1.wants.getD k2 0 from rfl)
          generalize s1.wants.getD k2 0 = n at *
          generalize sumTo (fun i => s1.wants.getD i 0) k2 = a at *
          have hd : decide (n < 0) = false := decide_eq_false (by omega)
          have hk0 : (0 : Int) ≤ k2 := by omega
          have hkn : (k2 : Int) < ns := by omega
          have hwr : IntKind.i64.wrap (a + n) = a + n := IntWalk.i64_in _ (by omega)
          go_wp2
          go_roundw
          case rel => exact ⟨k2 + 1, by omega, by go_num, by rw [hst.out], by trivial⟩
          case measure => simp [intOf]; omega
        · obtain rfl : k2 = ns := by omega
          have hL := Lib.hid (fun x => show lackS (nowW ws s1.inn) ss s1.wants x k2 = sumTo (fun i => if x.testBit i then s1.wants.getD i 0 else 0) k2 - lsum (roomIf ss s1.wants x k2) inL by unfold lackS; rw [hsumH.out x])
          have hpow : 2 ^ k2 ≤ 2 ^ 12 := Nat.pow_le_pow_right (by omega) hn12
          have hpw : IntKind.u32.wrap ((2 : Int) ^ k2) = ((2 ^ k2 : Nat) : Int) := by rw [IntKind.wrap_u32']; exact two_pow_u32 k2 (by omega)
          obtain ⟨pn, hpn⟩ : ∃ pn, 2 ^ k2 = pn := ⟨_, rfl⟩
          rw [hpn] at hpow hpw hlawX
          obtain ⟨L, hLe⟩ : ∃ L : Nat → Int, L = fun x => lackS (nowW ws s1.inn) ss s1.wants x k2 := ⟨_, rfl⟩
          have hLx := Lib.hid (fun x => show L x = sumTo (fun i => if x.testBit i then s1.wants.getD i 0 else 0) k2 - lsum (roomIf ss s1.wants x k2) inL by rw [hLe]; exact hL.out x)
          have hlaw1 := Lib.hid (fun x => show L x ≤ sumTo (fun i => s1.wants.getD i 0) k2 - plc k2 s1 by rw [hLe]; exact hlawX.1 x)
          have hlaw2 : Hid (∃ x, x < pn ∧ sumTo (fun i => s1.wants.getD i 0) k2 - plc k2 s1 ≤ L x) := Lib.hid (by rw [hLe]; exact hlawX.2)
          have hL0 : L 0 = 0 := by rw [hLx.out 0, room_zero, sum_bit0]; rfl
          have hP0 : 0 ≤ plc k2 s1 := sumTo_nonneg fun k _ => Int.natCast_nonneg _
          have hP1 : 0 ≤ sumTo (fun i => s1.wants.getD i 0) k2 - plc k2 s1 := by have := hlaw1.out 0; rw [hL0] at this; exact this
          have hPC : ∀ W, RL W D3 k2 s1.tasks → Calls Try.prog 12 #[.agg #[.slice D1 (nc + 1) d1, .int .u32 (s1.inn : Int), .slice D2 k2 d2, .slice D3 k2 d3]] W fun e w' => e = .returned (.int .i64 (plc k2 s1)) ∧ Below W.heap.size W w' := fun W h => placed_any D1 D2 D3 (nc + 1) k2 k2 d1 d2 d3 (s1.inn : Int) s1.tasks W h hO1H.out.t12 hn12
          clear hL hLe hsumH hpn hlawX hlawH hL0
          generalize plc k2 s1 = P at *
          have hPH := Lib.hid hPC; have hP0H := Lib.hid hP0; have hP1H := Lib.hid hP1
          clear hPC hP0 hP1
          generalize sumTo (fun i => s1.wants.getD i 0) k2 = T0 at *
          go_wp2
          go_loopw [16, 17, 18, 19, 20, 22, 23, 24, 25, 84, 85, 86, 87, 88, 89, 90, 91, 92, 93, 94, 95, 96, 97, 98, 99, 100, 101, 102, 103, 104, 105, 106, 107, 108, 109, 110, 111, 112, 113, 114, 115, 116, 117, 118, 119, 120, 121, 122, 123, 124, 125, 126, 127, 128, 129, 130, 131, 132, 133, 134, 135, 136, 137, 138, 139, 140, 141, 142, 143, 144, 145, 146, 147, 148, 149] (fun best sv _ _ _ _ _ _ _ _ _ _ _ _ _ _ _ _ _ _ _ _ _ _ _ _ _ _ _ _ _ _ _ _ _ _ _ _ _ _ _ _ _ _ _ _ _ _ _ _ _ _ _ _ _ _ _ _ _ _ _ _ _ _ _ _ _ _ _ _ _ _ _ _ _ wr => ∃ (x : Nat) (m : Int), x ≤ pn ∧ sv = .int .u32 x ∧ best = .int .i64 m ∧ 0 ≤ m ∧ m ≤ 1000 ∧ (m = 0 ∨ ∃ y, L y = m) ∧ (∀ y, y < x → L y ≤ m) ∧ Below ub.heap.size ub wr) (fun _ sv _ _ _ _ _ _ _ _ _ _ _ _ _ _ _ _ _ _ _ _ _ _ _ _ _ _ _ _ _ _ _ _ _ _ _ _ _ _ _ _ _ _ _ _ _ _ _ _ _ _ _ _ _ _ _ _ _ _ _ _ _ _ _ _ _ _ _ _ _ _ _ _ _ _ => pn - (intOf sv).toNat)
          case atStart => exact ⟨0, 0, Nat.zero_le _, rfl, rfl, Int.le_refl _, by decide, .inl rfl, fun y hy => by omega, Below.refl _ _⟩
          case round =>
            obtain ⟨wo3, rfl⟩ : ∃ wo3 : World, wo3 = wr := ⟨_, rfl⟩
            obtain ⟨x, m, hx, rfl, rfl, hm0, hm9, hmx, hup, hb3⟩ := hrel
            have hb3H := Lib.hid hb3; have hupH := Lib.hid hup; have hmxH := Lib.hid hmx
            have hbk3 := hbkH.out.below hb3 hbkH.out.lt
            clear hb3 hup hmx
            by_cases hlt : x < pn
            · have hx32 : x < 4294967296 := by omega
              have hLxx := Lib.hid (hLx.out x)
              have hc2 := hbk3.cell (j := 2) rfl
              have hRW3 := Lib.hid (hRWH.out.later hb3H.out)
              have hbk3H := Lib.hid hbk3
              have hub := Lib.hid (fun k (hk : k ≤ k2) => show 0 ≤ sumTo (fun i => if x.testBit i then s1.wants.getD i 0 else 0) k ∧ sumTo (fun i => if x.testBit i then s1.wants.getD i 0 else 0) k ≤ 12 by
                refine ⟨sumTo_nonneg fun i hi => ?_, Int.le_trans (sumTo_mono (n := k2) (fun i hi => ?_) k hk) (Int.le_trans (sumTo_le fun i hi => ?_) hO1H.out.sm)⟩
                · split
                  · exact hO1H.out.w0 i (by omega)
                  · exact Int.le_refl _
                · split
                  · exact hO1H.out.w0 i hi
                  · exact Int.le_refl _
                · split
                  · exact Int.le_refl _
                  · exact hO1H.out.w0 i hi)
              clear hbk3
              go_wp2
              go_loopw [18, 19, 20, 95, 97, 98, 99, 100, 101, 102, 103, 104, 105, 106] (fun a _ _ i _ _ _ _ _ _ _ _ _ _ wr => ∃ q : Nat, q ≤ k2 ∧ i = .int .i64 q ∧ a = .int .i64 (sumTo (fun i => if x.testBit i then s1.wants.getD i 0 else 0) q) ∧ wr = wo3) (fun _ _ _ i _ _ _ _ _ _ _ _ _ _ _ => k2 - (intOf i).toNat)
              case atStart => exact ⟨0, Nat.zero_le _, rfl, rfl, rfl⟩
              case round =>
                obtain ⟨q, hq, rfl, rfl, rfl⟩ := hrel
                obtain ⟨wo4, rfl⟩ : ∃ wo4 : World, wo4 = wr := ⟨_, rfl⟩
                have hub1 := hub.out q hq
                by_cases hlq : q < k2
                · obtain ⟨bw, ow, rfl, hbwl, cw⟩ := hRW3.out.int hlq
                  have hub2 := hub.out (q + 1) hlq
                  have hst := Lib.hid (show sumTo (fun i => if x.testBit i then s1.wants.getD i 0 else 0) (q + 1) = sumTo (fun i => if x.testBit i then s1.wants.getD i 0 else 0) q + (if x.testBit q then s1.wants.getD q 0 else 0) from rfl)
                  rw [hst.out] at hub2
                  have HBt := Lib.hid (bitR_any x q wo4 hx32 (by omega))
                  generalize s1.wants.getD q 0 = n at *
                  generalize sumTo (fun i => if x.testBit i then s1.wants.getD i 0 else 0) q = a at *
                  have hk0 : (0 : Int) ≤ q := by omega
                  have hkn : (q : Int) < k2 := by omega
                  cases hbit : x.testBit q
                  · rw [hbit] at HBt hst
                    go_wp2_with fail
                    refine HBt.out.mono ?_
                    rintro e w9 ⟨rfl, rfl⟩
                    go_wp2
                    go_roundw
                    case rel => exact ⟨q + 1, by omega, by go_num, by rw [hst.out]; simp, by trivial⟩
                    case measure => simp [intOf]; omega
                  · rw [hbit] at HBt hst hub2
                    rw [if_pos rfl] at hub2
                    have hwr : IntKind.i64.wrap (a + n) = a + n := IntWalk.i64_in _ (by omega)
                    go_wp2_with fail
                    refine HBt.out.mono ?_
                    rintro e w9 ⟨rfl, rfl⟩
                    go_wp2
                    go_roundw
                    case rel => exact ⟨q + 1, by omega, by go_num, by rw [hst.out]; simp, by trivial⟩
                    case measure => simp [intOf]; omega
                · obtain rfl : k2 = q := by omega
                  generalize sumTo (fun i => if x.testBit i then s1.wants.getD i 0 else 0) k2 = T1 at *
                  have hrb := Lib.hid (fun q (hq : q ≤ inL.length) => room_bd (ss := ss) (wants := s1.wants) (s := x) (ns := k2) (l := inL) (fun c hc => (hIrH.out c hc).1) q hq)
                  rw [hnIeH.out] at hrb
                  clear hRW3 hbk3H hub hc2
                  go_wp2
                  go_loopw [18, 22, 23, 24, 25, 109, 111, 112, 113, 114, 115, 116, 117, 118, 119, 120, 121, 122, 123, 124, 125, 126, 127, 128, 129, 130, 131, 132, 133, 134, 135, 136, 137, 138, 139, 140, 141, 142, 143, 144, 145] (fun a _ _ _ _ i _ _ _ _ _ _ _ _ _ _ _ _ _ _ _ _ _ _ _ _ _ _ _ _ _ _ _ _ _ _ _ _ _ _ _ wr => ∃ q : Nat, q ≤ nI ∧ i = .int .i64 q ∧ a = .int .i64 (T1 - lsum (roomIf ss s1.wants x k2) (inL.take q)) ∧ Below ub.heap.size ub wr) (fun _ _ _ _ _ i _ _ _ _ _ _ _ _ _ _ _ _ _ _ _ _ _ _ _ _ _ _ _ _ _ _ _ _ _ _ _ _ _ _ _ _ => nI - (intOf i).toNat)
                  case atStart => exact ⟨0, Nat.zero_le _, rfl, by simp [lsum], hb3H.out⟩
                  case round =>
                    obtain ⟨wo5, rfl⟩ : ∃ wo5 : World, wo5 = wr := ⟨_, rfl⟩
                    obtain ⟨q, hq, rfl, rfl, hb5⟩ := hrel
                    have hr1 := hrb.out q hq
                    by_cases hlq : q < nI
                    · obtain ⟨bi, oi, rfl, hbi, i0, i1⟩ := (hRIH.out.later hb5).pair hlq
                      have hcI := hIrH.out (inL.getD q (0, 0)) (by
                        have hq' : q < inL.length := by rw [hnIeH.out]; exact hlq
                        simp only [List.getD, List.getElem?_eq_getElem hq', Option.getD_some]
                        exact List.getElem_mem hq')
                      have hr2 := hrb.out (q + 1) hlq
                      have hst := Lib.hid (lsum_take (roomIf ss s1.wants x k2) inL q (by rw [hnIeH.out]; exact hlq))
                      rw [hst.out] at hr2
                      have hri := Lib.hid (show ∀ c : Int × Int, roomIf ss s1.wants x k2 c = if someB ss s1.wants x c.2 k2 then c.1 else 0 from fun _ => rfl)
                      generalize inL.getD q (0, 0) = c at *
                      obtain ⟨cr, ch⟩ := c
                      dsimp only at i0 i1 hcI
                      generalize lsum (roomIf ss s1.wants x k2) (inL.take q) = R at *
                      have hbA := hb5.alloc hb5.size (.cells #[.int .i64 cr, .int .u32 ch] 39)
                      have bX := Blk.new wo5 39 #[.int .i64 cr, .int .u32 ch]
                      have hbAH := Lib.hid hbA; have bXH := Lib.hid bX
                      have hq0 : (0 : Int) ≤ q := by omega
                      have hqn : (q : Int) < nI := by omega
                      have hq1 : IntKind.i64.wrap ((q : Int) + 1) = ((q + 1 : Nat) : Int) := by rw [IntWalk.i64_in _ (by omega)]; omega
                      clear hb5 hbA bX
                      go_wp2
                      generalize wo5.alloc (.cells #[.int .i64 cr, .int .u32 ch] 39) = w6 at *
                      generalize hbXe : wo5.heap.size = bX at *
                      go_loopw [23, 24, 25, 115, 117, 118, 119, 120, 121, 122, 123, 124, 125, 126, 127, 128, 129, 130, 131, 132, 133, 134, 135, 136, 137, 138] (fun b _ _ i _ _ _ _ _ _ _ _ _ _ _ _ _ _ _ _ _ _ _ _ _ _ wr => ∃ r : Nat, r ≤ k2 ∧ i = .int .i64 r ∧ b = .bool (someB ss s1.wants x ch r) ∧ Below w6.heap.size w6 wr) (fun _ _ _ i _ _ _ _ _ _ _ _ _ _ _ _ _ _ _ _ _ _ _ _ _ _ _ => k2 - (intOf i).toNat)
                      case atStart => exact ⟨0, Nat.zero_le _, rfl, rfl, Below.refl _ _⟩
                      case round =>
                        obtain ⟨wo7, rfl⟩ : ∃ wo7 : World, wo7 = wr := ⟨_, rfl⟩
                        obtain ⟨r, hr, rfl, rfl, hb7⟩ := hrel
                        have hb7u := hbAH.out.trans (hb7.mono hbAH.out.size)
                        have bX7 := bXH.out.below hb7 bXH.out.lt
                        have p0 := bX7.cell (j := 0) rfl; have p1 := bX7.cell (j := 1) rfl
                        by_cases hlr : r < k2
                        · obtain ⟨bb, ob, rfl, hbb, cb⟩ := (hRBH.out.later hb7u).wd hlr
                          obtain ⟨bw, ow, rfl, hbwl, cw⟩ := (hRWH.out.later hb7u).int hlr
                          have bk7 := hbkH.out.below hb7u hbkH.out.lt
                          have c27 := bk7.cell (j := 2) rfl
                          have ht7 := htsH.out r
                          have hsb := Lib.hid (show someB ss s1.wants x ch (r + 1) = (someB ss s1.wants x ch r || (x.testBit r && decide (0 < s1.wants.getD r 0) && mayI ch (ss.getD r 0 : Nat))) from rfl)
                          have HBt := Lib.hid (bitR_any x r wo7 hx32 (by omega))
                          generalize ss.getD r 0 = t at *
                          generalize s1.wants.getD r 0 = n at *
                          obtain ⟨hh, hhe⟩ := Int.eq_ofNat_of_zero_le hcI.2.1
                          have HMy := Lib.hid (refMay_any cr hh t wo7 (by omega) ht7)
                          rw [← hhe] at HMy
                          clear hhe
                          generalize someB ss s1.wants x ch r = sb at *
                          have hr0 : (0 : Int) ≤ r := by omega
                          have hrn : (r : Int) < k2 := by omega
                          have hb7H := Lib.hid hb7
                          clear hb7 hb7u bX7 bk7
                          cases sb
                          · cases hbit : x.testBit r
                            · rw [hbit] at HBt hsb
                              have e1 : someB ss s1.wants x ch (r + 1) = false := by rw [hsb.out]; simp
                              have e1H := Lib.hid e1
                              clear e1
                              go_wp2_with fail
                              refine HBt.out.mono ?_
                              rintro e w9 ⟨rfl, rfl⟩
                              go_wp2
                              go_roundw
                              case rel => exact ⟨r + 1, by omega, by go_num, by rw [e1H.out], hb7H.out⟩
                              case measure => simp [intOf]; omega
                            · rw [hbit] at HBt hsb
                              by_cases hn : 0 < n
                              · have hd : decide (0 < n) = true := decide_eq_true hn
                                rw [hd] at hsb
                                have e1H := Lib.hid (show someB ss s1.wants x ch (r + 1) = mayI ch (t : Int) by rw [hsb.out]; simp)
                                generalize mayI ch (t : Int) = mm at *
                                go_wp2_with (first | (refine HBt.out.mono ?_; rintro e w9 ⟨rfl, rfl⟩) | fail)
                                refine HMy.out.mono ?_
                                rintro e w9 ⟨rfl, hb9⟩
                                have hb9H := Lib.hid (hb7H.out.trans (hb9.mono hb7H.out.size))
                                clear hb9
                                go_wp2
                                go_roundw
                                case rel => exact ⟨r + 1, by omega, by go_num, by rw [e1H.out], hb9H.out⟩
                                case measure => simp [intOf]; omega
                              · have hd : decide (0 < n) = false := decide_eq_false hn
                                rw [hd] at hsb
                                have e1H := Lib.hid (show someB ss s1.wants x ch (r + 1) = false by rw [hsb.out]; simp)
                                go_wp2_with fail
                                refine HBt.out.mono ?_
                                rintro e w9 ⟨rfl, rfl⟩
                                go_wp2
                                go_roundw
                                case rel => exact ⟨r + 1, by omega, by go_num, by rw [e1H.out], hb7H.out⟩
                                case measure => simp [intOf]; omega
                          · have e1H := Lib.hid (show someB ss s1.wants x ch (r + 1) = true by rw [hsb.out]; simp)
                            go_wp2
                            go_roundw
                            case rel => exact ⟨r + 1, by omega, by go_num, by rw [e1H.out], hb7H.out⟩
                            case measure => simp [intOf]; omega
                        · obtain rfl : k2 = r := by omega
                          have hrx := hri.out (cr, ch)
                          dsimp only at hrx
                          generalize someB ss s1.wants x ch k2 = sb at *
                          have hb7H := Lib.hid hb7u
                          clear hb7 hb7u bX7
                          cases sb
                          · rw [if_neg (by simp)] at hrx
                            rw [hrx] at hst hr2
                            have hstH := Lib.hid hst.out
                            go_wp2
                            go_roundw
                            case rel => exact ⟨q + 1, by omega, by go_num, by rw [hstH.out]; simp, hb7H.out⟩
                            case measure => simp [intOf]; omega
                          · rw [if_pos rfl] at hrx
                            rw [hrx] at hst hr2
                            have hwr : IntKind.i64.wrap (T1 - R - cr) = T1 - R - cr := IntWalk.i64_in _ (by omega)
                            have e3 := Lib.hid (show T1 - R - cr = T1 - (R + cr) by omega)
                            go_wp2
                            go_roundw
                            case rel => exact ⟨q + 1, by omega, by go_num, by rw [hst.out, e3.out], hb7H.out⟩
                            case measure => simp [intOf]; omega
                    · obtain rfl : nI = q := by omega
                      have htk : inL.take nI = inL := List.take_of_length_le (by rw [hnIeH.out]; exact Nat.le_refl _)
                      rw [htk] at hr1 ⊢
                      rw [← hLxx.out]
                      have hlx : -1000 ≤ L x ∧ L x ≤ 12 := by rw [hLxx.out]; omega
                      have hupx := Lib.hid (fun (M : Int) (h1 : m ≤ M) (h2 : L x ≤ M) y (hy : y < x + 1) => show L y ≤ M by
                        rcases Nat.lt_or_ge y x with h | h
                        · exact Int.le_trans (hupH.out y h) h1
                        · rw [show y = x by omega]; exact h2)
                      have hLH := Lib.hid (show ∃ y, L y = L x from ⟨x, rfl⟩)
                      have hx1' : IntKind.u32.wrap ((x : Int) + 1) = ((x + 1 : Nat) : Int) := by rw [IntKind.wrap_u32', Int.emod_eq_of_lt (by omega) (by omega)]; omega
                      have hb5H := Lib.hid hb5
                      clear hb5 hr1 htk hLxx hub1
                      generalize L x = lx at *
                      by_cases hml : m < lx
                      · go_wp2
                        go_roundw
                        case rel => exact ⟨x + 1, lx, by omega, by go_num, rfl, by omega, by omega, .inr hLH.out, hupx.out lx (by omega) (Int.le_refl _), hb5H.out⟩
                        case measure => simp [intOf]; omega
                      · go_wp2
                        go_roundw
                        case rel => exact ⟨x + 1, m, by omega, by go_num, rfl, hm0, hm9, hmxH.out, hupx.out m (Int.le_refl _) (by omega), hb5H.out⟩
                        case measure => simp [intOf]; omega
            · obtain rfl : pn = x := by omega
              have hT : 0 ≤ T0 - P ∧ T0 ≤ 12 := ⟨hP1H.out, hs12⟩
              have hP := hP0H.out
              have hwr : IntKind.i64.wrap (T0 - P) = T0 - P := IntWalk.i64_in _ (by omega)
              have heq : (T0 - P == m) = true := by
                obtain ⟨y, hy, hy2⟩ := hlaw2.out
                have h1 := hupH.out y hy
                have h2 : m ≤ T0 - P := by
                  rcases hmxH.out with h | ⟨z, hz⟩
                  · omega
                  · rw [← hz]; exact hlaw1.out z
                exact beq_iff_eq.2 (by omega)
              have hHC := Lib.hid (hPH.out wo3 (hRLH.out.later hb3H.out))
              have x0 := hbk3.cell (j := 0) rfl; have x1 := hbk3.cell (j := 1) rfl; have x2 := hbk3.cell (j := 2) rfl; have x3 := hbk3.cell (j := 3) rfl
              clear hT hP hPH hbk3
              go_wp2_with fail
              refine hHC.out.mono ?_
              rintro e w9 ⟨rfl, hb9⟩
              have hfin := Lib.hid (hbwH.out.trans ((hb3H.out.trans (hb9.mono hb3H.out.size)).mono hbwH.out.size))
              clear hb9 x0 x1 x2 x3
              go_wp2
              go_ret
              exact ⟨rfl, hfin.out⟩
end Go.Proofs.Yticffbcbfgboeaa
