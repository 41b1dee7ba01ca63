/- TopMore: the walk. -/
import Derived.Test.YticffbcbfgboeaaTopMoreLaw
import Derived.Test.YticffbcbfgboeaaTopA
namespace Go.Proofs.Yticffbcbfgboeaa
open Go.RowKit Go.Shelf

theorem tiXt : TI Try.prog 24 26 (.agg #[.int .i64 0, .int .i64 0, .int .i64 0]) 3 24 := TI.mk' Try.underlying24 (by kernel_rfl) rfl (by decide)
theorem ps3_app {k₁ k₂ k₃ : IntKind} (a b : List (Int × Int × Int)) : ps3 k₁ k₂ k₃ (a ++ b) = ps3 k₁ k₂ k₃ a ++ ps3 k₁ k₂ k₃ b := by simp [ps3]
theorem rd_new6 (w : World) (a b c d e f : Value) (t : TypeId) : Rd (w.alloc (Obj.cells #[a, b, c, d, e, f] t)) (some ⟨w.heap.size, 0, none⟩) 2 3 [a, b, c, d, e, f] := by
  have h := Blk.new w t #[a, b, c, d, e, f]
  refine ⟨rfl, fun _ => ⟨w.heap.size, 0, rfl, h.lt, fun j hj => ?_⟩⟩
  match j, hj with
  | 0, _ => exact h.cell (j := 0) rfl
  | 1, _ => exact h.cell (j := 1) rfl
  | 2, _ => exact h.cell (j := 2) rfl
  | 3, _ => exact h.cell (j := 3) rfl
  | 4, _ => exact h.cell (j := 4) rfl
  | 5, _ => exact h.cell (j := 5) rfl
  | j + 6, h => omega
/-- an answer in memory -/
structure CQ (W : World) (b : Nat) (A1 : Option Addr) (n c1 : Nat) (A2 : Option Addr) (ns c2 : Nat) (A3 : Option Addr) (c3 : Nat) (s : CS) (cs : List Int) : Prop where
  bk : Blk W b 32 #[.slice A1 n c1, .int .u32 (s.inn : Int), .slice A2 ns c2, .slice A3 ns c3]
  co : Rd W A1 n 1 (ints .i64 cs)
  rl : RL W A3 ns s.tasks
theorem PM.cq {n₀ ns n d1 d2 d3 : Nat} {D1 D2 D3 : Option Addr} {s : CS} {cs : List Int} {tv : List Value} {W : World} (h : PM n₀ ns s cs (.slice D1 n d1) (.slice D2 ns d2) (.slice D3 ns d3) tv W) (hn : cs.length = n) :
    CQ (W.alloc (.cells #[.slice D1 n d1, .int .u32 (s.inn : Int), .slice D2 ns d2, .slice D3 ns d3] 32)) W.heap.size D1 n d1 D2 ns d2 D3 d3 s cs := by
  have h1 := h.co
  rw [hn] at h1
  exact ⟨Blk.new W _ _, (Rd.of_own h1).alloc _, h.lists.later ((Below.refl _ W).alloc (Nat.le_refl _) _)⟩
theorem CQ.later {W W' : World} {b n ns c1 c2 c3 : Nat} {A1 A2 A3 : Option Addr} {s : CS} {cs : List Int} (h : CQ W b A1 n c1 A2 ns c2 A3 c3 s cs) (hb : Below W.heap.size W W') : CQ W' b A1 n c1 A2 ns c2 A3 c3 s cs :=
  ⟨h.bk.below hb h.bk.lt, h.co.later hb, h.rl.later hb⟩
set_option maxHeartbeats 3200000 in
set_option maxRecDepth 100000 in
set_option linter.unusedSimpArgs false in
theorem topMore_any (A B C : Option Addr) (nw ns nc cA cB cC : Nat) (ws : List (Int × Int)) (ss : List Nat) (xs : List Chg) (j : Int) (w : World) (hA : Rd w A nw 2 (ps2 .i64 .u32 ws)) (hB : Rd w B ns 1 (wds ss)) (hC : Rd w C nc 3 (ps3 .i64 .i64 .i64 xs))
    (hnw : nw ≤ 9223372036854775807) (hns : ns ≤ 9223372036854775807) (hnc : nc * 24 ≤ 140737488351232) :
    Calls Try.prog 4 #[.slice A nw cA, .slice B ns cB, .slice C nc cC, .int .i64 j] w fun e w' => e = .returned (.bool true) ∧ Below w.heap.size w w' := by
  have hAH := Lib.hid hA; have hBH := Lib.hid hB; have hCH := Lib.hid hC
  obtain ⟨xs1, hx1⟩ : ∃ xs1 : List Chg, xs ++ [(4, 0, 0)] = xs1 := ⟨_, rfl⟩
  obtain ⟨xs2, hx2⟩ : ∃ xs2 : List Chg, xs1 ++ [(1, j, 0), (4, 0, 0)] = xs2 := ⟨_, rfl⟩
  obtain ⟨xs3, hx3⟩ : ∃ xs3 : List Chg, xs2 ++ [(2, j, 0), (4, 0, 0)] = xs3 := ⟨_, rfl⟩
  have hx1H := Lib.hid hx1; have hx2H := Lib.hid hx2; have hx3H := Lib.hid hx3
  have hwl : ws.length = nw := by have := hA.1; rw [ps2_length] at this; omega
  have hsl : ss.length = ns := by have := hB.1; rw [wds_length] at this; omega
  have hxl : xs.length = nc := by have := hC.1; rw [ps3_length] at this; omega
  have hwlH := Lib.hid hwl; have hslH := Lib.hid hsl; have hxlH := Lib.hid hxl
  clear hA hB hC hx1 hx2 hx3 hwl hsl hxl
  go_enter Try.func4, Try.ntmps4
  have hs0 : ∀ (W : World) (o : Obj), (W.alloc o).heap.size = W.heap.size + 1 := fun W o => World.size_alloc W o
  -- one
  go_wp2_with (at_builtin; refine wpList_app (s := .tmp 18) (x := .tmp 19) _ tiXt (World.ownsRow_lit (base := w.heap.size) w #[] 0 (Nat.le_refl _) (Nat.zero_le _) rfl) (hCH.out.alloc _) (ps3_one (l := xs)) (by omega) (by omega) (by simp) rfl rfl rfl rfl ?_)
  intro v1 w1 hown1 hg1 _
  have hb1 : Below w.heap.size w w1 := ((Below.refl _ _).alloc (Nat.le_refl _) _).grown hg1 (by simp) (by simp [Value.ownBlock])
  obtain ⟨A1, c1, rfl⟩ := own_slice hown1
  have hbA1 := hb1.alloc hb1.size (.cells #[.int .i64 4, .int .i64 0, .int .i64 0] 26)
  have hrd1 := rd_new3 w1 (.int .i64 4) (.int .i64 0) (.int .i64 0) 26
  have ho1 := hown1.alloc (.cells #[.int .i64 4, .int .i64 0, .int .i64 0] 26)
  clear hg1
  go_wp2_with (at_builtin; refine wpList_app (s := .tmp 20) (x := .tmp 22) _ tiXt ho1 hrd1 (ps3_one (l := [(4, 0, 0)])) (by omega) (by omega) hbA1.size rfl rfl rfl rfl ?_)
  intro v2 w2 hown2 hg2 _
  have hb2 := hbA1.grown hg2 hbA1.size (fun q hq => (ho1.lt q hq).1)
  obtain ⟨A2, c2, rfl⟩ := own_slice hown2
  have hR2 : Rd w2 A2 (nc + 1) 3 (ps3 .i64 .i64 .i64 xs1) := by
    have := Rd.of_own hown2
    rw [← hx1H.out, ps3_app]
    exact this
  have hR2H := Lib.hid hR2; have hb2H := Lib.hid hb2
  clear hbA1 hrd1 ho1 hown1 hown2 hg2 hb1 hb2 hR2
  -- two
  go_wp2_with (at_builtin; refine wpList_app (s := .tmp 24) (x := .tmp 25) _ tiXt (World.ownsRow_lit (base := w2.heap.size) w2 #[] 0 (Nat.le_refl _) (Nat.zero_le _) rfl) (hR2H.out.alloc _) (ps3_one (l := xs1)) (by omega) (by omega) (by simp) rfl rfl rfl rfl ?_)
  intro v3 w3 hown3 hg3 _
  have hb3 : Below w2.heap.size w2 w3 := ((Below.refl _ _).alloc (Nat.le_refl _) _).grown hg3 (by simp) (by simp [Value.ownBlock])
  obtain ⟨A3, c3, rfl⟩ := own_slice hown3
  have hbA3 := hb3.alloc hb3.size (.cells #[.int .i64 1, .int .i64 j, .int .i64 0, .int .i64 4, .int .i64 0, .int .i64 0] 26)
  have hrd3 : Rd (w3.alloc (.cells #[.int .i64 1, .int .i64 j, .int .i64 0, .int .i64 4, .int .i64 0, .int .i64 0] 26)) (some ⟨w3.heap.size, 0, none⟩) 2 3 (ps3 .i64 .i64 .i64 [(1, j, 0), (4, 0, 0)]) := rd_new6 w3 _ _ _ _ _ _ _
  have ho3 := hown3.alloc (.cells #[.int .i64 1, .int .i64 j, .int .i64 0, .int .i64 4, .int .i64 0, .int .i64 0] 26)
  clear hg3
  go_wp2_with (at_builtin; refine wpList_app (s := .tmp 26) (x := .tmp 30) _ tiXt ho3 hrd3 (ps3_one (l := [(1, j, 0), (4, 0, 0)])) (by omega) (by omega) hbA3.size rfl rfl rfl rfl ?_)
  intro v4 w4 hown4 hg4 _
  have hb4 := hbA3.grown hg4 hbA3.size (fun q hq => (ho3.lt q hq).1)
  obtain ⟨A4, c4, rfl⟩ := own_slice hown4
  have hR4 : Rd w4 A4 (nc + 3) 3 (ps3 .i64 .i64 .i64 xs2) := by
    have := Rd.of_own hown4
    rw [← hx2H.out, ps3_app]
    exact this
  have hR4H := Lib.hid hR4; have hb4H := Lib.hid (hb2H.out.trans (hb4.mono hb2H.out.size)); have hR24H := Lib.hid (hR2H.out.later hb4)
  clear hbA3 hrd3 ho3 hown3 hown4 hg4 hb3 hb4 hR4 hR2H hb2H
  -- three
  go_wp2_with (at_builtin; refine wpList_app (s := .tmp 32) (x := .tmp 33) _ tiXt (World.ownsRow_lit (base := w4.heap.size) w4 #[] 0 (Nat.le_refl _) (Nat.zero_le _) rfl) (hR4H.out.alloc _) (ps3_one (l := xs2)) (by omega) (by omega) (by simp) rfl rfl rfl rfl ?_)
  intro v5 w5 hown5 hg5 _
  have hb5 : Below w4.heap.size w4 w5 := ((Below.refl _ _).alloc (Nat.le_refl _) _).grown hg5 (by simp) (by simp [Value.ownBlock])
  obtain ⟨A5, c5, rfl⟩ := own_slice hown5
  have hbA5 := hb5.alloc hb5.size (.cells #[.int .i64 2, .int .i64 j, .int .i64 0, .int .i64 4, .int .i64 0, .int .i64 0] 26)
  have hrd5 : Rd (w5.alloc (.cells #[.int .i64 2, .int .i64 j, .int .i64 0, .int .i64 4, .int .i64 0, .int .i64 0] 26)) (some ⟨w5.heap.size, 0, none⟩) 2 3 (ps3 .i64 .i64 .i64 [(2, j, 0), (4, 0, 0)]) := rd_new6 w5 _ _ _ _ _ _ _
  have ho5 := hown5.alloc (.cells #[.int .i64 2, .int .i64 j, .int .i64 0, .int .i64 4, .int .i64 0, .int .i64 0] 26)
  clear hg5
  go_wp2_with (at_builtin; refine wpList_app (s := .tmp 34) (x := .tmp 38) _ tiXt ho5 hrd5 (ps3_one (l := [(2, j, 0), (4, 0, 0)])) (by omega) (by omega) hbA5.size rfl rfl rfl rfl ?_)
  intro v6 w6 hown6 hg6 _
  have hb6 := hbA5.grown hg6 hbA5.size (fun q hq => (ho5.lt q hq).1)
  obtain ⟨A6, c6, rfl⟩ := own_slice hown6
  have hR6 : Rd w6 A6 (nc + 5) 3 (ps3 .i64 .i64 .i64 xs3) := by
    have := Rd.of_own hown6
    rw [← hx3H.out, ps3_app]
    exact this
  have hR6H := Lib.hid hR6; have hb6H := Lib.hid (hb4H.out.trans (hb6.mono hb4H.out.size)); have hR26H := Lib.hid (hR24H.out.later hb6); have hR46H := Lib.hid (hR4H.out.later hb6)
  clear hbA5 hrd5 ho5 hown5 hown6 hg6 hb5 hb6 hR6 hR24H hR4H hb4H
  have hx1l : xs1.length = nc + 1 := by rw [← hx1H.out, List.length_append, hxlH.out]; rfl
  have hx2l : xs2.length = nc + 3 := by rw [← hx2H.out, List.length_append, hx1l]; rfl
  have hx3l : xs3.length = nc + 5 := by rw [← hx3H.out, List.length_append, hx2l]; rfl
  have hx1lH := Lib.hid hx1l; have hx2lH := Lib.hid hx2l; have hx3lH := Lib.hid hx3l
  clear hx1l hx2l hx3l hs0
  by_cases hgo : pchk ws ns = 0 ∧ nc + 5 ≤ 64
  case neg =>
    have HP1 := Lib.hid (fun W (hb : Below w6.heap.size w6 W) => play_any A B A2 nw ns (nc + 1) cA cB c2 ws ss xs1 W (hAH.out.later (hb6H.out.trans (hb.mono hb6H.out.size))) (hBH.out.later (hb6H.out.trans (hb.mono hb6H.out.size))) (hR26H.out.later hb) hnw hns (by omega))
    have HP2 := Lib.hid (fun W (hb : Below w6.heap.size w6 W) => play_any A B A4 nw ns (nc + 3) cA cB c4 ws ss xs2 W (hAH.out.later (hb6H.out.trans (hb.mono hb6H.out.size))) (hBH.out.later (hb6H.out.trans (hb.mono hb6H.out.size))) (hR46H.out.later hb) hnw hns (by omega))
    have HP3 : Hid (∀ W (_ : Below w6.heap.size w6 W), Calls Try.prog 7 #[.slice A nw cA, .slice B ns cB, .slice A6 (nc + 5) c6] W fun e w' => (∃ code : Int, (code != 0) = true ∧ e = .returned (.tuple #[.agg #[.slice none 0 0, .int .u32 0, .slice none 0 0, .slice none 0 0], .int .i64 code])) ∧ Below W.heap.size W w') := Lib.hid (fun W hb => by
      by_cases hok : pchk ws ns = 0
      · exact (play_big A B A6 nw ns (nc + 5) cA cB c6 ws W (hAH.out.later (hb6H.out.trans (hb.mono hb6H.out.size))) hok (Nat.lt_of_not_le fun h => hgo ⟨hok, h⟩) (by omega)).mono fun e w' ⟨he, hb⟩ => ⟨⟨1, rfl, he⟩, hb⟩
      · exact (play_bad A B A6 nw ns (nc + 5) cA cB c6 ws W (hAH.out.later (hb6H.out.trans (hb.mono hb6H.out.size))) hnw hns hok).mono fun e w' ⟨he, hb⟩ => ⟨⟨_, bne_iff_ne.2 hok, he⟩, hb⟩)
    have hf : (decide (pchk ws ns = 0) && decide (nc + 5 ≤ 64)) = false := by
      rw [Bool.and_eq_false_iff]
      by_cases hok : pchk ws ns = 0
      · exact .inr (decide_eq_false fun h => hgo ⟨hok, h⟩)
      · exact .inl (decide_eq_false hok)
    have HM := Lib.hid (fun W (hb : Below w6.heap.size w6 W) => tmay_any A B A6 nw ns (nc + 5) cA cB c6 ws W (hAH.out.later (hb6H.out.trans (hb.mono hb6H.out.size))) hnw hns (by omega))
    rw [hf] at HM
    clear hf hgo hR6H hR26H hR46H
    go_wp2_with fail
    refine (HP1.out _ (Below.refl _ _)).mono ?_
    rintro e p1 ⟨⟨D1, n1, d1, D2, n2, d2, D3, n3, d3, inn, code, rfl⟩, hq1⟩
    have hq1H := Lib.hid (hq1.alloc hq1.size (.cells #[.slice D1 n1 d1, .int .u32 inn, .slice D2 n2 d2, .slice D3 n3 d3] 32))
    clear hq1 HP1
    go_wp2_with fail
    refine (HP2.out _ hq1H.out).mono ?_
    rintro e p2 ⟨⟨E1, m1, e1, E2, m2, e2, E3, m3, e3, inn2, code2, rfl⟩, hq2⟩
    have hq2a := hq1H.out.trans (hq2.mono hq1H.out.size)
    have hq2H := Lib.hid (hq2a.alloc hq2a.size (.cells #[.slice E1 m1 e1, .int .u32 inn2, .slice E2 m2 e2, .slice E3 m3 e3] 32))
    clear hq2 hq2a hq1H HP2
    go_wp2_with fail
    refine (HP3.out _ hq2H.out).mono ?_
    rintro e p3 ⟨⟨code3, hc3, rfl⟩, hq3⟩
    have hq3a := hq2H.out.trans (hq3.mono hq2H.out.size)
    have hq3H := Lib.hid (hq3a.alloc hq3a.size (.cells #[.slice none 0 0, .int .u32 0, .slice none 0 0, .slice none 0 0] 32))
    clear hq3 hq3a hq2H HP3
    go_wp2_with fail
    refine (HM.out _ hq3H.out).mono ?_
    rintro e p4 ⟨rfl, hq4⟩
    have hq4a := hq3H.out.trans (hq4.mono hq3H.out.size)
    have hfin := Lib.hid (hb6H.out.trans (hq4a.mono hb6H.out.size))
    clear hq4 hq4a hq3H HM
    go_wp2
    go_ret
    exact ⟨rfl, hfin.out⟩
  obtain ⟨hok, h5⟩ := hgo
  obtain ⟨hn6, hn12, hrm⟩ := pchk_ok hok
  obtain ⟨pl, hpl⟩ := exists_pl
  have HP := Lib.hid (fun W (hb : Below w6.heap.size w6 W) (L : Option Addr) (n c : Nat) (hn : n ≤ 64) (l : List Chg) (hL : Rd w6 L n 3 (ps3 .i64 .i64 .i64 l)) => play_ok pl hpl A B L nw ns n cA cB c ws ss l W (hAH.out.later (hb6H.out.trans (hb.mono hb6H.out.size))) (hBH.out.later (hb6H.out.trans (hb.mono hb6H.out.size))) (hL.later hb) hok hn)
  have HM := Lib.hid (fun W (hb : Below w6.heap.size w6 W) => tmay_any A B A6 nw ns (nc + 5) cA cB c6 ws W (hAH.out.later (hb6H.out.trans (hb.mono hb6H.out.size))) hnw hns (by omega))
  have htr : (decide (pchk ws ns = 0) && decide (nc + 5 ≤ 64)) = true := by rw [decide_eq_true hok, decide_eq_true h5]; rfl
  rw [htr] at HM
  have hO1 := runS_ok (pl := pl) hwlH.out hslH.out xs1 (initC ns) (initC_ok nw ns)
  have hO2 := runS_ok (pl := pl) hwlH.out hslH.out xs2 (initC ns) (initC_ok nw ns)
  have hO3 := runS_ok (pl := pl) hwlH.out hslH.out xs3 (initC ns) (initC_ok nw ns)
  have hl1 := runC_length pl ws ss xs1 (initC ns)
  have hl2 := runC_length pl ws ss xs2 (initC ns)
  have hl3 := runC_length pl ws ss xs3 (initC ns)
  rw [hx1lH.out] at hl1
  rw [hx2lH.out] at hl2
  rw [hx3lH.out] at hl3
  have hO0 := runS_ok (pl := pl) hwlH.out hslH.out xs (initC ns) (initC_ok nw ns)
  have e1 : runS pl ws ss xs1 (initC ns) = tickF pl ws ss (runS pl ws ss xs (initC ns)) := by rw [← hx1H.out, runS_snoc, step_tick]
  have e2 : runS pl ws ss xs2 (initC ns) = tickF pl ws ss (stepS pl ws ss (runS pl ws ss xs1 (initC ns)) (1, j, 0)) := by
    rw [← hx2H.out, show xs1 ++ [(1, j, 0), (4, 0, 0)] = (xs1 ++ [(1, j, 0)]) ++ [(4, 0, 0)] by simp, runS_snoc, step_tick, runS_snoc]
  have e3 : runS pl ws ss xs3 (initC ns) = tickF pl ws ss (stepS pl ws ss (runS pl ws ss xs2 (initC ns)) (2, j, 0)) := by
    rw [← hx3H.out, show xs2 ++ [(2, j, 0), (4, 0, 0)] = (xs2 ++ [(2, j, 0)]) ++ [(4, 0, 0)] by simp, runS_snoc, step_tick, runS_snoc]
  have hcode : (runC pl ws ss xs2 (initC ns)).getD (nc + 1) 0 = stepC ws ss (runS pl ws ss xs1 (initC ns)) (1, j, 0) := by
    rw [← hx2H.out, show xs1 ++ [(1, j, 0), (4, 0, 0)] = (xs1 ++ [(1, j, 0)]) ++ [(4, 0, 0)] by simp, runC_snoc, runC_snoc, ← hl1]
    simp [List.getD]
  have hlaw := top_more hpl hwlH.out (by have := hwlH.out; omega) hrm hO0 j e1 e2 e3
  have HP1 := Lib.hid (fun W hb => HP.out W hb A2 (nc + 1) c2 (by omega) xs1 hR26H.out)
  have HP2 := Lib.hid (fun W hb => HP.out W hb A4 (nc + 3) c4 (by omega) xs2 hR46H.out)
  have HP3 := Lib.hid (fun W hb => HP.out W hb A6 (nc + 5) c6 (by omega) xs3 hR6H.out)
  clear HP
  generalize runS pl ws ss xs1 (initC ns) = s1 at *
  generalize runS pl ws ss xs2 (initC ns) = s2 at *
  generalize runS pl ws ss xs3 (initC ns) = s3 at *
  generalize runC pl ws ss xs1 (initC ns) = k1 at *
  generalize runC pl ws ss xs2 (initC ns) = k2 at *
  generalize runC pl ws ss xs3 (initC ns) = k3 at *
  generalize stepC ws ss s1 (1, j, 0) = cj at *
  have hl1H := Lib.hid hl1; have hl2H := Lib.hid hl2; have hl3H := Lib.hid hl3; have hO1H := Lib.hid hO1; have hO2H := Lib.hid hO2; have hO3H := Lib.hid hO3; have hcodeH := Lib.hid hcode; have hlawH := Lib.hid hlaw
  clear hl1 hl2 hl3 hO0 hO1 hO2 hO3 e1 e2 e3 hcode hlaw hR26H hR46H hR6H hrm hpl htr hok hx1H hx2H hx3H
  go_wp2_with fail
  refine (HP1.out _ (Below.refl _ _)).mono ?_
  rintro e p1 ⟨vC, vW, vT, tv, rfl, hP, hq⟩
  obtain ⟨D1, d1, e1⟩ := own_slice hP.co
  obtain ⟨D2, d2, rfl⟩ := own_slice hP.wa
  obtain ⟨D3, d3, rfl⟩ := own_slice hP.ta
  rw [hl1H.out] at e1
  subst e1
  have qc := Lib.hid (hP.cq hl1H.out)
  have hqa := Lib.hid (hq.alloc hq.size (.cells #[.slice D1 (nc + 1) d1, .int .u32 (s1.inn : Int), .slice D2 ns d2, .slice D3 ns d3] 32))
  clear hP hq HP1
  go_wp2_with fail
  generalize p1.alloc (.cells #[.slice D1 (nc + 1) d1, .int .u32 (s1.inn : Int), .slice D2 ns d2, .slice D3 ns d3] 32) = u1 at *
  generalize p1.heap.size = b1 at *
  refine (HP2.out _ hqa.out).mono ?_
  rintro e p2 ⟨vC, vW, vT, tv2, rfl, hP, hq⟩
  obtain ⟨E1, f1, e1⟩ := own_slice hP.co
  obtain ⟨E2, f2, rfl⟩ := own_slice hP.wa
  obtain ⟨E3, f3, rfl⟩ := own_slice hP.ta
  rw [hl2H.out] at e1
  subst e1
  have qd := Lib.hid (hP.cq hl2H.out)
  have hq2 := hq.alloc hq.size (.cells #[.slice E1 (nc + 3) f1, .int .u32 (s2.inn : Int), .slice E2 ns f2, .slice E3 ns f3] 32)
  have qc2 := Lib.hid (qc.out.later hq2)
  have hqb := Lib.hid (hqa.out.trans (hq2.mono hqa.out.size))
  clear hP hq hq2 HP2 qc hqa
  go_wp2_with fail
  generalize p2.alloc (.cells #[.slice E1 (nc + 3) f1, .int .u32 (s2.inn : Int), .slice E2 ns f2, .slice E3 ns f3] 32) = u2 at *
  generalize p2.heap.size = b2 at *
  refine (HP3.out _ hqb.out).mono ?_
  rintro e p3 ⟨vC, vW, vT, tv3, rfl, hP, hq⟩
  obtain ⟨G1, g1, e1⟩ := own_slice hP.co
  obtain ⟨G2, g2, rfl⟩ := own_slice hP.wa
  obtain ⟨G3, g3, rfl⟩ := own_slice hP.ta
  rw [hl3H.out] at e1
  subst e1
  have qx := Lib.hid (hP.cq hl3H.out)
  have hq2 := hq.alloc hq.size (.cells #[.slice G1 (nc + 5) g1, .int .u32 (s3.inn : Int), .slice G2 ns g2, .slice G3 ns g3] 32)
  have qd2 := Lib.hid (qd.out.later hq2)
  have qc3 := Lib.hid (qc2.out.later hq2)
  have hqc := Lib.hid (hqb.out.trans (hq2.mono hqb.out.size))
  clear hP hq hq2 HP3 qd qc2 hqb
  go_wp2_with fail
  generalize p3.alloc (.cells #[.slice G1 (nc + 5) g1, .int .u32 (s3.inn : Int), .slice G2 ns g2, .slice G3 ns g3] 32) = u3 at *
  generalize p3.heap.size = b3 at *
  refine (HM.out _ hqc.out).mono ?_
  rintro e u4 ⟨rfl, hq⟩
  have qc4 := Lib.hid (qc3.out.later hq); have qd4 := Lib.hid (qd2.out.later hq); have qx4 := Lib.hid (qx.out.later hq)
  have hqd := Lib.hid (hqc.out.trans (hq.mono hqc.out.size))
  clear hq HM qc3 qd2 qx hqc
  have y0 := qc4.out.bk.cell (j := 0) rfl; have y1 := qc4.out.bk.cell (j := 1) rfl; have y2 := qc4.out.bk.cell (j := 2) rfl; have y3 := qc4.out.bk.cell (j := 3) rfl
  go_wp2_with fail
  refine (whole_ok D1 D2 D3 B A2 ns (nc + 1) d1 d2 d3 cB c2 _ u4).mono ?_
  rintro e u5 ⟨rfl, hq⟩
  have qc5 := Lib.hid (qc4.out.later hq); have qd5 := Lib.hid (qd4.out.later hq); have qx5 := Lib.hid (qx4.out.later hq)
  have hqe := Lib.hid (hqd.out.trans (hq.mono hqd.out.size))
  clear hq qc4 qd4 qx4 hqd y0 y1 y2 y3
  have y0 := qd5.out.bk.cell (j := 0) rfl; have y1 := qd5.out.bk.cell (j := 1) rfl; have y2 := qd5.out.bk.cell (j := 2) rfl; have y3 := qd5.out.bk.cell (j := 3) rfl
  go_wp2_with fail
  refine (whole_ok E1 E2 E3 B A4 ns (nc + 3) f1 f2 f3 cB c4 _ u5).mono ?_
  rintro e u6 ⟨rfl, hq⟩
  have qc6 := Lib.hid (qc5.out.later hq); have qd6 := Lib.hid (qd5.out.later hq); have qx6 := Lib.hid (qx5.out.later hq)
  have hqf := Lib.hid (hqe.out.trans (hq.mono hqe.out.size))
  clear hq qc5 qd5 qx5 hqe y0 y1 y2 y3
  have y0 := qx6.out.bk.cell (j := 0) rfl; have y1 := qx6.out.bk.cell (j := 1) rfl; have y2 := qx6.out.bk.cell (j := 2) rfl; have y3 := qx6.out.bk.cell (j := 3) rfl
  go_wp2_with fail
  refine (whole_ok G1 G2 G3 B A6 ns (nc + 5) g1 g2 g3 cB c6 _ u6).mono ?_
  rintro e u7 ⟨rfl, hq⟩
  have qc7 := Lib.hid (qc6.out.later hq); have qd7 := Lib.hid (qd6.out.later hq); have qx7 := Lib.hid (qx6.out.later hq)
  have hqg := Lib.hid (hb6H.out.trans ((hqf.out.trans (hq.mono hqf.out.size)).mono hb6H.out.size))
  clear hq qc6 qd6 qx6 hqf y0 y1 y2 y3
  obtain ⟨bE, oE, rfl, hbE, cE⟩ := qd7.out.co.int (j := nc + 1) (by omega)
  rw [hcodeH.out] at cE
  have z0 := qd7.out.bk.cell (j := 0) rfl
  have hi0 : (0 : Int) ≤ ((nc + 1 : Nat) : Int) := by omega
  have hi1 : ((nc + 1 : Nat) : Int) < ((nc + 3 : Nat) : Int) := by omega
  have x0 := BW.cell (w := u7) (qc7.out.bk.cell (j := 0) rfl); have x1 := BW.cell (w := u7) (qc7.out.bk.cell (j := 1) rfl); have x2 := BW.cell (w := u7) (qc7.out.bk.cell (j := 2) rfl); have x3 := BW.cell (w := u7) (qc7.out.bk.cell (j := 3) rfl)
  have y0 := BW.cell (w := u7) (qd7.out.bk.cell (j := 0) rfl); have y1 := BW.cell (w := u7) (qd7.out.bk.cell (j := 1) rfl); have y2 := BW.cell (w := u7) (qd7.out.bk.cell (j := 2) rfl); have y3 := BW.cell (w := u7) (qd7.out.bk.cell (j := 3) rfl)
  have w0 := BW.cell (w := u7) (qx7.out.bk.cell (j := 0) rfl); have w1' := BW.cell (w := u7) (qx7.out.bk.cell (j := 1) rfl); have w2' := BW.cell (w := u7) (qx7.out.bk.cell (j := 2) rfl); have w3' := BW.cell (w := u7) (qx7.out.bk.cell (j := 3) rfl)
  have HC := Lib.hid (fun (p : BW u7) => placed_any D1 D2 D3 (nc + 1) ns ns d1 d2 d3 (s1.inn : Int) s1.tasks p.w' (qc7.out.rl.later p.hb) hO1H.out.t12 hn12)
  have HD := Lib.hid (fun (p : BW u7) => placed_any (some ⟨bE, oE, none⟩) E2 E3 (nc + 3) ns ns f1 f2 f3 (s2.inn : Int) s2.tasks p.w' (qd7.out.rl.later p.hb) hO2H.out.t12 hn12)
  have HX := Lib.hid (fun (p : BW u7) => placed_any G1 G2 G3 (nc + 5) ns ns g1 g2 g3 (s3.inn : Int) s3.tasks p.w' (qx7.out.rl.later p.hb) hO3H.out.t12 hn12)
  have hp1 : plc ns s1 = lenS s1.tasks ns := rfl
  have hp2 : plc ns s2 = lenS s2.tasks ns := rfl
  by_cases hcj : cj = 0
  case neg =>
    have hne : (cj != 0) = true := bne_iff_ne.2 hcj
    have hs := hlawH.out.1 hcj
    have heq : (lenS s2.tasks ns == lenS s1.tasks ns) = true := by rw [hs]; simp
    generalize lenS s1.tasks ns = L1 at *
    generalize lenS s2.tasks ns = L2 at *
    clear HX qc7 qd7 qx7 hO1H hO2H hO3H hcodeH hlawH hp1 hp2 hs
    go_wp2_with fail
    go_upto_region 12 with fail
    refine wp_region_below (by kernel_rfl) (by kernel_rfl) ?_
    repeat (go_big_quiet_step (first | rfl | (with_reducible refine Calls.bel (HD.out _)) | (with_reducible refine Calls.bel (HC.out _))))
    refine wpQuiet_nil ?_
    rintro _ ⟨p, rfl⟩
    have hfin := Lib.hid (hqg.out.trans (p.hb.mono hqg.out.size))
    clear x0 x1 x2 x3 y0 y1 y2 y3 w0 w1' w2' w3' HC HD
    go_wp2
    go_ret
    exact ⟨rfl, hfin.out⟩
  subst hcj
  obtain ⟨hle, hs⟩ := hlawH.out.2 rfl
  rw [hp1, hp2] at hle
  have hge : decide (lenS s1.tasks ns ≤ lenS s2.tasks ns) = true := decide_eq_true hle
  have heq : (lenS s3.tasks ns == lenS s1.tasks ns) = true := by rw [hs]; simp
  have hin : ((s3.inn : Int) == (s1.inn : Int)) = true := by rw [hs]; simp
  generalize lenS s1.tasks ns = L1 at *
  generalize lenS s2.tasks ns = L2 at *
  generalize lenS s3.tasks ns = L3 at *
  clear qc7 qd7 qx7 hO1H hO2H hO3H hcodeH hlawH hp1 hp2 hs hle
  go_wp2_with fail
  go_upto_region 13 with fail
  refine wp_region_below (by kernel_rfl) (by kernel_rfl) ?_
  repeat (go_big_quiet_step (first | rfl | (with_reducible refine Calls.bel (HD.out _)) | (with_reducible refine Calls.bel (HC.out _)) | (with_reducible refine Calls.bel (HX.out _))))
  refine wpQuiet_nil ?_
  rintro _ ⟨p, rfl⟩
  have hfin := Lib.hid (hqg.out.trans (p.hb.mono hqg.out.size))
  clear x0 x1 x2 x3 y0 y1 y2 y3 w0 w1' w2' w3' HC HD HX
  go_wp2
  go_ret
  exact ⟨rfl, hfin.out⟩
end Go.Proofs.Yticffbcbfgboeaa
