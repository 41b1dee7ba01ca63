/- CrewRefused: the walk. -/
import Derived.Test.YticffbcbfgboeaaCrewJ
namespace Go.Proofs.Yticffbcbfgboeaa
open Go.RowKit Go.Shelf

theorem tiXc : TI Try.prog 24 26 (.agg #[.int .i64 0, .int .i64 0, .int .i64 0]) 3 24 := TI.mk' Try.underlying24 (by kernel_rfl) rfl (by decide)
theorem own_slice2 {w : World} {b e s n : Nat} {v : Value} {xs : List Value} (h : w.ownsRow b e s v n xs) : ∃ A c, v = .slice A n c ∧ n ≤ c := by
  rcases h.2 with ⟨rfl, rfl⟩ | ⟨g, cap, cur, rfl, _, _, h1, _⟩
  · exact ⟨none, 0, rfl, Nat.le_refl _⟩
  · exact ⟨_, cap, rfl, h1⟩
theorem ps3_app {k₁ k₂ k₃ : IntKind} (a b : List (Int × Int × Int)) : ps3 k₁ k₂ k₃ (a ++ b) = ps3 k₁ k₂ k₃ a ++ ps3 k₁ k₂ k₃ b := by simp [ps3]
theorem PM.keep {n₀ ns : Nat} {s : CS} {cs : List Int} {vC vW vT : Value} {tv : List Value} {W W' : World} {r : Option Nat} (h : PM n₀ ns s cs vC vW vT tv W) (hg : W.grownBy W' r) (hr : ∀ q, r = some q → q < n₀) : PM n₀ ns s cs vC vW vT tv W' := by
  have k : ∀ {e n : Nat} {v : Value} {ys : List Value}, W.ownsRow n₀ e 1 v n ys → W'.ownsRow n₀ e 1 v n ys := fun ho => own_apart ho hg (fun q hq e => by
    have h1 := (ho.lt q hq).1
    have h2 := hr q e
    omega)
  exact ⟨k h.co, k h.wa, k h.ta, fun j hj => k (h.tk j hj)⟩
theorem kept_le : ∀ (xs : List Chg) (cs : List Int), (kept xs cs).length ≤ xs.length
  | [], _ => by simp [kept]
  | _ :: _, [] => by simp [kept]
  | x :: xs, c :: cs => by
    have := kept_le xs cs
    rw [kept]
    split
    · simp; omega
    · simp; omega
set_option maxHeartbeats 3200000 in
set_option maxRecDepth 100000 in
set_option linter.unusedSimpArgs false in
theorem crewRefused_any (A B C : Option Addr) (nw ns nc cA cB cC : Nat) (ws : List (Int × Int)) (ss : List Nat) (xs : List Chg) (w : World) (hA : Rd w A nw 2 (ps2 .i64 .u32 ws)) (hB : Rd w B ns 1 (wds ss)) (hC : Rd w C nc 3 (ps3 .i64 .i64 .i64 xs))
    (hnw : nw ≤ 9223372036854775807) (hns : ns ≤ 9223372036854775807) (hnc : nc ≤ 9223372036854775807) :
    Calls Try.prog 6 #[.slice A nw cA, .slice B ns cB, .slice C nc cC] w fun e w' => e = .returned (.bool true) ∧ Below w.heap.size w w' := by
  have hAH := Lib.hid hA; have hBH := Lib.hid hB; have hCH := Lib.hid hC
  by_cases hok : pchk ws ns = 0
  case neg =>
    have H1 := Lib.hid (play_bad A B C nw ns nc cA cB cC ws w hA hnw hns hok)
    have hne : (pchk ws ns != 0) = true := bne_iff_ne.2 hok
    clear hA hB hC hok
    generalize pchk ws ns = c at *
    unfold crew0 at H1
    go_enter Try.func6, Try.ntmps6
    go_wp2_with fail
    refine H1.out.mono ?_
    rintro e w1 ⟨rfl, hb1⟩
    have hb2 := Lib.hid (hb1.alloc hb1.size (.cells #[.slice none 0 0, .int .u32 0, .slice none 0 0, .slice none 0 0] 32))
    clear hb1 H1
    go_wp2
    go_ret
    exact ⟨rfl, hb2.out⟩
  by_cases h64 : nc ≤ 64
  case neg =>
    have H1 := Lib.hid (play_big A B C nw ns nc cA cB cC ws w hA hok (by omega) hnc)
    clear hA hB hC hok
    unfold crew0 at H1
    go_enter Try.func6, Try.ntmps6
    go_wp2_with fail
    refine H1.out.mono ?_
    rintro e w1 ⟨rfl, hb1⟩
    have hb2 := Lib.hid (hb1.alloc hb1.size (.cells #[.slice none 0 0, .int .u32 0, .slice none 0 0, .slice none 0 0] 32))
    clear hb1 H1
    go_wp2
    go_ret
    exact ⟨rfl, hb2.out⟩
  obtain ⟨hn6, hn12, _⟩ := pchk_ok hok
  obtain ⟨pl, hpl⟩ := exists_pl
  have hwl : ws.length = nw := by have := hA.1; rw [ps2_length] at this; omega
  have hsl : ss.length = ns := by have := hB.1; rw [wds_length] at this; omega
  have hxl : xs.length = nc := by have := hC.1; rw [ps3_length] at this; omega
  have H1 := Lib.hid (play_ok pl hpl A B C nw ns nc cA cB cC ws ss xs w hA hB hC hok h64)
  have H2 := Lib.hid (fun W (hb : Below w.heap.size w W) (L : Option Addr) (n c : Nat) (hn : n ≤ 64) (l : List Chg) (hL : Rd W L n 3 (ps3 .i64 .i64 .i64 l)) => play_ok pl hpl A B L nw ns n cA cB c ws ss l W (hAH.out.later hb) (hBH.out.later hb) hL hok hn)
  have hlen := runC_length pl ws ss xs (initC ns)
  rw [hxl] at hlen
  have hkr := Lib.hid (kept_run pl ws ss xs (initC ns))
  have hOk : ∀ (l : List Chg) (s : CS), OkS nw ns s → OkS nw ns (runS pl ws ss l s) := fun l => by
    induction l with
    | nil => exact fun s h => h
    | cons x l ih => exact fun s h => ih _ (h.step hwl hsl x)
  have hO1 := Lib.hid (hOk xs (initC ns) (initC_ok nw ns))
  have hkl := kept_le xs (runC pl ws ss xs (initC ns))
  have hcl2 := Lib.hid (fun l => runC_length pl ws ss l (initC ns))
  generalize runC pl ws ss xs (initC ns) = cs at *
  generalize runS pl ws ss xs (initC ns) = s1 at *
  have hlenH := Lib.hid hlen; have hxlH := Lib.hid hxl
  rw [hxl] at hkl
  have hklH := Lib.hid hkl
  clear hA hB hC hok hpl hwl hsl hOk hlen hxl hkl
  go_enter Try.func6, Try.ntmps6
  go_wp2_with fail
  refine H1.out.mono ?_
  rintro e w1 ⟨vC, vW, vT, tv, rfl, hP1, hb1⟩
  obtain ⟨A1, c1, rfl⟩ := own_slice hP1.co
  obtain ⟨A2, c2, rfl⟩ := own_slice hP1.wa
  obtain ⟨A3, c3, rfl⟩ := own_slice hP1.ta
  have hRC := Rd.of_own hP1.co
  rw [hlenH.out] at hRC ⊢
  have hRCH := Lib.hid (hRC.alloc (.cells #[.slice A1 nc c1, .int .u32 (s1.inn : Int), .slice A2 ns c2, .slice A3 ns c3] 32))
  have hRWH := Lib.hid ((Rd.of_own hP1.wa).alloc (.cells #[.slice A1 nc c1, .int .u32 (s1.inn : Int), .slice A2 ns c2, .slice A3 ns c3] 32))
  have hRTH := Lib.hid (hP1.lists.later ((Below.refl _ w1).alloc (Nat.le_refl _) (.cells #[.slice A1 nc c1, .int .u32 (s1.inn : Int), .slice A2 ns c2, .slice A3 ns c3] 32)))
  have hb2H := Lib.hid (hb1.alloc hb1.size (.cells #[.slice A1 nc c1, .int .u32 (s1.inn : Int), .slice A2 ns c2, .slice A3 ns c3] 32))
  have bkH := Lib.hid (Blk.new w1 32 #[.slice A1 nc c1, .int .u32 (s1.inn : Int), .slice A2 ns c2, .slice A3 ns c3])
  have hP1H := Lib.hid hP1
  have hb1H := Lib.hid hb1
  clear hb1 H1 hP1 hRC
  go_wp2
  have hsz12 : (w1.alloc (.cells #[.slice A1 nc c1, .int .u32 (s1.inn : Int), .slice A2 ns c2, .slice A3 ns c3] 32)).heap.size = w1.heap.size + 1 := by simp
  have hb12 := Lib.hid ((Below.refl w1.heap.size w1).alloc (Nat.le_refl _) (.cells #[.slice A1 nc c1, .int .u32 (s1.inn : Int), .slice A2 ns c2, .slice A3 ns c3] 32))
  generalize w1.alloc (.cells #[.slice A1 nc c1, .int .u32 (s1.inn : Int), .slice A2 ns c2, .slice A3 ns c3] 32) = w2 at *
  generalize hbC : w1.heap.size = bC at *
  have hsz12H := Lib.hid hsz12
  clear hsz12
  go_loopw [9, 10, 11, 43, 45, 46, 47, 48, 49, 50, 51, 52, 53, 54, 55, 56, 57] (fun v9 _ _ i _ _ _ _ _ _ _ _ _ _ _ _ _ wr => ∃ k : Nat, k ≤ nc ∧ i = .int .i64 k ∧ wr.ownsRow w2.heap.size 26 3 v9 (kept (xs.take k) (cs.take k)).length (ps3 .i64 .i64 .i64 (kept (xs.take k) (cs.take k))) ∧ Below w2.heap.size w2 wr) (fun _ _ _ i _ _ _ _ _ _ _ _ _ _ _ _ _ _ => nc - (intOf i).toNat)
  case atStart => exact ⟨0, Nat.zero_le _, rfl, World.ownsRow_nil _ _ _ _, Below.refl _ _⟩
  case round =>
    obtain ⟨wo, rfl⟩ : ∃ wo : World, wo = wr := ⟨_, rfl⟩
    obtain ⟨k, hk, rfl, hown, hb⟩ := hrel
    have hbw := hb2H.out.trans (hb.mono hb2H.out.size)
    have cC0 := (bkH.out.below hb bkH.out.lt).cell (j := 0) rfl
    by_cases hlt : k < nc
    · obtain ⟨bs, os, rfl, hbs, s0, s1', s2⟩ := (hCH.out.later hbw).triple hlt
      obtain ⟨bc, oc, rfl, hbc, cc⟩ := (hRCH.out.later hb).int hlt
      have htx : xs.take (k + 1) = xs.take k ++ [xs.getD k (0, 0, 0)] := by
        rw [List.take_add_one, List.getElem?_eq_getElem (show k < xs.length by rw [hxlH.out]; exact hlt)]
        simp [List.getD, List.getElem?_eq_getElem (show k < xs.length by rw [hxlH.out]; exact hlt)]
      have htc : cs.take (k + 1) = cs.take k ++ [cs.getD k 0] := by
        rw [List.take_add_one, List.getElem?_eq_getElem (show k < cs.length by rw [hlenH.out]; exact hlt)]
        simp [List.getD, List.getElem?_eq_getElem (show k < cs.length by rw [hlenH.out]; exact hlt)]
      have hks := Lib.hid (kept_snoc (xs.getD k (0, 0, 0)) (cs.getD k 0) (xs.take k) (cs.take k) (by rw [List.length_take, List.length_take, hxlH.out, hlenH.out]))
      rw [← htx, ← htc] at hks
      have hkk := Lib.hid (kept_le (xs.take k) (cs.take k))
      clear htx htc
      generalize xs.getD k (0, 0, 0) = x at *
      generalize cs.getD k 0 = cd at *
      obtain ⟨kd, who, n⟩ := x
      dsimp only at s0 s1' s2
      obtain ⟨A9, c9, rfl⟩ := own_slice hown
      have hk0 : (0 : Int) ≤ k := by omega
      have hkn : (k : Int) < nc := by omega
      have hk1 : IntKind.i64.wrap ((k : Int) + 1) = ((k + 1 : Nat) : Int) := by rw [IntWalk.i64_in _ (by omega)]; omega
      have cC1 := alloc_cell (bkH.out.below hb bkH.out.lt).lt cC0 (.cells #[.int .i64 kd, .int .i64 who, .int .i64 n] 26)
      have cc1 := alloc_cell hbc cc (.cells #[.int .i64 kd, .int .i64 who, .int .i64 n] 26)
      have hownH := Lib.hid (hown.alloc (.cells #[.int .i64 kd, .int .i64 who, .int .i64 n] 26))
      have hbH := Lib.hid (hb.alloc hb.size (.cells #[.int .i64 kd, .int .i64 who, .int .i64 n] 26))
      have bX := Lib.hid (Blk.new wo 26 #[.int .i64 kd, .int .i64 who, .int .i64 n])
      have hszX : (wo.alloc (.cells #[.int .i64 kd, .int .i64 who, .int .i64 n] 26)).heap.size = wo.heap.size + 1 := by simp
      clear hown hb hbw cC0 cc
      by_cases hcd : cd = 0
      · subst hcd
        have h00 : ((0 : Int) == 0) = true := rfl
        have hrd := Lib.hid (rd_new3 (wo.alloc (.cells #[.int .i64 kd, .int .i64 who, .int .i64 n] 26)) (.int .i64 kd) (.int .i64 who) (.int .i64 n) 26)
        rw [World.size_alloc] at hrd
        have hkl2 : (kept (xs.take k) (cs.take k)).length ≤ 64 := by have := hkk.out; rw [List.length_take] at this; omega
        obtain ⟨n9, hn9⟩ : ∃ n9, (kept (xs.take k) (cs.take k)).length = n9 := ⟨_, rfl⟩
        rw [hn9] at hownH hkl2 ⊢
        have hbsz := Nat.le_trans hbH.out.size (show _ ≤ ((wo.alloc (.cells #[.int .i64 kd, .int .i64 who, .int .i64 n] 26)).alloc (.cells #[.int .i64 kd, .int .i64 who, .int .i64 n] 26)).heap.size by simp)
        have hn9H := Lib.hid hn9
        clear hn9
        go_wp2_with (at_builtin; refine wpList_app (s := .tmp 54) (x := .tmp 56) _ tiXc (hownH.out.alloc _) hrd.out (ps3_one (l := [(kd, who, n)])) (by omega) (by omega) hbsz rfl rfl rfl rfl ?_)
        intro v' w' hown' hg' _
        rw [show ([Value.int .i64 kd, .int .i64 who, .int .i64 n] : List Value) = ps3 .i64 .i64 .i64 [(kd, who, n)] from rfl, ← ps3_app, ← hn9H.out] at hown'
        have e2 : kept (xs.take k) (cs.take k) ++ [(kd, who, n)] = kept (xs.take (k + 1)) (cs.take (k + 1)) := by rw [hks.out]; simp
        rw [e2, show (kept (xs.take k) (cs.take k)).length + 1 = (kept (xs.take (k + 1)) (cs.take (k + 1))).length by rw [← e2]; simp] at hown'
        have hfin := Lib.hid (And.intro hown' ((hbH.out.alloc hbH.out.size (.cells #[.int .i64 kd, .int .i64 who, .int .i64 n] 26)).grown hg' hbsz (fun q hq => (hownH.out.lt q hq).1)))
        clear hown' hg' hownH hbH hrd e2
        go_wp2
        go_roundw
        case rel => exact ⟨k + 1, by omega, by go_num, hfin.out.1, hfin.out.2⟩
        case measure => simp [intOf]; omega
      · have h00 : (cd == 0) = false := beq_false_of_ne hcd
        have e2 : kept (xs.take k) (cs.take k) = kept (xs.take (k + 1)) (cs.take (k + 1)) := by rw [hks.out, if_neg hcd, List.append_nil]
        obtain ⟨n9, hn9⟩ : ∃ n9, (kept (xs.take k) (cs.take k)).length = n9 := ⟨_, rfl⟩
        have hfin := Lib.hid (show (wo.alloc (.cells #[.int .i64 kd, .int .i64 who, .int .i64 n] 26)).ownsRow w2.heap.size 26 3 (.slice A9 (kept (xs.take k) (cs.take k)).length c9) (kept (xs.take (k + 1)) (cs.take (k + 1))).length (ps3 .i64 .i64 .i64 (kept (xs.take (k + 1)) (cs.take (k + 1)))) by rw [← e2]; exact hownH.out)
        clear hownH e2
        go_wp2
        go_roundw
        case rel => exact ⟨k + 1, by omega, by go_num, hfin.out, hbH.out⟩
        case measure => simp [intOf]; omega
    · obtain rfl : k = nc := by omega
      have htx : xs.take k = xs := List.take_of_length_le (by rw [hxlH.out]; exact Nat.le_refl _)
      have htc : cs.take k = cs := List.take_of_length_le (by rw [hlenH.out]; exact Nat.le_refl _)
      rw [htx, htc] at hown
      have hsz12 := hsz12H.out
      have hbase := (bkH.out.below hb bkH.out.lt).lt
      obtain ⟨n9, hn9⟩ : ∃ n9, (kept xs cs).length = n9 := ⟨_, rfl⟩
      rw [hn9] at hown
      obtain ⟨A9, c9, rfl⟩ := own_slice hown
      have hn64 : n9 ≤ 64 := by have := hklH.out; omega
      have HP := Lib.hid (H2.out wo hbw A9 n9 c9 hn64 (kept xs cs) (Rd.of_own hown))
      rw [hkr.out] at HP
      have hc9 := hcl2.out (kept xs cs)
      rw [hn9] at hc9
      have hbw1 : Below bC w1 wo := hb12.out.trans (hb.mono (by omega))
      have hszo := hb.size
      have hbkw := bkH.out.below hb bkH.out.lt
      generalize runC pl ws ss (kept xs cs) (initC ns) = cs2 at *
      have hc9H := Lib.hid hc9; have hbwH := Lib.hid hbw; have hbw1H := Lib.hid hbw1; have hbkwH := Lib.hid hbkw
      clear hown hb hbw cC0 htx htc hn9 hc9 H2 hbw1 hbkw hcl2 hkr
      go_wp2_with fail
      refine HP.out.mono ?_
      rintro e w5 ⟨vC, vW, vT, tv', rfl, hP2, hb5⟩
      obtain ⟨A4, c4, rfl⟩ := own_slice hP2.co
      obtain ⟨A5, c5, rfl⟩ := own_slice hP2.wa
      obtain ⟨A6, c6, rfl⟩ := own_slice hP2.ta
      rw [hc9H.out]
      have hP2' : PM wo.heap.size ns s1 cs2 (.slice A4 n9 c4) (.slice A5 ns c5) (.slice A6 ns c6) tv' w5 := by rw [← hc9H.out]; exact hP2
      have hP3 := hP2'.keep (grown_of_below ((Below.refl _ w5).alloc (Nat.le_refl _) (.cells #[.slice A4 n9 c4, .int .u32 (s1.inn : Int), .slice A5 ns c5, .slice A6 ns c6] 32)) none) (fun q e => by cases e)
      have hP4 := hP3.keep (grown_setA _ bC 0 (.slice A4 n9 c4)) (fun q e => by cases e; omega)
      have bD := Blk.new w5 32 #[.slice A4 n9 c4, .int .u32 (s1.inn : Int), .slice A5 ns c5, .slice A6 ns c6]
      have hs5 := hb5.size
      have bD2 := bD.other (a := ⟨bC, 0, none⟩) (by show w5.heap.size ≠ bC; omega) (.slice A4 n9 c4)
      have bC6 := (hbkwH.out.below hb5 hbkwH.out.lt).alloc (.cells #[.slice A4 n9 c4, .int .u32 (s1.inn : Int), .slice A5 ns c5, .slice A6 ns c6] 32)
      have bC7 := bC6.set 0 (.slice A4 n9 c4)
      have hb6 := (hbw1H.out.trans (hb5.mono (by omega))).alloc (by omega) (.cells #[.slice A4 n9 c4, .int .u32 (s1.inn : Int), .slice A5 ns c5, .slice A6 ns c6] 32)
      have hb7 := hb6.setCell (p := ⟨bC, 0, none⟩) (Nat.le_refl _) (.slice A4 n9 c4)
      have hbF := hb1H.out.trans (hb7.mono (by have := hb1H.out.size; omega))
      have d0 := bD.cell (j := 0) rfl
      have z0 := bC6.cell (j := 0) rfl; have zf := bC6.frozen 0; have zl := bC6.lt
      have y0 := bC7.cell (j := 0) rfl; have y1 := bC7.cell (j := 1) rfl; have y2 := bC7.cell (j := 2) rfl; have y3 := bC7.cell (j := 3) rfl
      have v0 := bD2.cell (j := 0) rfl; have v1 := bD2.cell (j := 1) rfl; have v2 := bD2.cell (j := 2) rfl; have v3 := bD2.cell (j := 3) rfl
      have hb7' : Below w1.heap.size w1 ((w5.alloc (.cells #[.slice A4 n9 c4, .int .u32 (s1.inn : Int), .slice A5 ns c5, .slice A6 ns c6] 32)).setCell ⟨bC, 0, none⟩ (.slice A4 n9 c4)) := by rw [hbC]; exact hb7
      have hco4 := hP4.co
      rw [hc9H.out] at hco4
      have HCr := Lib.hid (crews_same A4 A4 A2 A5 A3 A6 n9 c4 c4 ns c2 c5 ns c3 c6 (s1.inn : Int) cs2 s1.wants s1.tasks _ (Rd.of_own hco4) (Rd.of_own hco4) ((Rd.of_own hP1H.out.wa).later hb7') (Rd.of_own hP4.wa) (hP1H.out.lists.later hb7') hP4.lists (by omega) (by omega) (by omega) (fun j hj => by have := hO1.out.t12 j hj; omega))
      have hbFH := Lib.hid hbF
      clear hP2 hP2' hP3 hP4 hco4 hsz12 hb5 bD bD2 bC6 bC7 hb6 hb7 hb7' hbF HP
      go_wp2_with fail
      refine HCr.out.mono ?_
      rintro e w9 ⟨rfl, hb9⟩
      have hb9H := Lib.hid (hbFH.out.trans (hb9.mono hbFH.out.size))
      clear hb9 HCr
      go_wp2
      go_ret
      exact ⟨rfl, hb9H.out⟩
end Go.Proofs.Yticffbcbfgboeaa
