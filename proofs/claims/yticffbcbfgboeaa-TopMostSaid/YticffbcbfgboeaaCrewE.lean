/- A tick: all is placed anew. -/
import Derived.Test.YticffbcbfgboeaaCrewC
import Derived.Test.YticffbcbfgboeaaCrewD
import Derived.Test.YticffbcbfgboeaaCloneA
import Derived.Test.YticffbcbfgboeaaRepeatU
namespace Go.Proofs.Yticffbcbfgboeaa
open Go.RowKit Go.Shelf

theorem Rd.short {w : World} {A : Option Addr} {n : Nat} {xs : List Value} (h : Rd w A n 1 xs) {k : Nat} (hk : k ≤ n) : Rd w A k 1 (xs.take k) := by
  refine ⟨by rw [List.length_take, h.1]; omega, fun h0 => ?_⟩
  obtain ⟨b, o, e, hlt, hc⟩ := h.2 (by omega)
  exact ⟨b, o, e, hlt, fun j hj => by rw [List.getElem?_take_of_lt (by omega)]; exact hc j (by omega)⟩
theorem Rd.keepS {w : World} {A : Option Addr} {m g i : Nat} {xs : List Value} (h : Rd w A m 1 xs) (hne : 0 < m → ∀ b o, A = some ⟨b, o, none⟩ → b ≠ g) (v : Value) : Rd (w.setCell ⟨g, i, none⟩ v) A m 1 xs := by
  rcases Nat.eq_zero_or_pos m with h0 | h0
  · exact ⟨h.1, fun hn => by omega⟩
  · exact h.grown (grown_setA w g i v) (fun b o e e2 => hne h0 b o e (by injection e2 with e2; exact e2.symm))
theorem tiUc : TI Try.prog 23 28 (.int .u32 0) 1 4 := TI.mk' Try.underlying23 (by kernel_rfl) rfl (by decide)
set_option maxHeartbeats 3200000 in
set_option maxRecDepth 100000 in
set_option linter.unusedSimpArgs false in
theorem tick_any (pl : List (Int × Int) → List Nat → List Int) (hpl : ∀ (ws : List (Int × Int)) (ts : List Nat) (n : Nat) (room : Nat → Int) (t : Int) (l : List Int), n = ts.length → Gr (PDm ws ts (rms ws)) n room t l → l = pl ws ts)
    (cb nw ns : Nat) (A B : Option Addr) (cA cB : Nat) (ws : List (Int × Int)) (ss : List Nat) (s : CS) (cs : List Int) (vC vW vT : Value) (tv : List Value) (W : World)
    (h : CM cb ns (.slice A nw cA) (.slice B ns cB) s cs vC vW vT tv W) (hs : OkS nw ns s) (hok : pchk ws ns = 0)
    (hA : ∀ W', Below cb W W' → Rd W' A nw 2 (ps2 .i64 .u32 ws)) (hB : ∀ W', Below cb W W' → Rd W' B ns 1 (wds ss)) :
    Calls Try.prog 22 #[.pointer (some ⟨cb, 0, none⟩)] W fun e w' => (∃ x, e = .returned x) ∧ (∃ tv', CM cb ns (.slice A nw cA) (.slice B ns cB) (tickF pl ws ss s) cs vC vW vT tv' w') ∧ Below cb W w' := by
  obtain ⟨hn6, hn12, hrm⟩ := pchk_ok hok
  have hwl : ws.length = nw := by have := (hA W (Below.refl _ _)).1; rw [ps2_length] at this; omega
  have hsl : ss.length = ns := by have := (hB W (Below.refl _ _)).1; rw [wds_length] at this; omega
  rw [hwl] at hn6
  have hin : s.inn < 64 := Nat.lt_of_lt_of_le hs.inn (Nat.pow_le_pow_right (n := 2) (by omega) hn6)
  have HC := Lib.hid (cloneAW A nw cA ws W (hA W (Below.refl _ _)) (by omega))
  have c0 := h.bk.cell (j := 0) rfl
  have hlt := h.lt
  have hH := Lib.hid h; have hsH := Lib.hid hs; have hrmH := Lib.hid hrm; have hAH := Lib.hid hA; have hBH := Lib.hid hB; have hwlH := Lib.hid hwl; have hslH := Lib.hid hsl; have hplH := Lib.hid hpl
  clear h hs hok hrm hA hB hwl hsl hpl
  go_enter Try.func22, Try.ntmps22
  go_wp2_with fail
  refine HC.out.mono ?_
  rintro e w1 ⟨vN, rfl, hown1, hb1⟩
  obtain ⟨AN, cN, rfl⟩ := own_slice hown1
  have hown1H := Lib.hid (show w1.ownsRow W.heap.size 39 2 (.slice AN nw cN) nw (ps2 .i64 .u32 (nowTo ws s.inn 0)) by rw [nowTo_zero]; exact hown1)
  have hb1H := Lib.hid hb1
  clear hown1 hb1 HC
  go_wp2
  go_loopw [3, 18, 20, 21, 22, 23, 24, 25, 26, 27, 28] (fun _ i _ _ _ _ _ _ _ _ _ wr => ∃ k : Nat, k ≤ nw ∧ i = .int .i64 k ∧ wr.ownsRow W.heap.size 39 2 (.slice AN nw cN) nw (ps2 .i64 .u32 (nowTo ws s.inn k)) ∧ Below W.heap.size W wr) (fun _ i _ _ _ _ _ _ _ _ _ _ => nw - (intOf i).toNat)
  case atStart => exact ⟨0, Nat.zero_le _, rfl, hown1H.out, hb1H.out⟩
  case round =>
    clear hown1H hb1H
    obtain ⟨wo, rfl⟩ : ∃ wo : World, wo = wr := ⟨_, rfl⟩
    obtain ⟨k, hk, rfl, hown, hb⟩ := hrel
    by_cases hlk : k < nw
    · have HI := Lib.hid (in_any cb _ _ _ _ _ s.inn k wo (hH.out.later hb).bk (by omega) (by omega))
      obtain ⟨gN, cN', eN, hgb, hgl⟩ : ∃ g c, Value.slice AN nw cN = .slice (some ⟨g, 0, none⟩) nw c ∧ W.heap.size ≤ g ∧ g < wo.heap.size := by
        rcases hown.2 with ⟨_, h0⟩ | ⟨g, c, cur, h1, h2, h3, _⟩
        · omega
        · exact ⟨g, c, h1, h2, (Array.getElem?_eq_some_iff.1 h3).1⟩
      injection eN with eA _ eC
      subst eA; subst eC
      have hkn : (k : Int) < nw := by omega
      have hk0 : (0 : Int) ≤ k := by omega
      have hk1 : IntKind.i64.wrap ((k : Int) + 1) = ((k + 1 : Nat) : Int) := by rw [IntWalk.i64_in _ (by omega)]; omega
      have hcc := (hown.cellAt (k * 2) (by omega)).trans (show (ps2 .i64 .u32 (nowTo ws s.inn k))[k * 2]? = some (.int .i64 ((nowTo ws s.inn k).getD k (0, 0)).1) from (ps2_get (by rw [nowTo_length, hwlH.out]; exact hlk)).1)
      have hff := hown.frozenAt (k * 2)
      cases hbit : s.inn.testBit k
      · rw [hbit] at HI
        have hst := hown.stored (k * 2) (.int .i64 0)
        rw [ps2_set1 _ _ _ (by rw [nowTo_length, hwlH.out]; exact hlk), ← nowTo_out hbit (by rw [hwlH.out]; exact hlk)] at hst
        have hfin := Lib.hid (And.intro hst.1 (hb.setCell (p := ⟨gN, k * 2, none⟩) hgb (.int .i64 0)))
        clear hown hb hst
        go_wp2_with fail
        refine HI.out.mono ?_
        rintro e w2 ⟨rfl, rfl⟩
        go_wp2
        go_roundw
        case rel => exact ⟨k + 1, by omega, by go_num, hfin.out.1, hfin.out.2⟩
        case measure => simp [intOf]; omega
      · rw [hbit] at HI
        rw [← nowTo_in hbit] at hown
        have hfin := Lib.hid (And.intro hown hb)
        clear hown hb
        go_wp2_with fail
        refine HI.out.mono ?_
        rintro e w2 ⟨rfl, rfl⟩
        go_wp2
        go_roundw
        case rel => exact ⟨k + 1, by omega, by go_num, hfin.out.1, hfin.out.2⟩
        case measure => simp [intOf]; omega
    · obtain rfl : k = nw := by omega
      have hownH := Lib.hid (show wo.ownsRow W.heap.size 39 2 (.slice AN k cN) k (ps2 .i64 .u32 (nowW ws s.inn)) by rw [← nowTo_full, hwlH.out]; exact hown)
      have hbH := Lib.hid hb
      have hMo := hH.out.later hb
      have c4 := hMo.bk.cell (j := 4) rfl
      obtain ⟨AW, cW, rfl⟩ := own_slice hMo.wa
      clear hown hb hMo
      go_wp2
      clear c4
      go_loopw [4, 5, 6, 36, 38, 39, 40, 41, 42, 43, 44, 45, 46, 47, 48, 49, 50, 51, 52] (fun v4 _ _ i _ _ _ _ _ _ _ _ _ _ _ _ _ _ _ wr => ∃ (q : Nat), q ≤ ns ∧ i = .int .i64 q ∧ wr.ownsRow W.heap.size 28 1 v4 (wantTo ss s.wants q).length (wds (wantTo ss s.wants q)) ∧ wr.ownsRow W.heap.size 39 2 (.slice AN k cN) k (ps2 .i64 .u32 (nowW ws s.inn)) ∧ Below W.heap.size W wr) (fun _ _ _ i _ _ _ _ _ _ _ _ _ _ _ _ _ _ _ _ => ns - (intOf i).toNat)
      case atStart => exact ⟨0, Nat.zero_le _, rfl, World.ownsRow_nil _ _ _ _, hownH.out, hbH.out⟩
      case round =>
        clear hownH hbH
        obtain ⟨wq, rfl⟩ : ∃ wq : World, wq = wr := ⟨_, rfl⟩
        obtain ⟨q, hq, rfl, hown, hnow, hb⟩ := hrel
        obtain ⟨A4, c4, rfl⟩ := own_slice hown
        have hlen4 := wantTo_length ss s.wants q (fun j hj => hsH.out.w0 j (by omega))
        have hsum := Int.le_trans (sumTo_mono hsH.out.w0 q hq) hsH.out.sm
        have hl12 : (wantTo ss s.wants q).length ≤ 12 := by omega
        by_cases hlq : q < ns
        · have hMq := hH.out.later hb
          obtain ⟨gW, cW', eW, _, _⟩ := own_form1 hMq.wa (by omega)
          injection eW with eA _ eC
          subst eA; subst eC
          have cwq := (hMq.wa.cellAt q (by omega)).trans (ints_get (k := .i64) (zs := s.wants) (j := q) (by rw [hsH.out.wl]; exact hlq))
          have c1 := hMq.bk.cell (j := 1) rfl
          obtain ⟨bs, os, rfl, hbs, cs1⟩ := (hBH.out wq (hb.mono (Nat.le_of_lt hlt))).wd hlq
          have h0 := hsH.out.w0 q hlq
          have hn12 := Int.le_trans (sumTo_term hsH.out.w0 hlq) hsH.out.sm
          have hsucc := Lib.hid (wantTo_succ ss s.wants q)
          obtain ⟨m, hm⟩ := Int.eq_ofNat_of_zero_le h0
          rw [hm] at cwq hn12 hsucc
          rw [Int.toNat_natCast] at hsucc
          have hqn : (q : Int) < ns := by omega
          have hq0 : (0 : Int) ≤ q := by omega
          have hq1 : IntKind.i64.wrap ((q : Int) + 1) = ((q + 1 : Nat) : Int) := by rw [IntWalk.i64_in _ (by omega)]; omega
          obtain ⟨x, hx⟩ : ∃ x, ss.getD q 0 = x := ⟨_, rfl⟩
          rw [hx] at cs1 hsucc
          have HR := Lib.hid (repeat_one wq.heap.size 1 (x : Int) m (wq.alloc (.cells #[.int .u32 (x : Int)] 28)) (rd_new1 wq (.int .u32 (x : Int)) 28) (by omega))
          have hba := hb.alloc hb.size (.cells #[.int .u32 (x : Int)] 28)
          have hownA := hown.alloc (.cells #[.int .u32 (x : Int)] 28)
          have hnowA := hnow.alloc (.cells #[.int .u32 (x : Int)] 28)
          have hbaH := Lib.hid hba; have hownAH := Lib.hid hownA; have hnowAH := Lib.hid hnowA; have hnowH := Lib.hid hnow
          clear hown hnow hba hownA hnowA hb hx hMq hm h0 hlen4 hsum
          go_wp2_with fail
          generalize wq.alloc (.cells #[.int .u32 (x : Int)] 28) = wa at *
          refine HR.out.mono ?_
          rintro e wb ⟨rfl, hrep, hbb⟩
          have hown2 := own_below hownAH.out hbb
          have hnow2 := own_below hnowAH.out hbb
          have hb2 := hbaH.out.trans (hbb.mono hbaH.out.size)
          have hown2H := Lib.hid hown2; have hnow2H := Lib.hid hnow2; have hb2H := Lib.hid hb2; have hrepH := Lib.hid hrep
          clear hown2 hnow2 hb2 hrep hbb hbaH hownAH hnowAH HR
          go_wp2_with (at_builtin; refine wpList_app (s := .tmp 41) (x := .tmp 51) _ tiUc hown2H.out (Rd.of_own hrepH.out) (by intro u hu; rw [List.eq_of_mem_replicate hu]; rfl) (by omega) (by omega) hb2H.out.size rfl rfl rfl rfl ?_)
          intro v' w' hown' hg' _
          rw [← wds_rep, ← wds_app, ← hsucc.out, show (wantTo ss s.wants q).length + m = (wantTo ss s.wants (q + 1)).length by rw [hsucc.out]; simp] at hown'
          have hfin := Lib.hid (And.intro hown' (And.intro (own_apart hnow2H.out hg' (fun g hg e => own_types hown2H.out hnow2H.out (by decide) e hg)) (hb2H.out.grown hg' hb2H.out.size (fun g hg => (hown2H.out.lt g hg).1))))
          clear hown' hg' hown2H hnow2H hb2H hrepH
          go_wp2
          go_roundw
          case rel => exact ⟨q + 1, by omega, by go_num, hfin.out.1, hfin.out.2.1, hfin.out.2.2⟩
          case measure => simp [intOf]; omega
        · obtain rfl : q = ns := by omega
          have hc4 : (wantTo ss s.wants q).length ≤ c4 := by
            rcases hown.2 with ⟨h1, h0⟩ | ⟨g, c, cur, h1, _, _, h2, _⟩
            · omega
            · cases h1; exact h2
          have hwT : wantT ss s.wants = wantTo ss s.wants q := by unfold wantT; rw [hsH.out.wl]
          obtain ⟨nt, hnt⟩ : ∃ nt, (wantTo ss s.wants q).length = nt := ⟨_, rfl⟩
          rw [hnt] at hown hc4 hl12 hlen4
          have hP := Lib.hid (pmost_ok AN A4 k nt cN c4 (nowW ws s.inn) (wantTo ss s.wants q) wq (Rd.of_own hnow) (Rd.of_own hown) hc4 (pchk_mk (by rw [nowW_length, hwlH.out]; exact hn6) hl12 (nowW_ok hrmH.out)))
          have hbH := Lib.hid hb; have hntH := Lib.hid hnt; have hwTH := Lib.hid hwT; have hlen4H := Lib.hid hlen4
          rw [hnt]
          clear hown hnow hb hnt hwT hlen4 hsum
          go_wp2_with fail
          refine hP.out.mono ?_
          rintro e w2 ⟨⟨vl, room, t, l, rfl, hownl, hG⟩, hb2⟩
          have hl : l = pl (nowW ws s.inn) (wantT ss s.wants) := by
            rw [hwTH.out]
            exact hplH.out _ _ nt room t l hntH.out.symm hG
          have hll : l.length = nt := by simpa [ints] using hownl.1
          have hb2' := hbH.out.trans (hb2.mono hbH.out.size)
          have hM2 := hH.out.later hb2'
          have htick : tickF pl ws ss s = ⟨s.inn, s.wants, deal s.wants l⟩ := by unfold tickF; rw [← hl]
          have hdeal := Lib.hid (fun j (hj : j < q) => deal_get s.wants l j (by rw [hsH.out.wl]; exact hj) (by rw [hsH.out.wl]; exact hsH.out.w0))
          have hdl : (deal s.wants l).length = q := by rw [deal_length]; exact hsH.out.wl
          obtain ⟨AL, cL, rfl, hcL⟩ : ∃ A c, vl = .slice A nt c ∧ nt ≤ c := by
            rcases hownl.2 with ⟨rfl, rfl⟩ | ⟨g, c, cur, rfl, _, _, h1, _⟩
            · exact ⟨none, 0, rfl, Nat.le_refl _⟩
            · exact ⟨_, c, rfl, h1⟩
          have c4' := hM2.bk.cell (j := 4) rfl
          have hRl := Rd.of_own hownl
          have hbk : 0 < nt → ∃ b o, AL = some ⟨b, o, none⟩ ∧ b < w2.heap.size ∧ ∀ gT cT', vT = .slice (some ⟨gT, 0, none⟩) q cT' → b ≠ gT := fun h0 => by
            obtain ⟨g, c, e1, h1, h2⟩ := own_form1 hownl h0
            injection e1 with e1
            refine ⟨g, 0, e1, h2, fun gT cT' eT e => ?_⟩
            have h3 := own_types hownl hM2.ta (by decide) (g := g) (by rw [e1]; rfl)
            rw [eT, ← e] at h3
            exact h3 rfl
          have hcLm : cL ≤ 9223372036854775807 ∧ (AL = none ∧ cL = 0 ∨ ∃ b o, AL = some ⟨b, o, none⟩ ∧ (0 < nt → ∀ gT cT', vT = .slice (some ⟨gT, 0, none⟩) q cT' → b ≠ gT)) := by
            rcases hownl.2 with ⟨h1, _⟩ | ⟨g, c, cur, h1, _, _, _, h5, _⟩
            · cases h1; exact ⟨by omega, .inl ⟨rfl, rfl⟩⟩
            · cases h1
              refine ⟨h5, .inr ⟨g, 0, rfl, fun h0 => ?_⟩⟩
              obtain ⟨b, o, e1, _, h2⟩ := hbk h0
              cases e1
              exact h2
          have hM2H := Lib.hid hM2; have hb2H := Lib.hid hb2'; have hlH := Lib.hid hl; have hllH := Lib.hid hll; have hRlH := Lib.hid hRl; have hbkH := Lib.hid hbk; have hdlH := Lib.hid hdl; have htickH := Lib.hid htick
          clear hownl hG hb2 hb2' hM2 hl hll htick hRl hbk hbH hP hdl
          go_wp2
          clear c4'
          go_loopw [7, 9, 10, 66, 68, 69, 70, 71, 72, 73, 74, 75, 76, 77, 78, 79, 80, 81, 82, 83, 84, 85] (fun v7 _ _ i _ _ _ _ _ _ _ _ _ _ _ _ _ _ _ _ _ _ wr => ∃ (j m c : Nat) (L : Option Addr) (tk : List (List Int)) (tv' : List Value), j ≤ q ∧ i = .int .i64 j ∧ v7 = .slice L m c ∧ (m : Int) = nt - sumTo (fun j => s.wants.getD j 0) j ∧ m ≤ c ∧ c ≤ 9223372036854775807 ∧ (L = none ∧ c = 0 ∨ ∃ b o, L = some ⟨b, o, none⟩ ∧ (0 < m → ∀ gT cT', vT = .slice (some ⟨gT, 0, none⟩) q cT' → b ≠ gT)) ∧ Rd wr L m 1 (ints .i64 (l.drop (nt - m))) ∧ tk.length = q ∧ (∀ a, a < q → tk.getD a [] = if a < j then (deal s.wants l).getD a [] else s.tasks.getD a []) ∧ CM cb q (.slice A k cA) (.slice B q cB) ⟨s.inn, s.wants, tk⟩ cs vC (.slice AW q cW) vT tv' wr ∧ w2.heap.size ≤ wr.heap.size ∧ Below cb W wr) (fun _ _ _ i _ _ _ _ _ _ _ _ _ _ _ _ _ _ _ _ _ _ _ => q - (intOf i).toNat)
          case atStart => exact ⟨0, nt, cL, AL, s.tasks, tv, Nat.zero_le _, rfl, rfl, by simp [sumTo], hcL, hcLm.1, hcLm.2, by rw [Nat.sub_self]; exact hRlH.out, hsH.out.tl, fun a _ => by rw [if_neg (by omega)], hM2H.out, Nat.le_refl _, hb2H.out.mono (Nat.le_of_lt hlt)⟩
          case round =>
            clear hM2H hb2H hRlH hbkH
            obtain ⟨wo, rfl⟩ : ∃ wo : World, wo = wr := ⟨_, rfl⟩
            obtain ⟨j, m, c, L, tk, tv', hj, rfl, rfl, hm, hmc, hcm, hLn, hR, htl, htk, hM, hsz, hb⟩ := hrel
            by_cases hlj : j < q
            · obtain ⟨gW, cW', eW, _, _⟩ := own_form1 hM.wa (by omega)
              injection eW with eA _ eC
              subst eA; subst eC
              obtain ⟨gT, cT, rfl, hgb, hgl⟩ := own_form1 hM.ta (by omega)
              have cwq := (hM.wa.cellAt j (by omega)).trans (ints_get (k := .i64) (zs := s.wants) (j := j) (by rw [hsH.out.wl]; exact hlj))
              have h0 := hsH.out.w0 j hlj
              have hn12 := Int.le_trans (sumTo_term hsH.out.w0 hlj) hsH.out.sm
              have hsj := sumTo_mono hsH.out.w0 (j + 1) (by omega)
              have hse : sumTo (fun j => s.wants.getD j 0) (j + 1) = sumTo (fun j => s.wants.getD j 0) j + s.wants.getD j 0 := rfl
              have hs0 : 0 ≤ sumTo (fun j => s.wants.getD j 0) j := sumTo_nonneg fun a ha => hsH.out.w0 a (by omega)
              have hdj := Lib.hid (hdeal.out j hlj)
              obtain ⟨n, hn⟩ := Int.eq_ofNat_of_zero_le h0
              rw [hn] at cwq hn12 hse hdj
              have hnm : n ≤ m := by have := hlen4H.out; omega
              have hm' := Lib.hid (show ((m - n : Nat) : Int) = nt - sumTo (fun j => s.wants.getD j 0) (j + 1) by rw [hse]; omega)
              have hoff : (sumTo (fun j => s.wants.getD j 0) j).toNat = nt - m := by omega
              rw [hoff] at hdj
              have hmn : m ≤ nt := by omega
              clear hm hse hsj hs0 hoff h0
              have hjq : (j : Int) < q := by omega
              have hj0 : (0 : Int) ≤ j := by omega
              have hj1 : IntKind.i64.wrap ((j : Int) + 1) = ((j + 1 : Nat) : Int) := by rw [IntWalk.i64_in _ (by omega)]; omega
              have hn0 : (0 : Int) ≤ n := by omega
              have hnmi : (n : Int) ≤ m := by omega
              have hnci : (n : Int) ≤ c := by omega
              have htvl : tv'.length = q := by have := hM.ta.1; omega
              have hM2 := hM.later ((Below.refl _ wo).drew)
              have hb2 : Below cb W wo.drew := hb.drew
              have hR2 : Rd wo.drew L m 1 (ints .i64 (l.drop (nt - m))) := hR
              have hRs := hR2.short hnm
              rw [ints_take] at hRs
              obtain ⟨xs, hxs⟩ : ∃ xs, (l.drop (nt - m)).take n = xs := ⟨_, rfl⟩
              rw [hxs] at hRs
              have hdx : deal1 (n : Int) (l.drop (nt - m)) = filN (fun a => decide (a < 0)) xs := by unfold deal1 filN; rw [Int.toNat_natCast, hxs]
              rw [hdx] at hdj
              have HCl := Lib.hid (cloneAI L n c xs wo.drew hRs (by omega))
              have hxl : xs.length = n := by have := hRs.1; simpa [ints] using this
              have hszd : wo.drew.heap.size = wo.heap.size := rfl
              have c5 := hM.bk.cell (j := 5) rfl
              have hMH := Lib.hid hM2; have hb2H := Lib.hid hb2; have hR2H := Lib.hid hR2; have htkH := Lib.hid htk; have htlH := Lib.hid htl; have hLH := Lib.hid hLn; have hdxH := Lib.hid hdx; have hxsH := Lib.hid hxs
              clear hM hM2 hb hb2 hR hR2 hRs htk htl hLn hdx hxs hn
              go_upto_region 17 with fail
              refine region_last (fun w' => w'.cell? ⟨cb, 5, none⟩ = some (.slice (some ⟨gT, 0, none⟩) q cT)) (by kernel_rfl) rfl (by kernel_rfl) c5 (fun hHeld => ?_)
              dsimp only [List.dropLast]
              (refine wpAnyH_take (i := 0) (v := ?_) rfl (by kernel_rfl) (by kernel_rfl) (by kernel_rfl) (fun _ _ _ h => h) (Or.inl ⟨by rfl, ?_⟩) hHeld ?_; rotate_left; first | (intro w' hSw; go_simp; done) | (intro w' hSw; go_simp; with_reducible rfl))
              simp only [Act.put, List.getElem_toArray, List.getElem_cons_zero, List.getElem_cons_succ, List.setIfInBounds_toArray, List.set_cons_zero, List.set_cons_succ]
              (refine wpAnyH_take (i := 1) (v := ?_) rfl (by kernel_rfl) (by kernel_rfl) (by kernel_rfl) (fun _ _ _ h => h) (Or.inl ⟨by rfl, ?_⟩) hHeld ?_; rotate_left; first | (intro w' hSw; go_simp; done) | (intro w' hSw; go_simp; with_reducible rfl))
              simp only [Act.put, List.getElem_toArray, List.getElem_cons_zero, List.getElem_cons_succ, List.setIfInBounds_toArray, List.set_cons_zero, List.set_cons_succ]
              (refine wpAnyH_take (i := 2) (v := ?_) rfl (by kernel_rfl) (by kernel_rfl) (by kernel_rfl) (fun _ _ _ h => h) (Or.inl ⟨by rfl, ?_⟩) hHeld ?_; rotate_left; first | (intro w' hSw; go_simp; done) | (intro w' hSw; go_simp; with_reducible rfl))
              simp only [Act.put, List.getElem_toArray, List.getElem_cons_zero, List.getElem_cons_succ, List.setIfInBounds_toArray, List.set_cons_zero, List.set_cons_succ]
              (refine wpAnyH_take (i := 3) (v := ?_) rfl (by kernel_rfl) (by kernel_rfl) (by kernel_rfl) (fun _ _ _ h => h) (Or.inl ⟨by rfl, ?_⟩) hHeld ?_; rotate_left; first | (intro w' hSw; go_simp; done) | (intro w' hSw; go_simp; with_reducible rfl))
              simp only [Act.put, List.getElem_toArray, List.getElem_cons_zero, List.getElem_cons_succ, List.setIfInBounds_toArray, List.set_cons_zero, List.set_cons_succ]
              (refine wpAnyH_take (i := 4) (v := ?_) rfl (by kernel_rfl) (by kernel_rfl) (by kernel_rfl) (fun _ _ _ h => h) (Or.inl ⟨by rfl, ?_⟩) hHeld ?_; rotate_left; first | (intro w' hSw; (have hq := hSw); go_simp; done) | (intro w' hSw; (have hq := hSw); go_simp; with_reducible rfl))
              simp only [Act.put, List.getElem_toArray, List.getElem_cons_zero, List.getElem_cons_succ, List.setIfInBounds_toArray, List.set_cons_zero, List.set_cons_succ]
              (refine wpAnyH_take (i := 5) (v := ?_) rfl (by kernel_rfl) (by kernel_rfl) (by kernel_rfl) (fun _ _ _ h => h) (Or.inl ⟨by rfl, ?_⟩) hHeld ?_; rotate_left; first | (intro w' hSw; go_simp; done) | (intro w' hSw; go_simp; with_reducible rfl))
              simp only [Act.put, List.getElem_toArray, List.getElem_cons_zero, List.getElem_cons_succ, List.setIfInBounds_toArray, List.set_cons_zero, List.set_cons_succ]
              (refine wpAnyH_take (i := 6) (v := ?_) rfl (by kernel_rfl) (by kernel_rfl) (by kernel_rfl) (fun _ _ _ h => h) (Or.inl ⟨by rfl, ?_⟩) hHeld ?_; rotate_left; first | (intro w' hSw; go_simp; done) | (intro w' hSw; go_simp; with_reducible rfl))
              simp only [Act.put, List.getElem_toArray, List.getElem_cons_zero, List.getElem_cons_succ, List.setIfInBounds_toArray, List.set_cons_zero, List.set_cons_succ]
              (refine wpAnyH_take (i := 7) (v := ?_) rfl (by kernel_rfl) (by kernel_rfl) (by kernel_rfl) (fun _ _ _ h => h) (Or.inl ⟨by rfl, ?_⟩) hHeld ?_; rotate_left; first | (intro w' hSw; go_simp; done) | (intro w' hSw; go_simp; with_reducible rfl))
              simp only [Act.put, List.getElem_toArray, List.getElem_cons_zero, List.getElem_cons_succ, List.setIfInBounds_toArray, List.set_cons_zero, List.set_cons_succ]
              refine wpAnyH_take (i := 8) (v := .slice L n c) rfl (by kernel_rfl) (by kernel_rfl) (by kernel_rfl) (fun _ _ _ h => h) (Or.inl ⟨by rfl, fun w' hSw => by
                rcases hLH.out with ⟨rfl, rfl⟩ | ⟨b, o, rfl, _⟩
                · go_simp
                  intro h
                  exact absurd (show n = 0 by omega) h
                · go_simp⟩) hHeld ?_
              simp only [Act.put, List.getElem_toArray, List.getElem_cons_zero, List.getElem_cons_succ, List.setIfInBounds_toArray, List.set_cons_zero, List.set_cons_succ]
              refine wpAnyH_ready (rs := [9]) (by kernel_rfl) (by simp) ?_
              refine AllReadyH.cons rfl (fun K hK => ?_) AllReadyH.nil
              go_simp
              refine HCl.out.mono ?_
              rintro e wA ⟨vA, rfl, hownA, hbA⟩
              have SA := (hMH.out.bk.below hbA hMH.out.lt).cell (j := 5) rfl
              refine hK.out _ _ SA (fun hHeld => ?_)
              clear hK K HCl
              (try simp only [Act.put, List.getElem_toArray, List.getElem_cons_zero, List.getElem_cons_succ, List.setIfInBounds_toArray, List.set_cons_zero, List.set_cons_succ])
              have HD := Lib.hid (delI wo.drew.heap.size n vA xs 32 #[] (fun a => decide (a < 0)) wA hownA (by omega) (enters_of Try.func32 (by kernel_rfl) rfl) (fun a W' _ => tick1_any a W'))
              refine wpAnyH_ready (rs := [10]) (by kernel_rfl) (by simp) ?_
              refine AllReadyH.cons rfl (fun K hK => ?_) AllReadyH.nil
              go_simp
              refine HD.out.mono ?_
              rintro e wB ⟨v', rfl, hownB, hblkB, hgB⟩
              have hbB : Below wo.drew.heap.size wo.drew wB := hbA.grown hgB hbA.size (fun g hg => (hownA.lt g hg).1)
              obtain ⟨AB, cpB, rfl⟩ := own_slice hownB
              obtain ⟨LB, hLB⟩ : ∃ LB, (filN (fun a => decide (a < 0)) xs).length = LB := ⟨_, rfl⟩
              rw [hLB] at hownB hblkB ⊢
              have SB := (hMH.out.bk.below hbB hMH.out.lt).cell (j := 5) rfl
              refine hK.out _ _ SB (fun hHeld => ?_)
              clear hK K HD
              (try simp only [Act.put, List.getElem_toArray, List.getElem_cons_zero, List.getElem_cons_succ, List.setIfInBounds_toArray, List.set_cons_zero, List.set_cons_succ])
              (refine wpAnyH_take (i := 11) (v := ?_) rfl (by kernel_rfl) (by kernel_rfl) (by kernel_rfl) (fun _ _ _ h => h) (Or.inl ⟨by rfl, ?_⟩) hHeld ?_; rotate_left; first | (intro w' hSw; go_simp; done) | (intro w' hSw; go_simp; with_reducible rfl))
              simp only [Act.put, List.getElem_toArray, List.getElem_cons_zero, List.getElem_cons_succ, List.setIfInBounds_toArray, List.set_cons_zero, List.set_cons_succ]
              refine wpAnyH_done (by kernel_rfl) ?_ _
              have hlo := hMH.out.lt
              have hput := hMH.out.putT (W' := wB) (xs' := filN (fun a => decide (a < 0)) xs) (v' := .slice AB LB cpB) htlH.out hlj rfl (grown_of_below hbB none) (.inl rfl) (by rw [hLB]; exact own_base (by omega) hownB) (fun g hg => .inr (by rw [hblkB] at hg; exact (hownA.lt g hg).1))
              have tB := own_below hMH.out.ta hbB
              have ctB := tB.cellAt j (by omega)
              rw [List.getElem?_eq_getElem (show j < tv'.length by omega)] at ctB
              have ftB := tB.frozenAt j
              have ltB := (tB.lt gT rfl).2
              have hbF := (hb2H.out.trans (hbB.mono (Nat.le_of_lt hMH.out.lt))).setCell (p := ⟨gT, j, none⟩) (by show cb ≤ gT; omega) (.slice AB LB cpB)
              have hRF := (hR2H.out.later hbB).keepS (g := gT) (i := j) (fun h0 b o e => by
                rcases hLH.out with ⟨h1, _⟩ | ⟨b2, o2, h1, h2⟩
                · rw [e] at h1; cases h1
                · rw [e] at h1
                  cases h1
                  exact h2 h0 gT cT rfl) (.slice AB LB cpB)
              have hszF : w2.heap.size ≤ (wB.setCell ⟨gT, j, none⟩ (.slice AB LB cpB)).heap.size := by have := hbB.size; simp; omega
              have htkF : ∀ a, a < q → (tk.set j (filN (fun a => decide (a < 0)) xs)).getD a [] = if a < j + 1 then (deal s.wants l).getD a [] else s.tasks.getD a [] := fun a ha => by
                rw [getD_set _ _ _ _ _ (by rw [htlH.out]; exact hlj)]
                by_cases e : a = j
                · rw [if_pos e, e, if_pos (by omega), hdj.out]
                · rw [if_neg e, htkH.out a ha]
                  by_cases e2 : a < j
                  · rw [if_pos e2, if_pos (by omega)]
                  · rw [if_neg e2, if_neg (by omega)]
              have hfin := Lib.hid (And.intro (show (tk.set j (filN (fun a => decide (a < 0)) xs)).length = q by rw [List.length_set]; exact htlH.out) (And.intro htkF (And.intro hput (And.intro hszF hbF))))
              have hRFH := Lib.hid hRF
              clear hput hownA hbA hownB hblkB hgB hbB SA SB hMH hb2H hR2H htkH htlH hdj hdxH tB hbF hRF hszF htkF hHeld hlo
              show Oper.wp _ _ _ _ _ _
              go_simp
              generalize wB.setCell ⟨gT, j, none⟩ (.slice AB LB cpB) = w9 at *
              have hmm : m - (m - n) = n := by omega
              have hdd : ints .i64 (l.drop (nt - (m - n))) = (ints .i64 (l.drop (nt - m))).drop n := by
                unfold ints
                rw [← List.map_drop, List.drop_drop, show nt - m + n = nt - (m - n) by omega]
              have hlt' := Lib.hid (show (ints .i64 (l.drop (nt - (m - n)))).length = m - n by have := hllH.out; simp [ints]; omega)
              rcases hLH.out with ⟨rfl, rfl⟩ | ⟨b, o, rfl, hbo⟩
              · obtain rfl : n = 0 := by omega
                obtain rfl : m = 0 := by omega
                clear hLH hdd hmm
                go_wp2
                go_roundw
                case rel => exact ⟨j + 1, 0, 0, none, _, _, by omega, by go_num, rfl, by simpa using hm'.out, Nat.le_refl _, by omega, .inl ⟨rfl, rfl⟩, hRFH.out, hfin.out.1, hfin.out.2.1, hfin.out.2.2.1, hfin.out.2.2.2.1, hfin.out.2.2.2.2⟩
                case measure => simp [intOf]; omega
              · rcases Nat.lt_or_ge n c with hce | hce
                · have hce1 : ¬ c = n := by omega
                  have hce2 : ¬ n = c := by omega
                  have hR' : Rd w9 (some ⟨b, o + n, none⟩) (m - n) 1 (ints .i64 (l.drop (nt - (m - n)))) := by
                    rw [hdd]; exact hRFH.out.cut1 n
                  have hRH := Lib.hid hR'
                  have hboH := Lib.hid hbo
                  clear hLH hdd hR' hbo
                  go_wp2
                  go_roundw
                  case rel => exact ⟨j + 1, m - n, c - n, some ⟨b, o + n, none⟩, _, _, by omega, by go_num, by go_num, hm'.out, by omega, by omega, .inr ⟨b, o + n, rfl, fun h0 => hboH.out (by omega)⟩, hRH.out, hfin.out.1, hfin.out.2.1, hfin.out.2.2.1, hfin.out.2.2.2.1, hfin.out.2.2.2.2⟩
                  case measure => simp [intOf]; omega
                · obtain rfl : c = n := by omega
                  obtain rfl : m = c := by omega
                  have hRH := Lib.hid (show Rd w9 (some ⟨b, o, none⟩) 0 1 (ints .i64 (l.drop (nt - (m - m)))) from Rd.none1 rfl (by have := hlt'.out; omega))
                  clear hLH hdd hbo
                  go_wp2
                  go_roundw
                  case rel => exact ⟨j + 1, 0, 0, some ⟨b, o, none⟩, _, _, by omega, by go_num, by go_num, by simpa using hm'.out, Nat.le_refl _, by omega, .inr ⟨b, o, rfl, fun h0 => by omega⟩, by simpa using hRH.out, hfin.out.1, hfin.out.2.1, hfin.out.2.2.1, hfin.out.2.2.2.1, hfin.out.2.2.2.2⟩
                  case measure => simp [intOf]; omega
            · obtain rfl : j = q := by omega
              have he : tk = deal s.wants l := by
                refine List.ext_getElem? fun a => ?_
                rcases Nat.lt_or_ge a j with h | h
                · have h1 := htk a h
                  rw [if_pos h] at h1
                  have h3 : a < (deal s.wants l).length := by rw [hdlH.out]; exact h
                  simp only [List.getD, List.getElem?_eq_getElem (show a < tk.length by omega), List.getElem?_eq_getElem h3, Option.getD_some] at h1
                  rw [List.getElem?_eq_getElem (show a < tk.length by omega), List.getElem?_eq_getElem h3, h1]
                · rw [List.getElem?_eq_none (by omega), List.getElem?_eq_none (by rw [hdlH.out]; exact h)]
              subst he
              have hfin := Lib.hid (And.intro hM hb)
              clear hM hb htk htl hR hLn hm
              go_wp2
              go_end0
              rw [htickH.out]
              exact ⟨⟨_, rfl⟩, ⟨_, hfin.out.1⟩, hfin.out.2⟩
end Go.Proofs.Yticffbcbfgboeaa
