/- placing: is it one? -/
import Derived.Test.YtgbkpjiefaejiaaDoorPlaceG
import Derived.Test.YtgbkpjiefaejiaaDoorInside
import Derived.Test.YtgbkpjiefaejiaaDoorMid
namespace Go.Proofs.YtgbkpjiefaejiaaDoor
open Go.RowKit Go.Shelf

theorem insideB_1 (n s : Int) : insideB n [s] = (decide (0 ≤ s) && decide (s < n)) := by simp [insideB, inB]
/-- the i-th: nobody, or one who may -/
def lOk (ws : List (Int × Int)) (ts : List Nat) (l : List Int) (i : Nat) : Prop := l.getD i 0 = -1 ∨ (0 ≤ l.getD i 0 ∧ l.getD i 0 < ws.length ∧ mayI (wat ws (l.getD i 0).toNat).2 (ts.getD i 0 : Nat) = true)
theorem plg_iff {ws : List (Int × Int)} {ts : List Nat} {l : List Int} (h : l.length = ts.length) : PlG ws ts l ↔ (∀ i, i < ts.length → lOk ws ts l i) ∧ ∀ j, j < ws.length → cntJ l j l.length ≤ rms ws j := by
  constructor
  · rintro ⟨_, h1, h2⟩
    refine ⟨fun i hi => h1 i hi, fun j hj => ?_⟩
    have := h2 j hj
    rw [h]
    exact this
  · rintro ⟨h1, h2⟩
    refine ⟨h, fun i hi => h1 i hi, fun j hj => ?_⟩
    have := h2 j hj
    rw [h] at this
    exact this
theorem refMayI_any (r h : Int) (t : Nat) (w : World) (hh : 0 ≤ h ∧ h < 4294967296) (ht : t < 4294967296) :
    Calls Tryd.prog 17 #[.agg #[.int .i64 r, .int .u32 h], .int .u32 (t : Int)] w fun e w' => e = .returned (.bool (mayI h t)) ∧ Below w.heap.size w w' := by
  obtain ⟨m, rfl⟩ := Int.eq_ofNat_of_zero_le hh.1
  exact refMay_any r m t w (by omega) ht
theorem cntJ_succ (l : List Int) (j k : Nat) : cntJ l j (k + 1) = cntJ l j k + if l.getD k 0 = (j : Int) then 1 else 0 := rfl
theorem cntJ_le (l : List Int) (j : Nat) : ∀ k, cntJ l j k ≤ k
  | 0 => by simp [cntJ, sm]
  | k + 1 => by
    have := cntJ_le l j k
    rw [cntJ_succ]
    split <;> omega
set_option maxHeartbeats 3200000 in
set_option maxRecDepth 100000 in
theorem placing_any (A B C : Option Addr) (nw nt nl cA cB cC : Nat) (ws : List (Int × Int)) (ts : List Nat) (l : List Int) (w : World) (hw : Rd w A nw 2 (ps2 .i64 .u32 ws)) (ht : Rd w B nt 1 (wds ts)) (hl : Rd w C nl 1 (ints .i64 l))
    (hnw : nw ≤ 9223372036854775807) (hnl : nl ≤ 9223372036854775807) (hws : ∀ c ∈ ws, 0 ≤ c.2 ∧ c.2 < 4294967296) (hts : ∀ i, ts.getD i 0 < 4294967296) :
    Calls Tryd.prog 7 #[.slice A nw cA, .slice B nt cB, .slice C nl cC] w fun e w' => (∃ b : Bool, e = .returned (.bool b) ∧ (b = true ↔ PlG ws ts l)) ∧ Below w.heap.size w w' := by
  have hwl : ws.length = nw := by have := hw.1; rw [ps2_length] at this; omega
  have htl : ts.length = nt := by have := ht.1; rw [wds_length] at this; omega
  have hll : l.length = nl := by simpa [ints] using hl.1
  have hwH := Lib.hid hw; have htH := Lib.hid ht; have hlH := Lib.hid hl; have hwsH := Lib.hid hws; have htsH := Lib.hid hts
  have hwlH := Lib.hid hwl; have htlH := Lib.hid htl; have hllH := Lib.hid hll
  clear hw ht hl hws hts hwl htl hll
  by_cases hne : nl = nt
  case neg =>
    have hv := Lib.hid (show ¬ PlG ws ts l from fun h => hne (by rw [← hllH.out, ← htlH.out]; exact h.1))
    have hq : ((nl : Int) != (nt : Int)) = true := bne_iff_ne.2 (by omega)
    clear hne
    go_enter Tryd.func7, Tryd.ntmps7
    go_wp2
    go_ret
    exact ⟨⟨false, rfl, by simp [hv.out]⟩, Below.refl _ _⟩
  subst hne
  have hiff := Lib.hid (plg_iff (ws := ws) (ts := ts) (l := l) (by rw [hllH.out, htlH.out]))
  rw [htlH.out, hwlH.out, hllH.out] at hiff
  go_enter Tryd.func7, Tryd.ntmps7
  go_wp2
  go_loopw [7, 8, 21] (fun _ _ i wr => ∃ k : Nat, k ≤ nl ∧ i = .int .i64 k ∧ (∀ j, j < k → lOk ws ts l j) ∧ Below w.heap.size w wr) (fun _ _ i _ => nl - (intOf i).toNat)
  case atStart => exact ⟨0, Nat.zero_le _, rfl, fun j hj => absurd hj (by omega), Below.refl _ _⟩
  case round =>
    obtain ⟨k, hk, rfl, hall, hb⟩ := hrel
    have hallH := Lib.hid hall
    clear hall
    by_cases hlt : k < nl
    · obtain ⟨bt, ot, rfl, hbt, t0⟩ := (htH.out.later hb).wd hlt
      obtain ⟨bl, ol, rfl, hbl, l0⟩ := (hlH.out.later hb).int hlt
      have hx := htsH.out k
      have hok := Lib.hid (show lOk ws ts l k ↔ (l.getD k 0 = -1 ∨ (0 ≤ l.getD k 0 ∧ l.getD k 0 < ws.length ∧ mayI (wat ws (l.getD k 0).toNat).2 (ts.getD k 0 : Nat) = true)) from Iff.rfl)
      have hno := Lib.hid (fun (h : ¬ lOk ws ts l k) => show ¬ PlG ws ts l from fun hp => h ((hiff.out.1 hp).1 k hlt))
      have hyes := Lib.hid (fun (h : lOk ws ts l k) => show ∀ j, j < k + 1 → lOk ws ts l j from fun j hj => by
        by_cases e : j = k
        · subst e; exact h
        · exact hallH.out j (by omega))
      generalize l.getD k 0 = v at *
      generalize ts.getD k 0 = x at *
      by_cases hv : v = -1
      · subst hv
        have hy := Lib.hid (hyes.out (hok.out.2 (.inl rfl)))
        have hbH := Lib.hid hb
        clear hb
        go_wp2
        go_region
        go_wp2
        go_roundw
        case rel => exact ⟨k + 1, by omega, by go_num, hy.out, below_drewN hbH.out 1⟩
        case measure => simp [intOf]; omega
      · have hvb : (v != -1) = true := bne_iff_ne.2 hv
        have HI := Lib.hid (fun (W : World) => inside_any nw (some ⟨W.heap.size, 0, none⟩) 1 1 [v] _ (Rd.drew (rd_new1 W (.int .i64 v) 3)) (by omega))
        have hI1 := insideB_1 nw v
        have hbH := Lib.hid hb
        clear hb
        by_cases hin : 0 ≤ v ∧ v < nw
        · obtain ⟨q, rfl⟩ := Int.eq_ofNat_of_zero_le hin.1
          have hqn : q < nw := by omega
          obtain ⟨ba, oa, rfl, hba, a0, a1⟩ := (hwH.out.later hbH.out).pair hqn
          have hcm := hwsH.out (wat ws q) (wat_mem (by rw [hwlH.out]; exact hqn))
          have hok2 := Lib.hid (show lOk ws ts l k ↔ mayI (wat ws q).2 (x : Int) = true by
            rw [hok.out, Int.toNat_natCast, hwlH.out]
            constructor
            · rintro (h | ⟨_, _, h⟩)
              · exact absurd h hv
              · exact h
            · exact fun h => .inr ⟨by omega, by omega, h⟩)
          unfold wat at hcm hok2
          generalize ws.getD q (0, 0) = c at *
          obtain ⟨cr, ch⟩ := c
          dsimp only at a0 a1 hcm hok2
          have HM := Lib.hid (fun W => refMayI_any cr ch x W hcm hx)
          have hI2 : insideB nw [(q : Int)] = true := by rw [hI1, decide_eq_true (by omega : (0 : Int) ≤ q), decide_eq_true (by omega : (q : Int) < nw)]; rfl
          rw [hI2] at HI
          clear hok hI1 hI2 hv
          generalize hmay : mayI ch (x : Int) = mb at *
          have hqc : (q : Int) < nw := by omega
          have hqc0 : (0 : Int) ≤ q := by omega
          go_upto_region 6 with fail
          have a0' := BW.cell (w := (wr.alloc (.cells #[.int .i64 q] 3)).drew) (alloc_cell hba a0 (.cells #[.int .i64 q] 3))
          have a1' := BW.cell (w := (wr.alloc (.cells #[.int .i64 q] 3)).drew) (alloc_cell hba a1 (.cells #[.int .i64 q] 3))
          have t0' := BW.cell (w := (wr.alloc (.cells #[.int .i64 q] 3)).drew) (alloc_cell hbt t0 (.cells #[.int .i64 q] 3))
          refine wp_region_any (by kernel_rfl) ?_
          change wpAny _ _ _ _ _ _ _ (World.drew _)
          (refine wpAny_take (i := 0) (v := ?_) rfl (by kernel_rfl) (by kernel_rfl) (by kernel_rfl) (fun _ _ _ h => h) (Or.inl ⟨by rfl, ?_⟩) ?_; rotate_left; first | (intro w; go_simp; done) | (intro w; go_simp; with_reducible rfl))
          (refine wpAny_take (i := 1) (v := ?_) rfl (by kernel_rfl) (by kernel_rfl) (by kernel_rfl) (fun _ _ _ h => h) (Or.inl ⟨by rfl, ?_⟩) ?_; rotate_left; first | (intro w; go_simp; done) | (intro w; go_simp; with_reducible rfl))
          (refine wpAny_take (i := 2) (v := ?_) rfl (by kernel_rfl) (by kernel_rfl) (by kernel_rfl) (fun _ _ _ h => h) (Or.inl ⟨by rfl, ?_⟩) ?_; rotate_left; first | (intro w; go_simp; done) | (intro w; go_simp; with_reducible rfl))
          (refine wpAny_take (i := 3) (v := ?_) rfl (by kernel_rfl) (by kernel_rfl) (by kernel_rfl) (fun _ _ _ h => h) (Or.inl ⟨by rfl, ?_⟩) ?_; rotate_left; first | (intro w; go_simp; done) | (intro w; go_simp; with_reducible rfl))
          (refine wpAny_take (i := 4) (v := ?_) rfl (by kernel_rfl) (by kernel_rfl) (by kernel_rfl) (fun _ _ _ h => h) (Or.inl ⟨by rfl, ?_⟩) ?_; rotate_left; first | (intro w; go_simp; done) | (intro w; go_simp; with_reducible rfl))
          (refine wpAny_take (i := 5) (v := ?_) rfl (by kernel_rfl) (by kernel_rfl) (by kernel_rfl) (fun _ _ _ h => h) (Or.inl ⟨by rfl, ?_⟩) ?_; rotate_left; first | (intro w; go_simp; done) | (intro w; go_simp; with_reducible rfl))
          (refine wpAny_ready (rs := [6]) (by kernel_rfl) (by simp) ?_; refine AllReady.cons rfl (fun K hK => ?_) AllReady.nil; go_simp)
          refine hK _ _ ?_
          clear hK K
          (refine wpAny_ready (rs := [7]) (by kernel_rfl) (by simp) ?_; refine AllReady.cons rfl (fun K hK => ?_) AllReady.nil; go_simp)
          refine (HI.out _).mono ?_
          rintro e wA ⟨rfl, rfl⟩
          refine hK _ _ ?_
          clear hK K
          (refine wpAny_take (i := 8) (v := ?_) rfl (by kernel_rfl) (by kernel_rfl) (by kernel_rfl) (fun _ _ _ h => h) (Or.inl ⟨by rfl, ?_⟩) ?_; rotate_left; first | (intro w; go_simp; done) | (intro w; go_simp; with_reducible rfl))
          (refine wpAny_take (i := 9) (v := ?_) rfl (by kernel_rfl) (by kernel_rfl) (by kernel_rfl) (fun _ _ _ h => h) (Or.inl ⟨by rfl, ?_⟩) ?_; rotate_left; first | (intro w; go_simp; done) | (intro w; go_simp; with_reducible rfl))
          refine wpAny_drop (C := fun w' => ∃ p : BW (wr.alloc (.cells #[.int .i64 q] 3)).drew, w' = p.w') 10 12 (by rfl) (by kernel_rfl) (by kernel_rfl) ⟨⟨_, Below.refl _ _⟩, rfl⟩ ?_
          simp only [List.drop_succ_cons, List.drop_zero]
          go_simp
          repeat (go_big_quiet_step (first | rfl | (with_reducible refine Calls.bel (HM.out _))))
          refine wpQuiet_nil ?_
          rintro ⟨wB, bB⟩
          dsimp only
          have hb2H := Lib.hid (hbH.out.trans ((((Below.refl _ wr).alloc (Nat.le_refl _) (.cells #[.int .i64 q] 3)).drew.trans (bB.mono (by simp))).mono hbH.out.size))
          clear bB
          cases mb
          · have hy := Lib.hid (hno.out (fun h => by have := hok2.out.1 h; cases this))
            clear hmay
            go_wp2
            go_ret
            exact ⟨⟨false, rfl, by simp [hy.out]⟩, hb2H.out⟩
          · have hy := Lib.hid (hyes.out (hok2.out.2 rfl))
            clear hmay
            go_wp2
            go_roundw
            case rel => exact ⟨k + 1, by omega, by go_num, hy.out, hb2H.out⟩
            case measure => simp [intOf]; omega
        · have hI2 : insideB nw [v] = false := by
            rw [hI1]
            by_cases h : 0 ≤ v
            · rw [decide_eq_true h, decide_eq_false (by omega : ¬ v < nw)]; rfl
            · rw [decide_eq_false h]; rfl
          rw [hI2] at HI
          have hy := Lib.hid (hno.out (fun h => by
            rcases hok.out.1 h with h | ⟨h1, h2, _⟩
            · exact hv h
            · rw [hwlH.out] at h2
              exact hin ⟨h1, h2⟩))
          clear hok hI1 hI2 hv hin hno hyes
          go_upto_region 6 with fail
          refine wp_region_any (by kernel_rfl) ?_
          change wpAny _ _ _ _ _ _ _ (World.drew _)
          (refine wpAny_take (i := 0) (v := ?_) rfl (by kernel_rfl) (by kernel_rfl) (by kernel_rfl) (fun _ _ _ h => h) (Or.inl ⟨by rfl, ?_⟩) ?_; rotate_left; first | (intro w; go_simp; done) | (intro w; go_simp; with_reducible rfl))
          (refine wpAny_take (i := 1) (v := ?_) rfl (by kernel_rfl) (by kernel_rfl) (by kernel_rfl) (fun _ _ _ h => h) (Or.inl ⟨by rfl, ?_⟩) ?_; rotate_left; first | (intro w; go_simp; done) | (intro w; go_simp; with_reducible rfl))
          (refine wpAny_take (i := 2) (v := ?_) rfl (by kernel_rfl) (by kernel_rfl) (by kernel_rfl) (fun _ _ _ h => h) (Or.inl ⟨by rfl, ?_⟩) ?_; rotate_left; first | (intro w; go_simp; done) | (intro w; go_simp; with_reducible rfl))
          (refine wpAny_take (i := 3) (v := ?_) rfl (by kernel_rfl) (by kernel_rfl) (by kernel_rfl) (fun _ _ _ h => h) (Or.inl ⟨by rfl, ?_⟩) ?_; rotate_left; first | (intro w; go_simp; done) | (intro w; go_simp; with_reducible rfl))
          (refine wpAny_take (i := 4) (v := ?_) rfl (by kernel_rfl) (by kernel_rfl) (by kernel_rfl) (fun _ _ _ h => h) (Or.inl ⟨by rfl, ?_⟩) ?_; rotate_left; first | (intro w; go_simp; done) | (intro w; go_simp; with_reducible rfl))
          (refine wpAny_take (i := 5) (v := ?_) rfl (by kernel_rfl) (by kernel_rfl) (by kernel_rfl) (fun _ _ _ h => h) (Or.inl ⟨by rfl, ?_⟩) ?_; rotate_left; first | (intro w; go_simp; done) | (intro w; go_simp; with_reducible rfl))
          (refine wpAny_ready (rs := [6]) (by kernel_rfl) (by simp) ?_; refine AllReady.cons rfl (fun K hK => ?_) AllReady.nil; go_simp)
          refine hK _ _ ?_
          clear hK K
          (refine wpAny_ready (rs := [7]) (by kernel_rfl) (by simp) ?_; refine AllReady.cons rfl (fun K hK => ?_) AllReady.nil; go_simp)
          refine (HI.out _).mono ?_
          rintro e wA ⟨rfl, rfl⟩
          refine hK _ _ ?_
          clear hK K
          (refine wpAny_take (i := 8) (v := ?_) rfl (by kernel_rfl) (by kernel_rfl) (by kernel_rfl) (fun _ _ _ h => h) (Or.inl ⟨by rfl, ?_⟩) ?_; rotate_left; first | (intro w; go_simp; done) | (intro w; go_simp; with_reducible rfl))
          (refine wpAny_take (i := 9) (v := ?_) rfl (by kernel_rfl) (by kernel_rfl) (by kernel_rfl) (fun _ _ _ h => h) (Or.inl ⟨by rfl, ?_⟩) ?_; rotate_left; first | (intro w; go_simp; done) | (intro w; go_simp; with_reducible rfl))
          refine wpAny_drop (C := fun w' => ∃ p : BW (wr.alloc (.cells #[.int .i64 v] 3)).drew, w' = p.w') 10 12 (by rfl) (by kernel_rfl) (by kernel_rfl) ⟨⟨_, Below.refl _ _⟩, rfl⟩ ?_
          simp only [List.drop_succ_cons, List.drop_zero]
          go_simp
          repeat (go_big_quiet_step (first | rfl | fail))
          refine wpQuiet_nil ?_
          rintro ⟨wB, bB⟩
          dsimp only
          have hb2H := Lib.hid (hbH.out.trans ((((Below.refl _ wr).alloc (Nat.le_refl _) (.cells #[.int .i64 v] 3)).drew.trans (bB.mono (by simp))).mono hbH.out.size))
          clear bB
          go_wp2
          go_ret
          exact ⟨⟨false, rfl, by simp [hy.out]⟩, hb2H.out⟩
    · obtain rfl : k = nl := by omega
      have hbH := Lib.hid hb
      clear hb
      go_wp2
      go_loopw [9, 10, 11, 13, 51] (fun _ _ _ _ i wr => ∃ j : Nat, j ≤ nw ∧ i = .int .i64 j ∧ (∀ j', j' < j → cntJ l j' k ≤ rms ws j') ∧ Below w.heap.size w wr) (fun _ _ _ _ i _ => nw - (intOf i).toNat)
      case atStart => exact ⟨0, Nat.zero_le _, rfl, fun j' hj' => absurd hj' (by omega), hbH.out⟩
      case round =>
        clear hbH
        obtain ⟨j, hj, rfl, hle, hb⟩ := hrel
        have hleH := Lib.hid hle
        clear hle
        by_cases hlt2 : j < nw
        · obtain ⟨ba, oa, rfl, hba, a0, a1⟩ := (hwH.out.later hb).pair hlt2
          have hr := Lib.hid (show rms ws j = (ws.getD j (0, 0)).1 from rfl)
          generalize ws.getD j (0, 0) = c at *
          obtain ⟨cr, ch⟩ := c
          dsimp only at a0 a1 hr
          have hq := Blk.new wr 37 #[.int .i64 cr, .int .u32 ch]
          have q0 := hq.cell (j := 0) rfl
          have lq := hq.lt
          have hb2 := hb.alloc hb.size (.cells #[.int .i64 cr, .int .u32 ch] 37)
          have hlH2 := Lib.hid (hlH.out.later hb2)
          have hb2H := Lib.hid hb2
          clear hb2 hq hb
          go_wp2
          generalize wr.alloc (.cells #[.int .i64 cr, .int .u32 ch] 37) = W at *
          go_loop [11, 13, 58] (fun s _ i => ∃ m : Nat, m ≤ k ∧ i = .int .i64 m ∧ s = .int .i64 (cntJ l j m)) (fun _ _ i => k - (intOf i).toNat)
          case atStart => exact ⟨0, Nat.zero_le _, rfl, rfl⟩
          case round =>
            obtain ⟨m, hm, rfl, rfl⟩ := hrel
            have hc0 := cntJ_nonneg l j m
            have hc1 := cntJ_le l j m
            by_cases hlt3 : m < k
            · obtain ⟨bl, ol, rfl, hbl, l0⟩ := hlH2.out.int hlt3
              have hs := Lib.hid (cntJ_succ l j m)
              generalize l.getD m 0 = v at *
              generalize cntJ l j m = s at *
              by_cases hvj : v = (j : Int)
              · have hs2 := Lib.hid (show cntJ l j (m + 1) = s + 1 by rw [hs.out, if_pos hvj])
                subst hvj
                go_wp2
                go_round
                case rel => exact ⟨m + 1, by omega, by go_num, by rw [hs2.out]⟩
                case measure => simp [intOf]; omega
              · have hs2 := Lib.hid (show cntJ l j (m + 1) = s by rw [hs.out, if_neg hvj]; omega)
                have hvb : (v == (j : Int)) = false := beq_false_of_ne hvj
                go_wp2
                go_round
                case rel => exact ⟨m + 1, by omega, by go_num, by rw [hs2.out]⟩
                case measure => simp [intOf]; omega
            · obtain rfl : m = k := by omega
              by_cases hgt : cr < cntJ l j m
              · have hy := Lib.hid (show ¬ PlG ws ts l from fun hp => by
                  have := (hiff.out.1 hp).2 j hlt2
                  rw [hr.out] at this
                  omega)
                have hgd : decide (cr < cntJ l j m) = true := decide_eq_true hgt
                generalize cntJ l j m = s at *
                go_wp2
                go_ret
                first | exact ⟨.inl ⟨rfl, hy.out⟩, hb2H.out⟩ | exact ⟨⟨false, rfl, by simp [hy.out]⟩, hb2H.out⟩
              · have hnx := Lib.hid (show ∀ j', j' < j + 1 → cntJ l j' m ≤ rms ws j' from fun j' hj' => by
                  by_cases e : j' = j
                  · subst e; rw [hr.out]; omega
                  · exact hleH.out j' (by omega))
                have hgd : decide (cr < cntJ l j m) = false := decide_eq_false hgt
                generalize cntJ l j m = s at *
                go_wp2
                go_roundw
                case rel => exact ⟨j + 1, by omega, by go_num, hnx.out, hb2H.out⟩
                case measure => simp [intOf]; omega
        · have hy := Lib.hid (hiff.out.2 ⟨hallH.out, fun j' hj' => hleH.out j' (by omega)⟩)
          have hbH := Lib.hid hb
          clear hb
          go_wp2
          go_ret
          first | exact ⟨⟨true, rfl, by simp [hy.out]⟩, hbH.out⟩ | exact ⟨.inr ⟨rfl, hy.out⟩, hbH.out⟩
end Go.Proofs.YtgbkpjiefaejiaaDoor
