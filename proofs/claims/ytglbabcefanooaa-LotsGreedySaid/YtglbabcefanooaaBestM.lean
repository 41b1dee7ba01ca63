/- lots.Best: the walk. -/
import Derived.Test.YtglbabcefanooaaBestL
import Derived.RangeFuncBox
namespace Go.Proofs.Ytglbabcefanooaa
open Go.RowKit Go.Maps

theorem tiL : TI Try.prog 37 3 (.int .i64 0) 1 8 := TI.mk' Try.underlying37 (by kernel_rfl) rfl (by decide)
theorem natI_snocL (y : List Nat) (i : Nat) : natI (y ++ [i]) = natI y ++ [(i : Int)] := by simp [natI]
theorem natI_lenL (y : List Nat) : (natI y).length = y.length := by simp [natI]
/-- what Best is to answer -/
def BestPost (xs : List Nat) (zs : List Int) (n : Nat) (w : World) (e : Ending) (w' : World) : Prop :=
  ∃ (G : Nat) (y : List Nat), e = .returned (.tuple #[.int .u32 (G : Int), .int .i64 0]) ∧ GdI xs y n n G ∧ y.Perm (List.range n) ∧ SrI (fun i => zs.getD i 0) y n ∧ Below w.heap.size w w'
set_option maxHeartbeats 3200000 in
theorem best_ok (A B : Option Addr) (n ca cb : Nat) (xs : List Nat) (zs : List Int) (w : World) (hra : Rd w A n 1 (wds xs)) (hrb : Rd w B n 1 (ints .i64 zs)) (hok : LOk xs) (hz : zs.any wideX = false) :
    Calls Try.prog 4 #[.slice A n ca, .slice B n cb] w (BestPost xs zs n w) := by
  have hel : xs.length = n := by simpa [wds] using hra.1
  have hn : n ≤ 10 := by rw [← hel]; exact hok.1
  have gb := (Below.refl _ w).alloc (Nat.le_refl _) (.cells #[.slice B n cb] 23)
  have bx := Boxed.new w 23 (.slice B n cb)
  have CA := Lib.hid (fun W (h : Below w.heap.size w W) => check_any A n ca xs W (hra.later h) (by omega))
  rw [lchk_ok.2 hok] at CA
  have CZ := Lib.hid (fun W (h : Below w.heap.size w W) => contains_wideX B n cb zs W (hrb.later h) (by omega))
  rw [hz] at CZ
  have hraH := Lib.hid hra; have hatH := Lib.hid hok.at
  have HC := Lib.hid (fun i j W (h : Below w.heap.size w W) (hc : W.cell? ⟨w.heap.size, 0, none⟩ = some (.slice B n cb)) hi hj => cmpB_any w.heap.size B n cb zs i j W hc (hrb.later h) hi hj)
  have hs1 : (w.alloc (.cells #[.slice B n cb] 23)).heap.size = w.heap.size + 1 := by simp
  clear hra hrb hok hz hel
  go_enter Try.func4, Try.ntmps4
  go_wp2_with fail
  generalize w.alloc (.cells #[.slice B n cb] 23) = wg at *
  refine (CA.out _ gb).mono ?_
  rintro _ w1 ⟨rfl, hb1⟩
  have hbw := gb.trans (hb1.mono (by omega))
  have bx1 : Boxed w1 w.heap.size 23 (.slice B n cb) := (hb1.block _ bx.lt).trans bx
  have cx1 := bx1.cell
  have hsz1 := hb1.size
  have CZ1 := Lib.hid (CZ.out w1 hbw)
  clear gb hb1 bx CA CZ
  go_wp2_with fail
  refine CZ1.out.mono ?_
  rintro _ w2 ⟨rfl, hb2⟩
  have bx2 : Boxed w2 w.heap.size 23 (.slice B n cb) := (hb2.block _ bx1.lt).trans bx1
  have cx2 := bx2.cell
  have hbw2 := hbw.trans (hb2.mono hbw.size)
  have hsz2 := hb2.size
  clear hb2 hbw bx1 cx1 CZ1
  go_wp2
  go_loopw [7, 8, 27] (fun v _ i wr => ∃ k : Nat, k ≤ n ∧ i = .int .i64 k ∧ wr.ownsRow (w.heap.size + 1) 3 1 v k (ints .i64 (natI (List.range k))) ∧ Below w.heap.size w wr ∧ w.heap.size + 1 ≤ wr.heap.size ∧ Boxed wr w.heap.size 23 (.slice B n cb)) (fun _ _ i _ => n - (intOf i).toNat)
  case atStart => exact ⟨0, Nat.zero_le _, rfl, ⟨rfl, .inl ⟨rfl, rfl⟩⟩, hbw2, by omega, bx2⟩
  case round =>
    clear hbw2 bx2 cx2
    obtain ⟨k, hk, rfl, hown, hb, hs, hbx⟩ := hrel
    obtain ⟨A1, c1, rfl⟩ := own_slice hown
    by_cases hlt : k < n
    · have hownH := Lib.hid hown; have hbH := Lib.hid hb; have hbxH := Lib.hid hbx
      clear hown hb hbx
      go_wp2_with (at_builtin; refine wpList_app (s := .tmp 30) (x := .tmp 32) _ tiL (hownH.out.alloc _) (rd_new1 _ (.int .i64 k) 3) (ints_one (l := [(k : Int)])) (by omega) (by omega) (by simp; omega) rfl rfl rfl rfl ?_)
      intro v' w5 hown5 hg5 _
      have hne : ∀ g, (some g : Option Nat) = (Value.slice A1 k c1).ownBlock → w.heap.size + 1 ≤ g := fun g e => (hownH.out.lt g e.symm).1
      have hb5 : Below w.heap.size w w5 := (hbH.out.alloc hbH.out.size _).grown hg5 (by simp; omega) (fun g e => by have := hne g e.symm; omega)
      have hbx5 : Boxed w5 w.heap.size 23 (.slice B n cb) := (hbxH.out.alloc _).kept hg5 (fun e => by have := hne _ e; omega)
      have hs5 := hg5.size
      simp only [World.size_alloc] at hs5
      have h1 := Lib.hid hown5; have h2 := Lib.hid hb5; have h3 := Lib.hid hbx5
      clear hown5 hb5 hbx5 hg5 hne
      go_wp2
      go_roundw
      case rel => exact ⟨k + 1, by omega, by go_num, by rw [List.range_succ, natI_snocL]; simpa [ints] using h1.out, h2.out, by omega, h3.out⟩
      case measure => simp [intOf]; omega
    · obtain rfl : k = n := by omega
      have hcmp : CmpOk Try.prog 14 #[.pointer (some ⟨w.heap.size, 0, none⟩)] (fun i j => cmpI (zs.getD j 0) (zs.getD i 0)) (fun i => zs.getD i 0) k (w.heap.size + 1) wr :=
        ⟨fun x y W hx hy hB => HC.out x y W (hb.trans (hB.mono (by omega))) ((hB.cell (p := ⟨w.heap.size, 0, none⟩) (Nat.lt_succ_self _)).trans hbx.cell) hx hy, fun x y => cmpI_neg⟩
      have HS := Lib.hid (sort_any 14 #[.pointer (some ⟨w.heap.size, 0, none⟩)] _ (fun i => zs.getD i 0) A1 k c1 (w.heap.size + 1) (List.range k) wr hown (List.Perm.refl _) (by omega) entB2 hcmp)
      have hbH := Lib.hid hb; have hbxH := Lib.hid hbx
      have cx := hbx.cell
      clear hown hb hbx hcmp HC
      go_wp2_with fail
      refine HS.out.mono ?_
      rintro _ w3 ⟨rfl, y, hp, hS, hown, hb3⟩
      have hbw3 := hbH.out.trans (hb3.mono (by omega))
      have hs3 := hb3.size
      have hmm := @run_makeMap Try.prog
      have hm0 := Lib.hid (show BMap (w3.alloc (.map #[] 0)) w3.heap.size 0 (fun _ => none) from NMap.made w3)
      have hown0 := Lib.hid (hown.alloc (.map #[] 0))
      have hbw0 := Lib.hid (hbw3.alloc hbw3.size (.map #[] 0))
      have hpH := Lib.hid hp; have hSH := Lib.hid hS
      have hylH := Lib.hid (show y.length = k by simpa using hp.length_eq)
      have hgm := Lib.hid (fun g (e : (Value.slice A1 k c1).ownBlock = some g) => (hown.lt g e).2)
      clear hown hb3 hbw3 HS hbH hbxH cx hp hS
      obtain ⟨mb, hmb⟩ : ∃ mb, w3.heap.size = mb := ⟨_, rfl⟩
      rw [hmb] at hm0 hgm
      go_wp2
      go_loopw [10, 12, 41] (fun g _ i wx => ∃ (j G s : Nat) (f : Int → Option Int), j ≤ k ∧ i = .int .i64 j ∧ g = .int .u32 (G : Int) ∧ GdI xs y k j G ∧ BMap wx mb s f ∧ Bs f s (wdsF xs y j) ∧ s ≤ j ∧ wx.ownsRow (w.heap.size + 1) 3 1 (.slice A1 k c1) k (ints .i64 (natI y)) ∧ Below w.heap.size w wx) (fun _ _ i _ => k - (intOf i).toNat)
      case atStart => exact ⟨0, 0, 0, _, Nat.zero_le _, rfl, rfl, GdI.start k, hm0.out, Bs.start, Nat.le_refl _, hown0.out, hbw0.out⟩
      case round =>
        clear hm0 hown0 hbw0
        obtain ⟨j, G, s, f, hj, rfl, rfl, hI, hm, hB, hsj, hown, hb⟩ := hrel
        by_cases hjk : j < k
        · obtain ⟨g, rfl, hBg, hgl, hcy⟩ := own_at hown hjk
          obtain ⟨hni, hin⟩ := nodup_take hpH.out hjk
          have htk := Lib.hid (fun hs => hI.take hatH.out hpH.out hjk hs)
          have hsk := Lib.hid (fun hs => hI.skip (show j < y.length by rw [hylH.out]; exact hjk) hs (by
            cases hb : G.testBit (y.getD j 0)
            · rfl
            · exact absurd (hI.bits _ hb) hni))
          have hwds := Lib.hid (wdsF_succ (ws := xs) (y := y) (k := j) (by rw [hylH.out]; exact hjk))
          have hGlt := hI.lt
          have hIH := Lib.hid hI
          obtain ⟨ba, oa, rfl, hba, hcx⟩ := (hraH.out.later hb).wd hin
          have hat := hatH.out (y.getD j 0)
          have hBb := hB
          generalize hv : y.getD j 0 = v at *
          have hvH := Lib.hid hv
          generalize xs.getD v 0 = z at *
          have HA := Lib.hid (add_any mb s z f (wdsF xs y j) wr hm hB hat (by omega))
          have hp2 : 2 ^ v < 2 ^ 10 := Nat.pow_lt_pow_right (by omega) (by omega)
          have hG10 : G < 1024 := Nat.lt_of_lt_of_le hGlt (Nat.pow_le_pow_right (n := 2) (by omega) hn)
          have h2v := two_pow_u32 v (by omega)
          have h2i : ((2 ^ v : Nat) : Int) = (2 : Int) ^ v := by simp
          have hor := u32_or_nat G (2 ^ v) (by omega) (by omega)
          rw [h2i] at hor h2v
          have hownH := Lib.hid hown; have hbH := Lib.hid hb; have hBbH := Lib.hid hBb; have hmlt := hm.lt
          clear hI hm hB hown hb hv hni hBb
          go_wp2_with fail
          refine HA.out.mono ?_
          rintro _ w' ⟨bo, f', s', rfl, hm', hB', ⟨hs', hbo⟩, ht⟩
          have hbo2 := add_bo hBbH.out hB'
          rw [← hbo] at hbo2
          have hb2 := Lib.hid (hbH.out.grown ht.grown hbH.out.size (fun g e => by cases e; have := hgm.out; omega))
          have hown2 := Lib.hid (hownH.out.kept ht.grown (.inr fun e => by
            have := hgm.out mb e
            omega))
          have hmH := Lib.hid hm'; have hB'H := Lib.hid hB'; rw [← hwds.out] at hB'H
          clear hm' hB' hbo ht HA hBbH hbH hownH hwds
          cases hsp : Sp (wdsF xs y j) z
          · rw [hsp] at hbo2
            subst hbo2
            have hnx := Lib.hid (htk.out hsp)
            clear hsp htk hsk
            go_wp2
            go_roundw
            case rel => exact ⟨j + 1, G ||| 2 ^ v, s', f', by omega, by go_num, rfl, hnx.out, hmH.out, hB'H.out, by omega, hown2.out, hb2.out⟩
            case measure => simp [intOf]; omega
          · rw [hsp] at hbo2
            subst hbo2
            have hnx := Lib.hid (hsk.out hsp)
            clear hsp htk hsk
            go_wp2
            go_roundw
            case rel => exact ⟨j + 1, G, s', f', by omega, by go_num, rfl, hnx.out, hmH.out, hB'H.out, by omega, hown2.out, hb2.out⟩
            case measure => simp [intOf]; omega
        · obtain rfl : j = k := by omega
          have hIH := Lib.hid hI; have hbH := Lib.hid hb
          clear hI hm hB hown hb
          go_wp2
          go_ret2
          exact ⟨G, y, rfl, hIH.out, hpH.out, hSH.out, hbH.out⟩
end Go.Proofs.Ytglbabcefanooaa
