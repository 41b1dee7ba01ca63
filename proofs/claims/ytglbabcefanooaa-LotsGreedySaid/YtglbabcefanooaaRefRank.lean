/- teamsterref.Rank. -/
import Derived.Test.YtglbabcefanooaaBMapU
namespace Go.Proofs.Ytglbabcefanooaa
open Go.RowKit Go.Maps

theorem pw_all (r : Nat) : ∃ Pw : Nat → Nat, Pw 0 = 1 ∧ (∀ d, Pw (d + 1) = 2 * Pw d) ∧ (∀ d, 1 ≤ Pw d) ∧ 2 ^ r = Pw r :=
  ⟨fun d => 2 ^ d, rfl, fun d => by show 2 ^ (d + 1) = 2 * 2 ^ d; rw [Nat.pow_succ]; omega, fun d => Nat.pow_pos (by omega), rfl⟩
set_option maxRecDepth 100000 in
set_option maxHeartbeats 1600000 in
theorem refRank_any (A : Option Addr) (n cap : Nat) (ns : List Nat) (a : Nat) (w : World) (hr : Rd w A n 1 (wds ns)) (hok : LOk ns) (ha : a = 2 ^ n - 1) :
    Calls Try.prog 6 #[.slice A n cap, .int .u32 (a : Int)] w fun e w' => e = .returned (.int .i64 (rkS ns n a : Nat)) ∧ Below w.heap.size w w' := by
  have hel : ns.length = n := by simpa [wds] using hr.1
  have hn : n ≤ 10 := by rw [← hel]; exact hok.1
  have hp2 : 2 ^ n ≤ 2 ^ 10 := Nat.pow_le_pow_right (by omega) hn
  have ha2 : a < 2 ^ n := by have := Nat.pow_pos (n := n) (show 0 < 2 by omega); omega
  have ha10 : a < 1024 := by omega
  have HS := Lib.hid (fun s (hs : s < 1024) W (h : Below w.heap.size w W) => sum_any A n cap ns s W (hr.later h) hok hs)
  have hatH := Lib.hid hok.at
  have hcard := Lib.hid (fun (p : Nat → Bool) => rank_card (n := n) (p := p) hok.at)
  rw [← ha] at hcard
  have hpr := Lib.hid (fun t s => sub_pred n t s a ha2)
  have hmm := @run_makeMap Try.prog
  have hm0 := Lib.hid (UMap.made w)
  have hb0 := Lib.hid ((Below.refl _ w).alloc (Nat.le_refl _) (.map #[] 0))
  have hrk : rkS ns n a ≤ 10 := Nat.le_trans (rkS_size n) (Nat.le_trans (popc_le n a) hn)
  obtain ⟨Pw, hP0, hPS, hPP, hPr⟩ := pw_all (rkS ns n a)
  have hcard2 := Lib.hid (fun (p : Nat → Bool) h1 h2 => (hcard.out p h1 h2).trans hPr)
  have hP0 := Lib.hid hP0; have hPS := Lib.hid hPS; have hPP := Lib.hid hPP
  have hPB : ∀ d, d ≤ 10 → Pw d ≤ 1024 := fun d hd => by
    have : ∀ d, Pw d = 2 ^ d := fun d => by
      induction d with
      | zero => exact hP0.out
      | succ d ih => rw [hPS.out, ih, Nat.pow_succ]; omega
    rw [this]
    exact Nat.le_trans (Nat.pow_le_pow_right (by omega) hd) (by decide)
  have hPB := Lib.hid (fun d (hd : d ≤ 10) => hPB d hd)
  generalize rkS ns n a = r at *
  clear hr hok hel hp2 hcard hPr ha
  go_enter Try.func6, Try.ntmps6
  go_wp2
  go_loopw [6, 7, 8] (fun m q _ wr => ∃ (s c nb : Nat) (p : Nat → Bool), m = .int .i64 c ∧ q = .int .u32 (s : Int) ∧ s &&& a = s ∧ s < 1024 ∧ nb + s ≤ 1023 ∧ UMap wr w.heap.size nb p ∧ card p = c ∧ (∀ x, x < 1024 → p x = true → ∃ t, t &&& a = t ∧ sumW ns t n = x) ∧ (∀ t, s < t → t &&& a = t → p (sumW ns t n) = true) ∧ Below w.heap.size w wr) (fun _ q _ _ => (intOf q).toNat)
  case atStart => exact ⟨a, 0, 0, fun _ => false, rfl, rfl, Nat.and_self a, ha10, by omega, hm0.out, by simp [card], fun x _ h => by (cases h), fun t h1 h2 => absurd (Nat.and_le_right (n := t) (m := a)) (by omega), hb0.out⟩
  case round =>
    clear hm0 hb0
    obtain ⟨s, c, nb, p, rfl, rfl, hsa, hs10, hnb, hm, hc, hwhy, hall, hb⟩ := hrel
    have HS1 := Lib.hid (HS.out s hs10 wr hb)
    have hxl := sumW_lt hatH.out s n
    have hlk := hm.look hxl
    have hcb : c ≤ 1024 := by
      rw [← hc]; unfold card
      exact Nat.le_trans (List.length_filter_le _ _) (by simp)
    have hmlt := hm.lt
    have hmH := Lib.hid hm; have hbH := Lib.hid hb; have hcH := Lib.hid hc; have hwhyH := Lib.hid hwhy; have hallH := Lib.hid hall; have hsaH := Lib.hid hsa
    obtain ⟨x, hx⟩ : ∃ x, sumW ns s n = x := ⟨_, rfl⟩
    have hxH := Lib.hid hx
    rw [hx] at HS1 hxl hlk
    clear hm hb hc hwhy hall hsa hx
    have hw1 : s ≠ 0 → IntKind.u32.wrap ((s : Int) - 1) = ((s - 1 : Nat) : Int) := fun h => by rw [IntWalk.u32_in _ (by omega)]; omega
    have hand := u32_and_nat (s - 1) a (by omega) (by omega)
    have hle : (s - 1) &&& a ≤ s - 1 := Nat.and_le_left
    have hid2 := Lib.hid (show ((s - 1) &&& a) &&& a = (s - 1) &&& a by rw [Nat.and_assoc, Nat.and_self])
    have hnext := Lib.hid (fun (p' : Nat → Bool) (h : ∀ t, s ≤ t → t &&& a = t → p' (sumW ns t n) = true) => show ∀ t, (s - 1) &&& a < t → t &&& a = t → p' (sumW ns t n) = true from fun t h1 h2 => by
      rcases Nat.lt_or_ge t s with h3 | h3
      · have := hpr.out t s h2 hsaH.out h3; omega
      · exact h t h3 h2)
    generalize hs' : (s - 1) &&& a = s' at *
    clear hs'
    cases hpx : p x
    · rw [hpx] at hlk
      have hc2 := Lib.hid (show card (updP p x) = c + 1 by rw [card_upd hxl hpx, hcH.out])
      have hwhy2 := Lib.hid (show ∀ z, z < 1024 → updP p x z = true → ∃ t, t &&& a = t ∧ sumW ns t n = z from fun z hz h => by
        unfold updP at h
        rw [Bool.or_eq_true, beq_iff_eq] at h
        rcases h with h | rfl
        · exact hwhyH.out z hz h
        · exact ⟨s, hsaH.out, hxH.out⟩)
      have hall2 := Lib.hid (show ∀ t, s ≤ t → t &&& a = t → updP p x (sumW ns t n) = true from fun t h1 h2 => by
        unfold updP
        rcases Nat.lt_or_ge s t with h3 | h3
        · rw [hallH.out t h3 h2]; rfl
        · obtain rfl : t = s := by omega
          rw [hxH.out]; simp)
      have hwc : IntKind.i64.wrap ((c : Int) + 1) = ((c + 1 : Nat) : Int) := by rw [IntWalk.i64_in _ (by omega)]; omega
      clear hpx
      go_wp2_with fail
      refine HS1.out.mono ?_
      rintro _ w1 ⟨rfl, rfl⟩
      go_wp2_with (at_mapUpdate; refine wp_umap_put _ rfl _ _ _ rfl rfl hmH.out (by unfold maxLen; omega) hxl rfl rfl ?_)
      intro w2 hm2 ht2
      have hbF := Lib.hid (hbH.out.grown ht2.grown hbH.out.size (fun g e => by cases e; exact Nat.le_refl _))
      have hm2H := Lib.hid hm2
      clear hm2 ht2 hlk
      by_cases h0 : s = 0
      · subst h0
        have hcp := hcard2.out _ hwhy2.out (fun t ht => hall2.out t (Nat.zero_le _) ht)
        rw [hc2.out] at hcp
        generalize w2 = WW at *
        have hcpZ : (c : Int) + 1 = (Pw r : Nat) := by omega
        clear hw1
        rw [hcp] at hwc
        go_wp2
        (try rw [show ((0 : Nat) : Int) = 0 from rfl])
        go_loopw [6, 9] (fun m q wx => ∃ j : Nat, j ≤ r ∧ m = .int .i64 (Pw (r - j) : Nat) ∧ q = .int .i64 j ∧ wx = WW) (fun _ q _ => r - (intOf q).toNat)
        case atStart => exact ⟨0, Nat.zero_le _, by rw [Nat.sub_zero], rfl, rfl⟩
        case round =>
          obtain ⟨j, hj, rfl, rfl, rfl⟩ := hrel
          by_cases hjr : j < r
          · obtain ⟨d, hd⟩ : ∃ d, r - j = d + 1 := ⟨r - j - 1, by omega⟩
            have hps := hPS.out d
            have hpp := hPP.out d
            have hpb := hPB.out d
            have hdd : r - (j + 1) = d := by omega
            rw [hd, hps]
            have hgt : (1 : Int) < ((2 * Pw d : Nat) : Int) := by omega
            have hq2 : Int.tdiv ((2 * Pw d : Nat) : Int) 2 = (Pw d : Nat) := by rw [Int.tdiv_eq_ediv_of_nonneg (by omega)]; omega
            generalize hE : ((2 * Pw d : Nat) : Int) = E at *
            clear hE
            go_wp2
            go_roundw
            case rel => exact ⟨j + 1, by omega, by rw [hdd], by go_num, by first | rfl | trivial⟩
            case measure => simp [intOf]; omega
          · obtain rfl : j = r := by omega
            have h0 := hP0.out
            rw [Nat.sub_self, h0]
            go_wp2
            go_ret
            exact ⟨rfl, hbF.out⟩
      · have hs0 : (s : Int) ≠ 0 := by omega
        have hw1 := hw1 h0
        have hnx := Lib.hid (hnext.out _ hall2.out)
        clear hall2 hnext
        go_wp2
        go_roundw
        case rel => exact ⟨s', c + 1, nb + 1, _, by go_num, rfl, hid2.out, by omega, by omega, hm2H.out, hc2.out, hwhy2.out, hnx.out, hbF.out⟩
        case measure => simp [intOf]; omega
    · rw [hpx] at hlk
      have hall2 := Lib.hid (show ∀ t, s ≤ t → t &&& a = t → p (sumW ns t n) = true from fun t h1 h2 => by
        rcases Nat.lt_or_ge s t with h3 | h3
        · exact hallH.out t h3 h2
        · obtain rfl : t = s := by omega
          rw [hxH.out]; exact hpx)
      clear hpx
      go_wp2_with fail
      refine HS1.out.mono ?_
      rintro _ w1 ⟨rfl, rfl⟩
      by_cases h0 : s = 0
      · subst h0
        have hcp := hcard2.out _ hwhyH.out (fun t ht => hall2.out t (Nat.zero_le _) ht)
        rw [hcH.out] at hcp
        have hbF := hbH
        generalize wr = WW at *
        subst hcp
        clear hw1
        go_wp2
        (try rw [show ((0 : Nat) : Int) = 0 from rfl])
        go_loopw [6, 9] (fun m q wx => ∃ j : Nat, j ≤ r ∧ m = .int .i64 (Pw (r - j) : Nat) ∧ q = .int .i64 j ∧ wx = WW) (fun _ q _ => r - (intOf q).toNat)
        case atStart => exact ⟨0, Nat.zero_le _, by rw [Nat.sub_zero], rfl, rfl⟩
        case round =>
          obtain ⟨j, hj, rfl, rfl, rfl⟩ := hrel
          by_cases hjr : j < r
          · obtain ⟨d, hd⟩ : ∃ d, r - j = d + 1 := ⟨r - j - 1, by omega⟩
            have hps := hPS.out d
            have hpp := hPP.out d
            have hpb := hPB.out d
            have hdd : r - (j + 1) = d := by omega
            rw [hd, hps]
            have hgt : (1 : Int) < ((2 * Pw d : Nat) : Int) := by omega
            have hq2 : Int.tdiv ((2 * Pw d : Nat) : Int) 2 = (Pw d : Nat) := by rw [Int.tdiv_eq_ediv_of_nonneg (by omega)]; omega
            generalize hE : ((2 * Pw d : Nat) : Int) = E at *
            clear hE
            go_wp2
            go_roundw
            case rel => exact ⟨j + 1, by omega, by rw [hdd], by go_num, by first | rfl | trivial⟩
            case measure => simp [intOf]; omega
          · obtain rfl : j = r := by omega
            have h0 := hP0.out
            rw [Nat.sub_self, h0]
            go_wp2
            go_ret
            exact ⟨rfl, hbF.out⟩
      · have hs0 : (s : Int) ≠ 0 := by omega
        have hw1 := hw1 h0
        have hnx := Lib.hid (hnext.out _ hall2.out)
        clear hall2 hnext
        go_wp2
        go_roundw
        case rel => exact ⟨s', c, nb, _, rfl, rfl, hid2.out, by omega, by omega, hmH.out, hcH.out, hwhyH.out, hnx.out, hbH.out⟩
        case measure => simp [intOf]; omega
end Go.Proofs.Ytglbabcefanooaa
