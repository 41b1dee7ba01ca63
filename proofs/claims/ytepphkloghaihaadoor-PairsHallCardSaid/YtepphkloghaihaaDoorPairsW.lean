/- PairsBest, PairsHall, PairsKonig: the walks; ref: Covers. -/
import Derived.Test.YtepphkloghaihaaDoorBerMost
import Derived.Test.YtepphkloghaihaaDoorBerLawC
namespace Go.Proofs.YtepphkloghaihaaDoor
open Go.RowKit Go.Shelf

theorem own_slice2 {w : World} {b e s n : Nat} {v : Value} {xs : List Value} (h : w.ownsRow b e s v n xs) : ∃ A c, v = .slice A n c ∧ n ≤ c := by
  rcases h.2 with ⟨rfl, rfl⟩ | ⟨g, cap, cur, rfl, _, _, h1, _⟩
  · exact ⟨none, 0, rfl, Nat.le_refl _⟩
  · exact ⟨_, cap, rfl, h1⟩
set_option maxHeartbeats 1600000 in
theorem covers_any (A : Option Addr) (len cap : Nat) (ns : List Nat) (m r : Nat) (w : World) (hr : Rd w A len 1 (wds ns)) (hl : len ≤ 8) (hm : m < 4294967296) (hr8 : r < 256) (hns : ∀ i, ns.getD i 0 < 256)
    (hcov : ∀ i, i < len → m.testBit i = false → andN (ns.getD i 0) r = 0) :
    Calls Tryd.prog 14 #[.slice A len cap, .int .u32 m, .int .u32 r] w fun e w' => e = .returned (.bool true) ∧ w = w' := by
  have hrH := Lib.hid hr; have hnsH := Lib.hid hns; have hcH := Lib.hid hcov
  clear hr hns hcov
  go_enter Tryd.func14, Tryd.ntmps14
  go_wp2
  go_loop [7, 8, 11] (fun _ _ i => ∃ k : Nat, k ≤ len ∧ i = .int .i64 k) (fun _ _ i => len - (intOf i).toNat)
  case atStart => exact ⟨0, Nat.zero_le _, rfl⟩
  case round =>
    obtain ⟨k, hk, rfl⟩ := hrel
    by_cases hlt : k < len
    · obtain ⟨b, o, rfl, hab, hc⟩ := hrH.out.wd hlt
      have hcv := hcH.out k hlt
      have h2 := hnsH.out k
      generalize ns.getD k 0 = x at *
      have HB := Lib.hid (fun W => bit_any m k W hm (by omega))
      have hand : bits .andNot .u32 (x : Int) (r : Int) = ((andN x r : Nat) : Int) := u32_andNot_nat x r (by omega) (by omega)
      cases hb : m.testBit k
      · rw [hb] at HB
        rw [hcv hb] at hand
        clear hcv hb
        go_wp2_with fail
        refine (HB.out _).mono ?_
        rintro e w1 ⟨rfl, rfl⟩
        go_wp2
        go_round
        case rel => exact ⟨k + 1, by omega, by go_num⟩
        case measure => simp [intOf]; omega
      · rw [hb] at HB
        clear hcv hb hand
        go_wp2_with fail
        refine (HB.out _).mono ?_
        rintro e w1 ⟨rfl, rfl⟩
        go_wp2
        go_round
        case rel => exact ⟨k + 1, by omega, by go_num⟩
        case measure => simp [intOf]; omega
    · obtain rfl : k = len := by omega
      go_wp2
      go_ret
      exact ⟨rfl, rfl⟩
section
variable (A : Option Addr) (len cap : Nat) (ns : List Nat) (w : World)
set_option maxHeartbeats 1600000 in
theorem pairsBest_any (B : Option Addr) (lm cm : Nat) (ms : List Int) (hr : Rd w A len 1 (wds ns)) (hl : len ≤ 9223372036854775807) (hcap : len ≤ cap) (hcap2 : cap ≤ 9223372036854775807) (hrm : Rd w B lm 1 (ints .i64 ms)) (hlm : lm ≤ 9223372036854775807) (hcm : lm ≤ cm) (htb : Tb w) (hg : 0 < w.heap.size) :
    Calls Tryd.prog 3 #[.slice A len cap, .slice B lm cm] w fun e w' => e = .returned (.bool true) ∧ Below w.heap.size w w' := by
  have hel : ns.length = len := by simpa [wds] using hr.1
  have helm : ms.length = lm := by simpa [ints] using hrm.1
  have hrmH := Lib.hid hrm
  clear hrm
  by_cases hok : bchk ns = 0
  · have hB := bchk_ok.1 hok
    have h8 : len ≤ 8 := by rw [← hel]; exact hB.1
    have H1 := Lib.hid (most_ok A len cap ns w hr hB hcap hcap2 htb hg)
    have hrH := Lib.hid hr; have helH := Lib.hid hel; have hokH := Lib.hid hok; have hBH := Lib.hid hB; have helmH := Lib.hid helm
    clear hr hel hok htb hB helm
    go_enter Tryd.func3, Tryd.ntmps3
    go_wp2_with fail
    refine H1.out.mono ?_
    rintro e w1 ⟨v, l, rfl, hown, hPg, hMx, hb1⟩
    obtain ⟨A2, c2, rfl, hc2⟩ := own_slice2 hown
    have hR := Rd.of_own hown
    have HW := Lib.hid (words_any A len cap ns w1 (hrH.out.later hb1) hl)
    rw [hokH.out] at HW
    have HP := Lib.hid (pairing_any A A2 len cap len c2 ns l w1 (hrH.out.later hb1) hR (by omega) hc2 hBH.out.at)
    have HM := Lib.hid (pairing_any A B len cap lm cm ns ms w1 (hrH.out.later hb1) (hrmH.out.later hb1) hlm hcm hBH.out.at)
    have HK := Lib.hid (paired_any A2 len c2 l w1 hR (by omega))
    have HK2 := Lib.hid (paired_any B lm cm ms w1 (hrmH.out.later hb1) hlm)
    have hPgH := Lib.hid hPg; have hMxH := Lib.hid hMx; have hb1H := Lib.hid hb1
    have hle := prd_le l len
    have hle2 := prd_le ms lm
    clear hown hR hPg hMx hb1 H1
    dsimp only
    go_wp2_with fail
    refine HW.out.mono ?_
    rintro e w2 ⟨rfl, rfl⟩
    go_wp2_with fail
    refine HP.out.mono ?_
    rintro e w3 ⟨⟨b, rfl, hbI⟩, rfl⟩
    obtain rfl : b = true := hbI.2 hPgH.out
    clear hbI
    go_wp2_with fail
    refine HM.out.mono ?_
    rintro e w3 ⟨⟨b, rfl, hbI⟩, rfl⟩
    cases b
    · clear hbI
      go_wp2
      go_ret
      exact ⟨rfl, hb1H.out⟩
    · have hPm := hbI.1 rfl
      have hlen : lm = len := by rw [← helmH.out, hPm.1, helH.out]
      subst hlen
      have hfin := berge hBH.out.at (by rw [helH.out]; exact h8) hMxH.out hPm
      rw [helH.out] at hfin
      clear hbI hPm HM HP
      generalize prd ms lm = p at *
      generalize prd l lm = q at *
      go_wp2_with fail
      refine HK2.out.mono ?_
      rintro e w3 ⟨rfl, rfl⟩
      go_wp2_with fail
      refine HK.out.mono ?_
      rintro e w3 ⟨rfl, rfl⟩
      have hpq : (p : Int) ≤ q := by omega
      go_wp2
      go_ret
      exact ⟨rfl, hb1H.out⟩
  · have H1 := Lib.hid (most_bad A len cap ns w hr hl hok)
    have hb : (bchk ns == 0) = false := beq_eq_false_iff_ne.2 hok
    have hb2 : (bchk ns != 0) = true := bne_iff_ne.2 hok
    have hrH := Lib.hid hr; have hbH := Lib.hid hb
    clear hr hok hb
    go_enter Tryd.func3, Tryd.ntmps3
    go_wp2_with fail
    refine H1.out.mono ?_
    rintro e w1 ⟨rfl, hb1⟩
    have HT := Lib.hid (words_any A len cap ns w1 (hrH.out.later hb1) hl)
    rw [hbH.out] at HT
    go_wp2_with fail
    refine HT.out.mono ?_
    rintro e w3 ⟨rfl, rfl⟩
    go_wp2
    go_ret
    exact ⟨rfl, hb1⟩
set_option maxHeartbeats 1600000 in
theorem pairsHall_any (hr : Rd w A len 1 (wds ns)) (hl : len ≤ 9223372036854775807) (hcap : len ≤ cap) (hcap2 : cap ≤ 9223372036854775807) (htb : Tb w) (hg : 0 < w.heap.size) :
    Calls Tryd.prog 4 #[.slice A len cap] w fun e w' => e = .returned (.bool true) ∧ Below w.heap.size w w' := by
  have hel : ns.length = len := by simpa [wds] using hr.1
  by_cases hok : bchk ns = 0
  · have hB := bchk_ok.1 hok
    have h8 : len ≤ 8 := by rw [← hel]; exact hB.1
    have H1 := Lib.hid (most_ok A len cap ns w hr hB hcap hcap2 htb hg)
    have hrH := Lib.hid hr; have helH := Lib.hid hel; have hokH := Lib.hid hok; have hBH := Lib.hid hB; have htbH := Lib.hid htb
    clear hr hel hok htb hB
    go_enter Tryd.func4, Tryd.ntmps4
    go_wp2_with fail
    refine H1.out.mono ?_
    rintro e w1 ⟨v, l, rfl, hown, hPg, hMx, hb1⟩
    have H2 := Lib.hid (Short_ok A len cap ns w1 (hrH.out.later hb1) hBH.out (htbH.out.below hg hb1) (by have := hb1.size; omega))
    obtain ⟨A2, c2, rfl, hc2⟩ := own_slice2 hown
    have hR := Lib.hid (Rd.of_own hown)
    have hMxH := Lib.hid hMx; have hb1H := Lib.hid hb1
    have hle := prd_le l len
    clear hown hPg hMx hb1 H1
    dsimp only
    go_wp2_with fail
    refine H2.out.mono ?_
    rintro e w2 ⟨b, rfl, hb, hmax, hb2⟩
    have hbb := hb1H.out.trans (hb2.mono hb1H.out.size)
    have h28 : 2 ^ len ≤ 2 ^ 8 := Nat.pow_le_pow_right (by omega) h8
    have hfl := frW_lt hBH.out.at b len
    have hh := hall helH.out h8 hMxH.out hb hmax
    unfold dfW at hh
    have HW := Lib.hid (words_any A len cap ns w2 (hrH.out.later hbb) hl)
    rw [hokH.out] at HW
    have HK := Lib.hid (paired_any A2 len c2 l w2 (hR.out.later hb2) (by omega))
    have HS := Lib.hid (fun W => size_any b W (by omega))
    have HF := Lib.hid (friends_any A len cap ns b w2 (hrH.out.later hbb) h8 (by omega) hBH.out.at)
    have HS2 := Lib.hid (fun W => size_any (frW ns b len) W (by omega))
    rw [popc10 (by omega)] at HS HS2
    have hbbH := Lib.hid hbb
    have p1 := popc_le 8 b
    have p2 := popc_le 8 (frW ns b len)
    clear hmax hb2 hbb
    generalize frW ns b len = f at *
    generalize popc 8 b = pb at *
    generalize popc 8 f = pf at *
    generalize prd l len = q at *
    have hw1 : IntKind.i64.wrap ((len : Int) - q) = (len : Int) - q := IntWalk.i64_in _ (by omega)
    have hw2 : IntKind.i64.wrap ((pb : Int) - pf) = (pb : Int) - pf := IntWalk.i64_in _ (by omega)
    have hhH := Lib.hid (show ((len : Int) - q == (pb : Int) - pf) = true by rw [hh]; simp)
    clear hh
    dsimp only
    go_wp2_with fail
    refine HW.out.mono ?_
    rintro e w3 ⟨rfl, rfl⟩
    go_wp2_with fail
    refine HK.out.mono ?_
    rintro e w3 ⟨rfl, rfl⟩
    go_wp2_with fail
    refine (HS.out _).mono ?_
    rintro e w3 ⟨rfl, rfl⟩
    go_wp2_with fail
    refine HF.out.mono ?_
    rintro e w3 ⟨rfl, rfl⟩
    go_wp2_with fail
    refine (HS2.out _).mono ?_
    rintro e w3 ⟨rfl, rfl⟩
    have hh := hhH.out
    go_wp2
    go_ret
    exact ⟨rfl, hbbH.out⟩
  · have H1 := Lib.hid (most_bad A len cap ns w hr hl hok)
    have hb : (bchk ns == 0) = false := beq_eq_false_iff_ne.2 hok
    have hb2 : (bchk ns != 0) = true := bne_iff_ne.2 hok
    have hrH := Lib.hid hr; have hbH := Lib.hid hb; have hokH := Lib.hid hok
    clear hr hok hb
    go_enter Tryd.func4, Tryd.ntmps4
    go_wp2_with fail
    refine H1.out.mono ?_
    rintro e w1 ⟨rfl, hb1⟩
    have H2 := Lib.hid (Short_bad A len cap ns w1 (hrH.out.later hb1) hl hokH.out)
    go_wp2_with fail
    refine H2.out.mono ?_
    rintro e w2 ⟨rfl, hb3⟩
    have hbb := hb1.trans (hb3.mono hb1.size)
    have HT := Lib.hid (words_any A len cap ns w2 (hrH.out.later hbb) hl)
    rw [hbH.out] at HT
    clear H1 H2
    go_wp2_with fail
    refine HT.out.mono ?_
    rintro e w3 ⟨rfl, rfl⟩
    go_wp2
    go_ret
    exact ⟨rfl, hbb⟩
set_option maxHeartbeats 1600000 in
theorem pairsKonig_any (hr : Rd w A len 1 (wds ns)) (hl : len ≤ 9223372036854775807) (hcap : len ≤ cap) (hcap2 : cap ≤ 9223372036854775807) (htb : Tb w) (hg : 0 < w.heap.size) :
    Calls Tryd.prog 5 #[.slice A len cap] w fun e w' => e = .returned (.bool true) ∧ Below w.heap.size w w' := by
  have hel : ns.length = len := by simpa [wds] using hr.1
  by_cases hok : bchk ns = 0
  · have hB := bchk_ok.1 hok
    have h8 : len ≤ 8 := by rw [← hel]; exact hB.1
    have H1 := Lib.hid (most_ok A len cap ns w hr hB hcap hcap2 htb hg)
    have hrH := Lib.hid hr; have helH := Lib.hid hel; have hokH := Lib.hid hok; have hBH := Lib.hid hB; have htbH := Lib.hid htb
    clear hr hel hok htb hB
    go_enter Tryd.func5, Tryd.ntmps5
    go_wp2_with fail
    refine H1.out.mono ?_
    rintro e w1 ⟨v, l, rfl, hown, hPg, hMx, hb1⟩
    have H2 := Lib.hid (Cover_ok A len cap ns w1 (hrH.out.later hb1) hBH.out (htbH.out.below hg hb1) (by have := hb1.size; omega))
    obtain ⟨A2, c2, rfl, hc2⟩ := own_slice2 hown
    have hR := Lib.hid (Rd.of_own hown)
    have hMxH := Lib.hid hMx; have hb1H := Lib.hid hb1; have hPgH := Lib.hid hPg
    have hle := prd_le l len
    clear hown hPg hMx hb1 H1
    dsimp only
    go_wp2_with fail
    refine H2.out.mono ?_
    rintro e w2 ⟨b, rfl, hb, hmin, hb2⟩
    have hbb := hb1H.out.trans (hb2.mono hb1H.out.size)
    have h28 : 2 ^ len ≤ 2 ^ 8 := Nat.pow_le_pow_right (by omega) h8
    have hfl := frW_lt hBH.out.at (andN (2 ^ len - 1) b) len
    have hh := konig helH.out h8 hMxH.out hb hmin
    unfold cvW at hh
    have hcv := fun i hi hbi => covered (ns := ns) (n := len) hBH.out.at h8 hb i hi hbi
    have HW := Lib.hid (words_any A len cap ns w2 (hrH.out.later hbb) hl)
    rw [hokH.out] at HW
    have HK := Lib.hid (paired_any A2 len c2 l w2 (hR.out.later hb2) (by omega))
    have HP := Lib.hid (pairing_any A A2 len cap len c2 ns l w2 (hrH.out.later hbb) (hR.out.later hb2) (by omega) hc2 hBH.out.at)
    have HC := Lib.hid (covers_any A len cap ns b (frW ns (andN (2 ^ len - 1) b) len) w2 (hrH.out.later hbb) h8 (by omega) hfl hBH.out.at hcv)
    have HS := Lib.hid (fun W => size_any b W (by omega))
    have HS2 := Lib.hid (fun W => size_any (frW ns (andN (2 ^ len - 1) b) len) W (by omega))
    rw [popc10 (by omega)] at HS HS2
    have hbbH := Lib.hid hbb
    have p1 := popc_le 8 b
    have p2 := popc_le 8 (frW ns (andN (2 ^ len - 1) b) len)
    clear hmin hb2 hbb hcv
    generalize frW ns (andN (2 ^ len - 1) b) len = f at *
    generalize popc 8 b = pb at *
    generalize popc 8 f = pf at *
    generalize prd l len = q at *
    have hw2 : IntKind.i64.wrap ((pb : Int) + pf) = (pb : Int) + pf := IntWalk.i64_in _ (by omega)
    have hhH := Lib.hid (show ((q : Int) == (pb : Int) + pf) = true by rw [hh]; simp)
    clear hh
    dsimp only
    go_wp2_with fail
    refine HW.out.mono ?_
    rintro e w3 ⟨rfl, rfl⟩
    go_wp2_with fail
    refine HP.out.mono ?_
    rintro e w3 ⟨⟨b2, rfl, hbI⟩, rfl⟩
    obtain rfl : b2 = true := hbI.2 hPgH.out
    clear hbI HP
    go_wp2_with fail
    refine HC.out.mono ?_
    rintro e w3 ⟨rfl, rfl⟩
    go_wp2_with fail
    refine HK.out.mono ?_
    rintro e w3 ⟨rfl, rfl⟩
    go_wp2_with fail
    refine (HS.out _).mono ?_
    rintro e w3 ⟨rfl, rfl⟩
    go_wp2_with fail
    refine (HS2.out _).mono ?_
    rintro e w3 ⟨rfl, rfl⟩
    have hh := hhH.out
    go_wp2
    go_ret
    exact ⟨rfl, hbbH.out⟩
  · have H1 := Lib.hid (most_bad A len cap ns w hr hl hok)
    have hb : (bchk ns == 0) = false := beq_eq_false_iff_ne.2 hok
    have hb2 : (bchk ns != 0) = true := bne_iff_ne.2 hok
    have hrH := Lib.hid hr; have hbH := Lib.hid hb; have hokH := Lib.hid hok
    clear hr hok hb
    go_enter Tryd.func5, Tryd.ntmps5
    go_wp2_with fail
    refine H1.out.mono ?_
    rintro e w1 ⟨rfl, hb1⟩
    have H2 := Lib.hid (Cover_bad A len cap ns w1 (hrH.out.later hb1) hl hokH.out)
    go_wp2_with fail
    refine H2.out.mono ?_
    rintro e w2 ⟨rfl, hb3⟩
    have hbb := hb1.trans (hb3.mono hb1.size)
    have HT := Lib.hid (words_any A len cap ns w2 (hrH.out.later hbb) hl)
    rw [hbH.out] at HT
    clear H1 H2
    go_wp2_with fail
    refine HT.out.mono ?_
    rintro e w3 ⟨rfl, rfl⟩
    go_wp2
    go_ret
    exact ⟨rfl, hbb⟩
end
end Go.Proofs.YtepphkloghaihaaDoor
