/- WishRural: the walk. -/
import Derived.Test.YtcmefjfhcdedjaaAllB
import Derived.Test.YtcmefjfhcdedjaaWishLawB
import Derived.Test.YtcmefjfhcdedjaaWishStable
import Derived.BigQuiet
namespace Go.Proofs.Ytcmefjfhcdedjaa
open Go.RowKit

theorem own_fit {W : World} {b e n : Nat} {r : Rw} (h : W.ownsRow b e 1 (rv r) n (ints .i64 r.zs)) (hn : n ≤ 8) : RFit W r ∧ r.len = n ∧ r.zs.length = n := by
  have hl : r.len = n ∧ r.len ≤ r.cap := by
    rcases h.2 with ⟨h1, h2⟩ | ⟨g, cap, cur, h1, _, _, h4, _⟩
    · unfold rv at h1
      injection h1 with _ h1 h3
      omega
    · unfold rv at h1
      injection h1 with _ h1 h3
      omega
  have hz : r.zs.length = n := by simpa [ints] using h.1
  unfold rv at h
  rw [hl.1] at h
  have := Rd.of_own h
  exact ⟨⟨by rw [hl.1]; exact this, by unfold maxLen; omega, hl.2⟩, hl.1, hz⟩
theorem rdr_of {W : World} {b n : Nat} {A : Option Addr} {k cap : Nat} {rs : List Rw} (h : W.ownsRow b 29 1 (.slice A k cap) rs.length (rs.map rv)) (hc : ∀ q ∈ rs, W.ownsRow b 3 1 (rv q) n (ints .i64 q.zs)) (hn : n ≤ 8) : k = rs.length ∧ RdR W A k rs := by
  have hk : k = rs.length := by
    rcases h.2 with ⟨h1, h2⟩ | ⟨g, cap, cur, h1, _⟩
    · injection h1 with _ h1 _
      omega
    · injection h1 with _ h1 _
  subst hk
  exact ⟨rfl, rfl, Rd.of_own h, fun q hq => (own_fit (hc q hq) hn).1⟩
theorem idx_neg {n j : Nat} {zs : List Int} (hl : zs.length = n) : decide (idxOf zs j < 0) = true ↔ ¬ Tk n (mAt zs) j := by
  rw [decide_eq_true_iff]
  unfold idxOf
  constructor
  · intro h ⟨i, hi, e⟩
    have := pos_lt (l := zs) (x := (j : Int)) (p := i) e
    split at h <;> omega
  · intro h
    split
    · rename_i h1
      exact absurd ⟨pos zs j, by omega, pos_at h1⟩ h
    · omega
theorem dec_eq {p q : Bool} (h : p = true ↔ q = true) : p = q := by cases p <;> cases q <;> simp_all
set_option maxHeartbeats 3200000 in
set_option maxRecDepth 100000 in
theorem wishRural_ok (A : Option Addr) (n c : Nat) (l : List Rw) (B : Option Addr) (d : Nat) (r : List Rw) (w : World) (hL : RdR w A n l) (hR : RdR w B n r) (hc : wchk l r = 0) :
    Calls Try.prog 3 #[.agg #[.slice A n c, .slice B n d]] w fun e w' => e = .returned (.bool true) ∧ Below w.heap.size w w' := by
  obtain ⟨h8, _, hokL, hokR⟩ := wchk_ok hc
  rw [hL.1] at hokL hokR h8
  have gs : (w.alloc (.cells #[.slice A n c, .slice B n d] 24)).heap.size = w.heap.size + 1 := by simp
  have gb := (Below.refl _ w).alloc (Nat.le_refl _) (.cells #[.slice A n c, .slice B n d] 24)
  have g0 : (w.alloc (.cells #[.slice A n c, .slice B n d] 24)).cell? ⟨w.heap.size, 0, none⟩ = some (.slice A n c) := by go_simp
  have g1 : (w.alloc (.cells #[.slice A n c, .slice B n d] 24)).cell? ⟨w.heap.size, 1, none⟩ = some (.slice B n d) := by go_simp
  have hLH := Lib.hid hL; have hRH := Lib.hid hR
  have HP := Lib.hid (all_ok A n c l B d r _ (hL.later gb) (hR.later gb) hc)
  have hokLH := Lib.hid hokL; have hokRH := Lib.hid hokR
  have hcb : (wchk l r == 0) = true := by simp [hc]
  clear hL hR hc hokL hokR
  go_enter Try.func3, Try.ntmps3
  go_wp2_with fail
  generalize w.alloc (.cells #[.slice A n c, .slice B n d] 24) = wg at *
  refine HP.out.mono ?_
  rintro e w1 ⟨v, rs, rfl, hov, hcl, hst, hall, hb1⟩
  obtain ⟨Av, cv, rfl⟩ := own_slice hov
  have c0 := below_cell hb1 (by omega) g0
  have c1 := below_cell hb1 (by omega) g1
  have hs1 := hb1.size
  have hbb := gb.trans (hb1.mono (by omega))
  obtain ⟨_, hrd⟩ := rdr_of hov hcl h8
  have hk0 : 0 < rs.length := by
    obtain ⟨F, hF, _⟩ := gs_exists hokLH.out hokRH.out
    obtain ⟨q, hq, _⟩ := hall F hF
    exact List.length_pos_of_mem hq
  have hrdH := Lib.hid hrd; have hstH := Lib.hid hst
  have hlenH := Lib.hid (fun q (hq : q ∈ rs) => (own_fit (hcl q hq) h8).2)
  have hkm : rs.length ≤ 9223372036854775807 := by
    rcases hov.2 with ⟨_, h2⟩ | ⟨g, cap, cur, _, _, _, h4, h5, _⟩
    · omega
    · unfold maxLen at h5; omega
  have HW := Lib.hid (wishes_any A n c l B n d r w1 (hLH.out.later hbb) (hRH.out.later hbb))
  rw [hcb] at HW
  clear HP g0 g1 gb hb1 hov hcl hst hall hrd
  go_wp2_with fail
  refine HW.out.mono ?_
  rintro e w2 ⟨rfl, hb2⟩
  have c0 := below_cell hb2 (by omega) c0
  have hs2 := hb2.size
  have hbb2 := Lib.hid (hbb.trans (hb2.mono (by omega)))
  have hrd2 := Lib.hid (hrdH.out.later hb2)
  have hkz : (((rs.length : Nat) : Int) == 0) = false := by rw [beq_eq_false_iff_ne]; omega
  have hw2 : w.heap.size < w2.heap.size := by omega
  clear HW hb2 hbb hrdH c1
  obtain ⟨k, hk⟩ : ∃ k, k = rs.length := ⟨_, rfl⟩
  rw [← hk] at hrd2 hk0 hkm hkz
  rw [← hk]
  have hkH := Lib.hid hk
  clear hk
  go_wp2
  go_loopw [27] (fun i wr => ∃ p : Nat, p ≤ k ∧ i = .int .i64 p ∧ Below w2.heap.size w2 wr) (fun i _ => k - (intOf i).toNat)
  case atStart => exact ⟨0, Nat.zero_le _, rfl, Below.refl _ _⟩
  case round =>
    obtain ⟨p, hp, rfl, hb⟩ := hrel
    have e0 := below_cell hb hw2 c0
    by_cases hlt : p < k
    · have hmem := rat_mem (l := rs) (k := p) (by rw [← hkH.out]; exact hlt)
      have hlp := hlenH.out _ hmem
      obtain ⟨bv, ov, rfl, hbv, hcv, hfp⟩ := (hrd2.out.later hb).at hlt
      have hmem0 := rat_mem (l := rs) (k := 0) (by rw [← hkH.out]; exact hk0)
      have hlp0 := hlenH.out _ hmem0
      have hfp0 := hrd2.out.2.2 _ hmem0
      have hfpb := hrd2.out.2.2 _ hmem
      have hru := Lib.hid (rural hokLH.out hokRH.out (hstH.out _ hmem) (hstH.out _ hmem0))
      have hp0 : (0 : Int) ≤ p := by omega
      have hpk : (p : Int) < k := by omega
      have hnn : ((n : Int) != (n : Int)) = false := by simp
      have hrpH := Lib.hid hfpb; have hrp0H := Lib.hid hfp0
      have hlpz := hlp.2; have hlp0z := hlp0.2; have hlpl := hlp.1; have hlp0l := hlp0.1
      have hat0 := Lib.hid (fun X (hX : Below w2.heap.size w2 X) => (hrd2.out.later hX).at hk0)
      clear hfp hfp0 hfpb hmem hmem0 hlp hlp0
      generalize rat rs p = q1 at *
      obtain ⟨A1, l1, cc1, zs1⟩ := q1
      generalize rat rs 0 = q0 at *
      obtain ⟨A0, l0, cc0, zs0⟩ := q0
      simp only at hlpz hlp0z hlpl hlp0l
      subst hlpl
      have hlp0l := hlp0l.symm
      subst hlp0l
      go_wp2
      go_loopw [7] (fun i wr => ∃ m : Nat, m ≤ l1 ∧ i = .int .i64 m ∧ Below w2.heap.size w2 wr) (fun i _ => l1 - (intOf i).toNat)
      case atStart => exact ⟨0, Nat.zero_le _, rfl, hb⟩
      case round =>
        clear hcv e0 hb
        obtain ⟨m, hm, rfl, hb⟩ := hrel
        have hbH := Lib.hid hb
        by_cases hlt2 : m < l1
        · obtain ⟨b1, o1, hA1, hb1, hc1⟩ := (hrpH.out.1.later hb).int hlt2
          obtain ⟨b0, o0, hA0, hb0, hc0⟩ := (hrp0H.out.1.later hb).int hlt2
          have C1 := Lib.hid (fun n' => has_of A1 l1 cc1 zs1 (m : Int) (wr.drewN n') (hrpH.out.1.later (below_drewN hb n')) (by omega))
          have C0 := Lib.hid (fun n' => has_of A0 l1 cc0 zs0 (m : Int) (wr.drewN n') (hrp0H.out.1.later (below_drewN hb n')) (by omega))
          obtain ⟨bv', ov', hAv, _, hcv0, _⟩ := hat0.out _ hb
          injection hAv with hAv; injection hAv with r1 r2 _; subst r1 r2
          rw [Nat.add_zero] at hcv0
          have hz1 : decide (zs1.getD m 0 < 0) = decide (zs0.getD m 0 < 0) := dec_eq (by
            have := hru.out.1 m hlt2
            simp only [mAt] at this
            rw [decide_eq_true_iff, decide_eq_true_iff]
            omega)
          have hz2 : decide (idxOf zs1 m < 0) = decide (idxOf zs0 m < 0) := dec_eq (by
            rw [idx_neg (by omega : zs1.length = l1), idx_neg (by omega : zs0.length = l1)]
            exact not_congr (hru.out.2 m hlt2))
          simp only at hA1 hA0 hcv0
          subst hA1 hA0
          have hm0 : (0 : Int) ≤ m := by omega
          have hml : (m : Int) < l1 := by omega
          have hk0I : (0 : Int) < k := by omega
          clear hb
          generalize idxOf zs1 m = y1 at *
          generalize idxOf zs0 m = y0 at *
          generalize zs1.getD m 0 = x1 at *
          generalize zs0.getD m 0 = x0 at *
          generalize ht0 : decide (x0 < 0) = t0 at *
          generalize ht1 : decide (y0 < 0) = t1 at *
          cases t0 <;> cases t1
          all_goals
            go_wp2
            refine wp_region_quiet_lit (by kernel_rfl) (by kernel_rfl) ?_
            repeat (go_big_quiet_step ((go_at_call 9; first | (with_reducible exact quiet_left (C1.out _)) | (with_reducible exact quiet_left (C0.out _)))))
            refine wpQuiet_nil ?_
            intro _ hw'
            obtain ⟨nq, hw''⟩ := hw'
            subst hw''
            go_wp2
            go_roundw
            case rel => exact ⟨m + 1, by omega, by go_num, below_drewN hbH.out nq⟩
            case measure => simp [intOf]; omega
        · obtain rfl : l1 = m := by omega
          go_wp2
          go_roundw
          case rel => exact ⟨p + 1, by omega, by go_num, hb⟩
          case measure => simp [intOf]; omega
    · obtain rfl : k = p := by omega
      have hbe := Lib.hid (hbb2.out.trans (hb.mono (by omega)))
      go_wp2
      go_ret
      exact ⟨rfl, hbe.out⟩
theorem wishRural_any (A : Option Addr) (n c : Nat) (l : List Rw) (B : Option Addr) (m d : Nat) (r : List Rw) (w : World) (hL : RdR w A n l) (hR : RdR w B m r) (hn : n ≤ maxLen) (hm : m ≤ maxLen) :
    Calls Try.prog 3 #[.agg #[.slice A n c, .slice B m d]] w fun e w' => e = .returned (.bool true) ∧ Below w.heap.size w w' := by
  unfold maxLen at hn hm
  by_cases hc : wchk l r = 0
  · obtain ⟨_, hlr, _, _⟩ := wchk_ok hc
    obtain rfl : n = m := by rw [← hL.1, ← hR.1]; exact hlr
    exact wishRural_ok A n c l B d r w hL hR hc
  · have gs : (w.alloc (.cells #[.slice A n c, .slice B m d] 24)).heap.size = w.heap.size + 1 := by simp
    have gb := (Below.refl _ w).alloc (Nat.le_refl _) (.cells #[.slice A n c, .slice B m d] 24)
    have g0 : (w.alloc (.cells #[.slice A n c, .slice B m d] 24)).cell? ⟨w.heap.size, 0, none⟩ = some (.slice A n c) := by go_simp
    have g1 : (w.alloc (.cells #[.slice A n c, .slice B m d] 24)).cell? ⟨w.heap.size, 1, none⟩ = some (.slice B m d) := by go_simp
    have hLH := Lib.hid hL; have hRH := Lib.hid hR
    have HP := Lib.hid (all_bad A n c l B m d r _ (hL.later gb) (hR.later gb) (by omega) (by omega) hc)
    have hcb : (wchk l r == 0) = false := by simp [hc]
    have hcb2 : (wchk l r != 0) = true := by simp [hc]
    clear hL hR hc
    go_enter Try.func3, Try.ntmps3
    go_wp2_with fail
    generalize w.alloc (.cells #[.slice A n c, .slice B m d] 24) = wg at *
    refine HP.out.mono ?_
    rintro e w1 ⟨rfl, hb1⟩
    have c0 := below_cell hb1 (by omega) g0
    have c1 := below_cell hb1 (by omega) g1
    have hbb := gb.trans (hb1.mono (by omega))
    have HW := Lib.hid (wishes_any A n c l B m d r w1 (hLH.out.later hbb) (hRH.out.later hbb))
    rw [hcb] at HW
    clear HP g0 g1 gb hb1
    go_wp2_with fail
    refine HW.out.mono ?_
    rintro e w2 ⟨rfl, hb2⟩
    have hbe := Lib.hid (hbb.trans (hb2.mono hbb.size))
    clear HW hb2 hbb
    go_wp2
    go_ret
    exact ⟨rfl, hbe.out⟩
end Go.Proofs.Ytcmefjfhcdedjaa
