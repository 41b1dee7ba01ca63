/- WishLattice: the walk. -/
import Derived.Test.YtcmefjfhcdedjaaWishRural
namespace Go.Proofs.Ytcmefjfhcdedjaa
open Go.RowKit

set_option maxHeartbeats 3200000 in
set_option maxRecDepth 100000 in
theorem wishLattice_ok (A : Option Addr) (n c : Nat) (l : List Rw) (B : Option Addr) (d : Nat) (r : List Rw) (ka kb : Int) (w : World) (hL : RdR w A n l) (hR : RdR w B n r) (hc : wchk l r = 0) (ha0 : 0 ≤ ka) (ha1 : ka < 256) (hb0 : 0 ≤ kb) (hb1 : kb < 256) :
    Calls Try.prog 6 #[.agg #[.slice A n c, .slice B n d], .int .u8 ka, .int .u8 kb] w fun e w' => e = .returned (.bool true) ∧ Below w.heap.size w w' := by
  obtain ⟨h8, hlr, hokL, hokR⟩ := wchk_ok hc
  have hlen := Lib.hid hL.1
  rw [hL.1] at hokL hokR h8
  have gs : (w.alloc (.cells #[.slice A n c, .slice B n d] 24)).heap.size = w.heap.size + 1 := by simp
  have gb := (Below.refl _ w).alloc (Nat.le_refl _) (.cells #[.slice A n c, .slice B n d] 24)
  have g0 : (w.alloc (.cells #[.slice A n c, .slice B n d] 24)).cell? ⟨w.heap.size, 0, none⟩ = some (.slice A n c) := by go_simp
  have g1 : (w.alloc (.cells #[.slice A n c, .slice B n d] 24)).cell? ⟨w.heap.size, 1, none⟩ = some (.slice B n d) := by go_simp
  have hLH := Lib.hid hL; have hRH := Lib.hid hR; have hcH := Lib.hid hc
  have HP := Lib.hid (all_ok A n c l B d r _ (hL.later gb) (hR.later gb) hc)
  have hokLH := Lib.hid hokL; have hokRH := Lib.hid hokR
  have hcb : (wchk l r == 0) = true := by simp [hc]
  clear hL hR hc hokL hokR hlr
  go_enter Try.func6, Try.ntmps6
  go_wp2_with fail
  generalize w.alloc (.cells #[.slice A n c, .slice B n d] 24) = wg at *
  refine HP.out.mono ?_
  rintro e w1 ⟨v, rs, rfl, hov, hcl, hst, hall, hb1⟩
  obtain ⟨Av, cv, rfl⟩ := own_slice hov
  have c0 := below_cell hb1 (by omega) g0
  have c1 := below_cell hb1 (by omega) g1
  have hs1 := hb1.size
  have hbb := gb.trans (hb1.mono (by omega))
  obtain ⟨_, hrd⟩ := rdr_of hov hcl h8
  have hk0 : 0 < rs.length := by
    obtain ⟨F, hF, _⟩ := gs_exists hokLH.out hokRH.out
    obtain ⟨q, hq, _⟩ := hall F hF
    exact List.length_pos_of_mem hq
  have hrdH := Lib.hid hrd; have hstH := Lib.hid hst
  have hlenH := Lib.hid (fun q (hq : q ∈ rs) => (own_fit (hcl q hq) h8).2)
  have hkm : rs.length ≤ 9223372036854775807 := by
    rcases hov.2 with ⟨_, h2⟩ | ⟨g, cap, cur, _, _, _, h4, h5, _⟩
    · omega
    · unfold maxLen at h5; omega
  have HW := Lib.hid (wishes_any A n c l B n d r w1 (hLH.out.later hbb) (hRH.out.later hbb))
  rw [hcb] at HW
  clear HP g0 g1 gb hb1 hov hcl hst hall hrd
  go_wp2_with fail
  refine HW.out.mono ?_
  rintro e w2 ⟨rfl, hb2⟩
  have c0 := below_cell hb2 (by omega) c0
  have c1 := below_cell hb2 (by omega) c1
  have hs2 := hb2.size
  have hbb2 := Lib.hid (hbb.trans (hb2.mono (by omega)))
  have hrd2 := hrdH.out.later hb2
  have hkz : (((rs.length : Nat) : Int) == 0) = false := by rw [beq_eq_false_iff_ne]; omega
  have hw2 : w.heap.size < w2.heap.size := by omega
  clear HW hb2 hbb hrdH
  obtain ⟨k, hk⟩ : ∃ k, k = rs.length := ⟨_, rfl⟩
  rw [← hk] at hrd2 hk0 hkm hkz
  rw [← hk]
  obtain ⟨pa, hpa⟩ : ∃ pa : Nat, ka % (k : Int) = (pa : Int) := ⟨(ka % (k : Int)).toNat, by have := Int.emod_nonneg ka (show (k : Int) ≠ 0 by omega); omega⟩
  obtain ⟨pb, hpb⟩ : ∃ pb : Nat, kb % (k : Int) = (pb : Int) := ⟨(kb % (k : Int)).toNat, by have := Int.emod_nonneg kb (show (k : Int) ≠ 0 by omega); omega⟩
  have hpak : pa < k := by have := Int.emod_lt_of_pos ka (show (0 : Int) < k by omega); omega
  have hpbk : pb < k := by have := Int.emod_lt_of_pos kb (show (0 : Int) < k by omega); omega
  have hkaw : IntKind.i64.wrap ka = ka := IntWalk.i64_in _ (by omega)
  have hkbw : IntKind.i64.wrap kb = kb := IntWalk.i64_in _ (by omega)
  have hma := rat_mem (l := rs) (k := pa) (by omega)
  have hmb := rat_mem (l := rs) (k := pb) (by omega)
  have hla := hlenH.out _ hma
  have hlb := hlenH.out _ hmb
  obtain ⟨bv, ov, rfl, hbv, hca, hfa⟩ := hrd2.at hpak
  obtain ⟨_, _, hAv, _, hcb', hfb⟩ := hrd2.at hpbk
  injection hAv with hAv; injection hAv with r1 r2 _; subst r1 r2
  have hbet := Lib.hid (better_stab hokLH.out hokRH.out (hstH.out _ hma) (hstH.out _ hmb))
  have hfaH := Lib.hid hfa; have hfbH := Lib.hid hfb
  have hlaz := hla.2; have hlbz := hlb.2; have hlal := hla.1; have hlbl := hlb.1
  have hkI : (0 : Int) < k := by omega
  have hpa0 : (0 : Int) ≤ pa := by omega
  have hpb0 : (0 : Int) ≤ pb := by omega
  have hpaI : (pa : Int) < k := by omega
  have hpbI : (pb : Int) < k := by omega
  have hnn : ((n : Int) != (n : Int)) = false := by simp
  clear hrd2 hma hmb hla hlb hfa hfb hstH hk hlenH
  generalize rat rs pa = q1 at *
  obtain ⟨A1, l1, cc1, zs1⟩ := q1
  generalize rat rs pb = q0 at *
  obtain ⟨A0, l0, cc0, zs0⟩ := q0
  simp only at hlaz hlbz hlal hlbl hbet
  have hlal := hlal.symm
  subst hlal
  have hlbl := hlbl.symm
  subst hlbl
  go_wp2
  rw [hpa, hpb]
  clear hpa hpb
  go_loopw [11, 12] (fun v i wr => ∃ m : Nat, m ≤ n ∧ i = .int .i64 m ∧ wr.ownsRow w2.heap.size 3 1 v m (row m (better (rowF l) (mAt zs1) (mAt zs0))) ∧ Below w2.heap.size w2 wr) (fun _ i _ => n - (intOf i).toNat)
  case atStart => exact ⟨0, Nat.zero_le _, rfl, World.ownsRow_nil _ _ _ _, Below.refl _ _⟩
  case round =>
    obtain ⟨m, hm, rfl, hown, hb⟩ := hrel
    have hownH := Lib.hid hown; have hbH := Lib.hid hb
    have e0 := below_cell hb hw2 c0
    have e1 := below_cell hb hw2 c1
    by_cases hlt : m < n
    · have hwX := hbb2.out.trans (hb.mono (by omega))
      have hfL := hLH.out.2.2 _ (rat_mem (l := l) (k := m) (by rw [hLH.out.1]; exact hlt))
      obtain ⟨bL, oL, rfl, hbL, hcL, _⟩ := (hLH.out.later hwX).at hlt
      have CL := Lib.hid (fun n' (y : Int) => ahead_any (rat l m).A (rat l m).len (rat l m).cap (rowF l m) y (wr.drewN n') (hfL.1.later (below_drewN hwX n')) (by have := hfL.2.1; unfold maxLen at this; omega))
      obtain ⟨b1, o1, hA1, hb1, hc1⟩ := (hfaH.out.1.later hb).int hlt
      obtain ⟨b0, o0, hA0, hb0', hc0⟩ := (hfbH.out.1.later hb).int hlt
      rw [show zs1.getD m 0 = mAt zs1 m from rfl] at hc1
      rw [show zs0.getD m 0 = mAt zs0 m from rfl] at hc0
      have C1 := Lib.hid (fun n' => CL.out n' (mAt zs0 m))
      have C2 := Lib.hid (fun n' => CL.out n' (mAt zs1 m))
      have hsn := Lib.hid (row_snoc m (better (rowF l) (mAt zs1) (mAt zs0)))
      have hm0 : (0 : Int) ≤ m := by omega
      have hmn : (m : Int) < n := by omega
      simp only at hA1 hA0
      subst hA1 hA0
      clear CL hfL hb hwX hown
      generalize rat l m = ra0 at *
      obtain ⟨A3, l3, c3, zs3⟩ := ra0
      by_cases hlt3 : pos (rowF l m) (mAt zs0 m) < pos (rowF l m) (mAt zs1 m)
      · have hbt := Lib.hid (show better (rowF l) (mAt zs1) (mAt zs0) m = mAt zs0 m by unfold better; rw [if_pos hlt3])
        have hdI : ((pos (rowF l m) (mAt zs0 m) : Nat) : Int) < ((pos (rowF l m) (mAt zs1 m) : Nat) : Int) := by omega
        have hd : decide (((pos (rowF l m) (mAt zs0 m) : Nat) : Int) < ((pos (rowF l m) (mAt zs1 m) : Nat) : Int)) = true := by simp; omega
        clear hlt3
        generalize ((pos (rowF l m) (mAt zs0 m) : Nat) : Int) = y0 at *
        generalize ((pos (rowF l m) (mAt zs1 m) : Nat) : Int) = y1 at *
        generalize mAt zs0 m = x0 at *
        generalize mAt zs1 m = x1 at *
        go_wp2
        go_quiet ((go_at_call 12; first | (with_reducible exact quiet_left (C1.out _)) | (with_reducible exact quiet_left (C2.out _))))
        have hownD := own_below hownH.out (below_drewN (Below.refl _ wr) nq)
        have hbD := below_drewN hbH.out nq
        have hc0d : (wr.drewN nq).cell? ⟨b0, o0 + m, none⟩ = some (.int .i64 x0) := hc0
        generalize wr.drewN nq = wd at *
        go_wp2_with (at_builtin; refine wpList_app (s := .tmp 95) (x := .tmp 97) _ tiI (hownD.alloc _) (rd_new1 wd (.int .i64 x0) 3) (ints_one (l := [x0])) (by omega) (by omega) (hbD.alloc hbD.size _).size rfl rfl rfl rfl ?_)
        intro v' w5 hown5 hg5 _
        have hb5 : Below w2.heap.size w2 w5 := (hbD.alloc hbD.size _).grown hg5 (hbD.alloc hbD.size _).size (fun g hg' => (hownD.lt g hg').1)
        clear hg5
        go_wp2
        go_roundw
        case rel => exact ⟨m + 1, by omega, by go_num, by rw [hsn.out, hbt.out]; exact hown5, hb5⟩
        case measure => simp [intOf]; omega
      · have hbt := Lib.hid (show better (rowF l) (mAt zs1) (mAt zs0) m = mAt zs1 m by unfold better; rw [if_neg hlt3])
        have hd : decide (((pos (rowF l m) (mAt zs0 m) : Nat) : Int) < ((pos (rowF l m) (mAt zs1 m) : Nat) : Int)) = false := by simp; omega
        clear hlt3
        generalize ((pos (rowF l m) (mAt zs0 m) : Nat) : Int) = y0 at *
        generalize ((pos (rowF l m) (mAt zs1 m) : Nat) : Int) = y1 at *
        generalize mAt zs0 m = x0 at *
        generalize mAt zs1 m = x1 at *
        go_wp2
        go_quiet ((go_at_call 12; first | (with_reducible exact quiet_left (C1.out _)) | (with_reducible exact quiet_left (C2.out _))))
        have hownD := own_below hownH.out (below_drewN (Below.refl _ wr) nq)
        have hbD := below_drewN hbH.out nq
        have hc0d : (wr.drewN nq).cell? ⟨b0, o0 + m, none⟩ = some (.int .i64 x0) := hc0
        generalize wr.drewN nq = wd at *
        go_wp2_with (at_builtin; refine wpList_app (s := .tmp 95) (x := .tmp 97) _ tiI (hownD.alloc _) (rd_new1 wd (.int .i64 x1) 3) (ints_one (l := [x1])) (by omega) (by omega) (hbD.alloc hbD.size _).size rfl rfl rfl rfl ?_)
        intro v' w5 hown5 hg5 _
        have hb5 : Below w2.heap.size w2 w5 := (hbD.alloc hbD.size _).grown hg5 (hbD.alloc hbD.size _).size (fun g hg' => (hownD.lt g hg').1)
        clear hg5
        go_wp2
        go_roundw
        case rel => exact ⟨m + 1, by omega, by go_num, by rw [hsn.out, hbt.out]; exact hown5, hb5⟩
        case measure => simp [intOf]; omega
    · obtain rfl : n = m := by omega
      obtain ⟨Ab, cb, rfl⟩ := own_slice hownH.out
      have hrb := Rd.of_own hown
      rw [row_at_ints] at hrb
      have hwX := hbb2.out.trans (hb.mono (by omega))
      have HH := Lib.hid (Holds_ok A n c l B d r Ab n cb _ wr (hLH.out.later hwX) (hRH.out.later hwX) hrb hcH.out)
      have hwXH := Lib.hid hwX
      clear hown hb hrb hwX
      go_wp2_with fail
      refine HH.out.mono ?_
      rintro e w3 ⟨⟨b, cc, rfl, _, hbc⟩, hb3⟩
      obtain ⟨rfl, rfl⟩ := (hbc hcH.out).2 ⟨hlen.out.symm, by rw [hlen.out]; exact stab_congr (fun i hi => (mAt_range hi).symm) hbet.out⟩
      have hbe := Lib.hid (hwXH.out.trans (hb3.mono (hwXH.out.size)))
      clear HH hb3 hbc
      go_wp2
      go_ret
      exact ⟨rfl, hbe.out⟩
theorem wishLattice_any (A : Option Addr) (n c : Nat) (l : List Rw) (B : Option Addr) (m d : Nat) (r : List Rw) (ka kb : Int) (w : World) (hL : RdR w A n l) (hR : RdR w B m r) (hn : n ≤ maxLen) (hm : m ≤ maxLen) (hka : (Lit.int .u8 ka).wf = true) (hkb : (Lit.int .u8 kb).wf = true) :
    Calls Try.prog 6 #[.agg #[.slice A n c, .slice B m d], .int .u8 ka, .int .u8 kb] w fun e w' => e = .returned (.bool true) ∧ Below w.heap.size w w' := by
  unfold maxLen at hn hm
  by_cases hc : wchk l r = 0
  · obtain ⟨_, hlr, _, _⟩ := wchk_ok hc
    obtain rfl : n = m := by rw [← hL.1, ← hR.1]; exact hlr
    have h1 : IntKind.u8.min ≤ ka ∧ ka ≤ IntKind.u8.max := by simpa [Lit.wf] using hka
    have h2 : IntKind.u8.min ≤ kb ∧ kb ≤ IntKind.u8.max := by simpa [Lit.wf] using hkb
    rw [show IntKind.u8.min = 0 from rfl, show IntKind.u8.max = 255 from rfl] at h1 h2
    exact wishLattice_ok A n c l B d r ka kb w hL hR hc (by omega) (by omega) (by omega) (by omega)
  · have gs : (w.alloc (.cells #[.slice A n c, .slice B m d] 24)).heap.size = w.heap.size + 1 := by simp
    have gb := (Below.refl _ w).alloc (Nat.le_refl _) (.cells #[.slice A n c, .slice B m d] 24)
    have g0 : (w.alloc (.cells #[.slice A n c, .slice B m d] 24)).cell? ⟨w.heap.size, 0, none⟩ = some (.slice A n c) := by go_simp
    have g1 : (w.alloc (.cells #[.slice A n c, .slice B m d] 24)).cell? ⟨w.heap.size, 1, none⟩ = some (.slice B m d) := by go_simp
    have hLH := Lib.hid hL; have hRH := Lib.hid hR
    have HP := Lib.hid (all_bad A n c l B m d r _ (hL.later gb) (hR.later gb) (by omega) (by omega) hc)
    have hcb : (wchk l r == 0) = false := by simp [hc]
    have hcb2 : (wchk l r != 0) = true := by simp [hc]
    clear hL hR hc hka hkb
    go_enter Try.func6, Try.ntmps6
    go_wp2_with fail
    generalize w.alloc (.cells #[.slice A n c, .slice B m d] 24) = wg at *
    refine HP.out.mono ?_
    rintro e w1 ⟨rfl, hb1⟩
    have c0 := below_cell hb1 (by omega) g0
    have c1 := below_cell hb1 (by omega) g1
    have hbb := gb.trans (hb1.mono (by omega))
    have HW := Lib.hid (wishes_any A n c l B m d r w1 (hLH.out.later hbb) (hRH.out.later hbb))
    rw [hcb] at HW
    clear HP g0 g1 gb hb1
    go_wp2_with fail
    refine HW.out.mono ?_
    rintro e w2 ⟨rfl, hb2⟩
    have hbe := Lib.hid (hbb.trans (hb2.mono hbb.size))
    clear HW hb2 hbb
    go_wp2
    go_ret
    exact ⟨rfl, hbe.out⟩
end Go.Proofs.Ytcmefjfhcdedjaa
