/- WishBest: the walk. -/
import Derived.Test.YtcmefjfhcdedjaaWishStable
import Derived.BigQuiet
namespace Go.Proofs.Ytcmefjfhcdedjaa
open Go.RowKit

theorem owner_idx {n j : Nat} {zs : List Int} (hl : zs.length = n) : OwnerIs n (mAt zs) j (idxOf zs j) := by
  by_cases h : pos zs j < zs.length
  · right
    refine ⟨pos zs j, by omega, ?_, pos_at h⟩
    unfold idxOf
    rw [if_pos h]
  · left
    refine ⟨idxOf_none (by omega), fun i hi e => ?_⟩
    have := pos_lt (l := zs) (x := (j : Int)) (p := i) e
    omega
set_option maxHeartbeats 3200000 in
set_option maxRecDepth 100000 in
theorem wishBest_ok (A : Option Addr) (n c : Nat) (l : List Rw) (B : Option Addr) (d : Nat) (r : List Rw) (Z : Option Addr) (nz cz : Nat) (zs : List Int) (w : World) (hL : RdR w A n l) (hR : RdR w B n r) (hz : Rd w Z nz 1 (ints .i64 zs)) (hc : wchk l r = 0) :
    Calls Try.prog 5 #[.agg #[.slice A n c, .slice B n d], .slice Z nz cz] w fun e w' => e = .returned (.bool true) ∧ Below w.heap.size w w' := by
  obtain ⟨h8, _, hokL, hokR⟩ := wchk_ok hc
  have hlen := hL.1
  rw [hL.1] at hokL hokR h8
  have hzl : zs.length = nz := by simpa [ints] using hz.1
  have gs : (w.alloc (.cells #[.slice A n c, .slice B n d] 24)).heap.size = w.heap.size + 1 := by simp
  have gb := (Below.refl _ w).alloc (Nat.le_refl _) (.cells #[.slice A n c, .slice B n d] 24)
  have g0 : (w.alloc (.cells #[.slice A n c, .slice B n d] 24)).cell? ⟨w.heap.size, 0, none⟩ = some (.slice A n c) := by go_simp
  have g1 : (w.alloc (.cells #[.slice A n c, .slice B n d] 24)).cell? ⟨w.heap.size, 1, none⟩ = some (.slice B n d) := by go_simp
  have hLH := Lib.hid hL; have hRH := Lib.hid hR; have hzH := Lib.hid hz; have hzlH := Lib.hid hzl
  have HP := Lib.hid (pair_ok A n c l B d r _ (hL.later gb) (hR.later gb) hc)
  have hcH := Lib.hid hc; have hokLH := Lib.hid hokL; have hokRH := Lib.hid hokR
  have hcb : (wchk l r == 0) = true := by simp [hc]
  have hlH := Lib.hid hL.1
  clear hL hR hc hokL hokR hz hzl hlen
  go_enter Try.func5, Try.ntmps5
  go_wp2_with fail
  generalize w.alloc (.cells #[.slice A n c, .slice B n d] 24) = wg at *
  refine HP.out.mono ?_
  rintro e w1 ⟨g, H, F, N, rfl, hown, hb1, hG, hT⟩
  have c0 := below_cell hb1 (by omega) g0
  have c1 := below_cell hb1 (by omega) g1
  have hs1 := hb1.size
  have hbb := gb.trans (hb1.mono (by omega))
  have hst := Lib.hid (stab_congr (fun i hi => (mAt_range hi).symm) (told_stab hokLH.out hG hT))
  have hleft := Lib.hid (fun M (hM : Stab n (rowF l) (rowF r) M) i (hi : i < n) => told_left hokLH.out hG hT hM hi)
  have hrd := Rd.of_own hown
  have hrowH := Lib.hid hrd
  rw [row_at_ints] at hrd
  have hrdH := Lib.hid hrd
  have HH := Lib.hid (Holds_ok A n c l B d r Z nz cz zs w1 (hLH.out.later hbb) (hRH.out.later hbb) (hzH.out.later hbb) hcH.out)
  clear HP g0 g1 gb hb1 hrd hown hG hT
  go_wp2_with fail
  refine HH.out.mono ?_
  rintro e w2 ⟨⟨b, cc, rfl, _, hbc⟩, hb2⟩
  have c0 := below_cell hb2 (by omega) c0
  have c1 := below_cell hb2 (by omega) c1
  have hs2 := hb2.size
  have hbb2 := hbb.trans (hb2.mono (by omega))
  have hbcH := Lib.hid (hbc hcH.out)
  have hrowH2 := Lib.hid (hrowH.out.later hb2)
  have hrdH2 := Lib.hid (hrdH.out.later hb2)
  have HW := Lib.hid (wishes_any A n c l B n d r w2 (hLH.out.later hbb2) (hRH.out.later hbb2))
  rw [hcb] at HW
  clear HH hb2 hbb hbc
  go_wp2_with fail
  refine HW.out.mono ?_
  rintro e w3 ⟨rfl, hb3⟩
  have c0 := below_cell hb3 (by omega) c0
  have c1 := below_cell hb3 (by omega) c1
  have hs3 := hb3.size
  have hbb3 := Lib.hid (hbb2.trans (hb3.mono (by omega)))
  have hrowH3 := Lib.hid (hrowH2.out.later hb3)
  have hrdH3 := Lib.hid (hrdH2.out.later hb3)
  have hnn : ((n : Int) != (n : Int)) = false := by simp
  clear HW hb3 hbb2 hrowH2 hrdH2 hrowH hrdH
  by_cases hcc : cc = 0
  · subst hcc
    cases b
    · go_wp2
      go_ret
      exact ⟨rfl, hbb3.out⟩
    · obtain ⟨hnz, hM⟩ := hbcH.out.1 ⟨rfl, rfl⟩
      rw [hlH.out] at hnz hM
      subst hnz
      have hMH := Lib.hid hM
      have hw3 : w.heap.size < w3.heap.size := by omega
      clear hM hbcH
      go_wp2
      go_loopw [9] (fun i wr => ∃ k : Nat, k ≤ nz ∧ i = .int .i64 k ∧ Below w3.heap.size w3 wr) (fun i _ => nz - (intOf i).toNat)
      case atStart => exact ⟨0, Nat.zero_le _, rfl, Below.refl _ _⟩
      case round =>
        obtain ⟨k, hk, rfl, hb⟩ := hrel
        have hbH := Lib.hid hb
        by_cases hlt : k < nz
        · have hwX := hbb3.out.trans (hb.mono (by omega))
          have e0 := below_cell hb hw3 c0
          have e1 := below_cell hb hw3 c1
          have hfL := hLH.out.2.2 _ (rat_mem (l := l) (k := k) (by rw [hLH.out.1]; exact hlt))
          have hfR := hRH.out.2.2 _ (rat_mem (l := r) (k := k) (by rw [hRH.out.1]; exact hlt))
          have CL := Lib.hid (fun n' (y : Int) => ahead_any (rat l k).A (rat l k).len (rat l k).cap (rowF l k) y (wr.drewN n') (hfL.1.later (below_drewN hwX n')) (by have := hfL.2.1; unfold maxLen at this; omega))
          have CR := Lib.hid (fun n' (y : Int) => ahead_any (rat r k).A (rat r k).len (rat r k).cap (rowF r k) y (wr.drewN n') (hfR.1.later (below_drewN hwX n')) (by have := hfR.2.1; unfold maxLen at this; omega))
          have CF := Lib.hid (fun n' => has_of (some ⟨g, 0, none⟩) nz nz _ (k : Int) (wr.drewN n') (hrdH3.out.later (below_drewN hb n')) (by omega))
          have CM := Lib.hid (fun n' => has_of Z nz cz zs (k : Int) (wr.drewN n') (hzH.out.later (below_drewN hwX n')) (by omega))
          have hl1 : pos (rowF l k) (F k) ≤ pos (rowF l k) (mAt zs k) := hleft.out _ hMH.out k hlt
          have hr1 : pos (rowF r k) (idxOf zs k) ≤ pos (rowF r k) (idxOf ((List.range nz).map F) k) := best_right hokLH.out hokRH.out hst.out hMH.out (fun i hi => by rw [mAt_range hi]; exact hleft.out _ hMH.out i hi) hlt (owner_idx (by simp)) (owner_idx hzlH.out)
          obtain ⟨bL, oL, rfl, hbL, hcL, _⟩ := (hLH.out.later hwX).at hlt
          obtain ⟨bR, oR, rfl, hbR, hcR, _⟩ := (hRH.out.later hwX).at hlt
          obtain ⟨bF, oF, hAF, hbF, hcF⟩ := (hrowH3.out.later hb).row hlt
          injection hAF with hAF
          injection hAF with q1 q2 _
          subst q1 q2
          rw [Nat.zero_add] at hcF
          obtain ⟨bz, oz, rfl, hbz, hcz⟩ := (hzH.out.later hwX).int hlt
          rw [show zs.getD k 0 = mAt zs k from rfl] at hcz
          have hd1 : decide (((pos (rowF l k) (mAt zs k) : Nat) : Int) < ((pos (rowF l k) (F k) : Nat) : Int)) = false := by simp; omega
          have hd2 : decide (((pos (rowF r k) (idxOf ((List.range nz).map F) k) : Nat) : Int) < ((pos (rowF r k) (idxOf zs k) : Nat) : Int)) = false := by simp; omega
          have C1 := Lib.hid (fun n' => CL.out n' (F k))
          have C2 := Lib.hid (fun n' => CL.out n' (mAt zs k))
          have C3 := Lib.hid (fun n' => CR.out n' (idxOf ((List.range nz).map F) k))
          have C4 := Lib.hid (fun n' => CR.out n' (idxOf zs k))
          have hk0 : (0 : Int) ≤ k := by omega
          have hkn : (k : Int) < nz := by omega
          clear hfL hfR CL CR hl1 hr1 hb hwX hst hleft hMH
          generalize rat l k = ra0 at *
          obtain ⟨A1, l1, c1', zs1⟩ := ra0
          generalize rat r k = rr0 at *
          obtain ⟨A2, l2, c2', zs2⟩ := rr0
          generalize ((pos (rowF l k) (mAt zs k) : Nat) : Int) = y1 at *
          generalize ((pos (rowF l k) (F k) : Nat) : Int) = y2 at *
          generalize ((pos (rowF r k) (idxOf ((List.range nz).map F) k) : Nat) : Int) = y3 at *
          generalize ((pos (rowF r k) (idxOf zs k) : Nat) : Int) = y4 at *
          generalize idxOf ((List.range nz).map F) k = y5 at *
          generalize idxOf zs k = y6 at *
          generalize mAt zs k = y7 at *
          generalize F k = y8 at *
          go_wp2
          refine wp_region_quiet_lit (by kernel_rfl) (by kernel_rfl) ?_
          repeat (go_big_quiet_step ((first | (go_at_call 12; first | (with_reducible exact quiet_left (C1.out _)) | (with_reducible exact quiet_left (C2.out _)) | (with_reducible exact quiet_left (C3.out _)) | (with_reducible exact quiet_left (C4.out _))) | (go_at_call 9; first | (with_reducible exact quiet_left (CF.out _)) | (with_reducible exact quiet_left (CM.out _))))))
          refine wpQuiet_nil ?_
          intro _ hw'
          obtain ⟨nq, hw''⟩ := hw'
          subst hw''
          go_wp2
          go_roundw
          case rel => exact ⟨k + 1, by omega, by go_num, below_drewN hbH.out nq⟩
          case measure => simp [intOf]; omega
        · have hbe := Lib.hid (hbb3.out.trans (hb.mono (by omega)))
          go_wp2
          go_ret
          exact ⟨rfl, hbe.out⟩
  · have hccb : (cc != 0) = true := by simp [hcc]
    clear hcc
    go_wp2
    go_ret
    exact ⟨rfl, hbb3.out⟩
theorem wishBest_bad (A : Option Addr) (n c : Nat) (l : List Rw) (B : Option Addr) (m d : Nat) (r : List Rw) (Z : Value) (w : World) (hL : RdR w A n l) (hR : RdR w B m r) (hn : n ≤ 9223372036854775807) (hm : m ≤ 9223372036854775807) (hc : wchk l r ≠ 0) :
    Calls Try.prog 5 #[.agg #[.slice A n c, .slice B m d], Z] w fun e w' => e = .returned (.bool true) ∧ Below w.heap.size w w' := by
  have gs : (w.alloc (.cells #[.slice A n c, .slice B m d] 24)).heap.size = w.heap.size + 1 := by simp
  have gb := (Below.refl _ w).alloc (Nat.le_refl _) (.cells #[.slice A n c, .slice B m d] 24)
  have g0 : (w.alloc (.cells #[.slice A n c, .slice B m d] 24)).cell? ⟨w.heap.size, 0, none⟩ = some (.slice A n c) := by go_simp
  have g1 : (w.alloc (.cells #[.slice A n c, .slice B m d] 24)).cell? ⟨w.heap.size, 1, none⟩ = some (.slice B m d) := by go_simp
  have hLH := Lib.hid hL; have hRH := Lib.hid hR
  have HP := Lib.hid (pair_bad A n c l B m d r _ (hL.later gb) (hR.later gb) hn hm hc)
  have hcb : (wchk l r == 0) = false := by simp [hc]
  have hcb2 : (wchk l r != 0) = true := by simp [hc]
  have hcH := Lib.hid hc
  clear hL hR hc
  go_enter Try.func5, Try.ntmps5
  go_wp2_with fail
  generalize w.alloc (.cells #[.slice A n c, .slice B m d] 24) = wg at *
  refine HP.out.mono ?_
  rintro e w1 ⟨rfl, hb1⟩
  have c0 := below_cell hb1 (by omega) g0
  have c1 := below_cell hb1 (by omega) g1
  have hs1 := hb1.size
  have hbb := gb.trans (hb1.mono (by omega))
  have HH := Lib.hid (Holds_bad A n c l B m d r Z 0 [] w1 (hLH.out.later hbb) (hRH.out.later hbb) hn hm hcH.out)
  clear HP g0 g1 gb hb1
  go_wp2_with fail
  refine HH.out.mono ?_
  rintro e w2 ⟨⟨b, cc, rfl, hbc, _⟩, hb2⟩
  have hccb : (cc != 0) = true := by have := hbc hcH.out; simp [this]
  have c0 := below_cell hb2 (by omega) c0
  have c1 := below_cell hb2 (by omega) c1
  have hbb2 := hbb.trans (hb2.mono (by omega))
  have HW := Lib.hid (wishes_any A n c l B m d r w2 (hLH.out.later hbb2) (hRH.out.later hbb2))
  rw [hcb] at HW
  clear HH hb2 hbb hbc
  go_wp2_with fail
  refine HW.out.mono ?_
  rintro e w3 ⟨rfl, hb3⟩
  have hbe := Lib.hid (hbb2.trans (hb3.mono hbb2.size))
  clear HW hb3 hbb2
  go_wp2
  go_ret
  exact ⟨rfl, hbe.out⟩
theorem wishBest_any (A : Option Addr) (n c : Nat) (l : List Rw) (B : Option Addr) (m d : Nat) (r : List Rw) (Z : Option Addr) (nz cz : Nat) (zs : List Int) (w : World) (hL : RdR w A n l) (hR : RdR w B m r) (hn : n ≤ maxLen) (hm : m ≤ maxLen) (hz : Rd w Z nz 1 (ints .i64 zs)) (_ : nz ≤ maxLen) (_ : nz ≤ cz) (_ : ∀ z ∈ zs, (Lit.int .i64 z).wf = true) :
    Calls Try.prog 5 #[.agg #[.slice A n c, .slice B m d], .slice Z nz cz] w fun e w' => e = .returned (.bool true) ∧ Below w.heap.size w w' := by
  unfold maxLen at hn hm
  by_cases hc : wchk l r = 0
  · obtain ⟨_, hlr, _, _⟩ := wchk_ok hc
    obtain rfl : n = m := by rw [← hL.1, ← hR.1]; exact hlr
    exact wishBest_ok A n c l B d r Z nz cz zs w hL hR hz hc
  · exact wishBest_bad A n c l B m d r _ w hL hR (by omega) (by omega) hc
end Go.Proofs.Ytcmefjfhcdedjaa
