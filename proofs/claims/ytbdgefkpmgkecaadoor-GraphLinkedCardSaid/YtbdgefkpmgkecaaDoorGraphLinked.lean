/- GraphLinked: the walk. -/
import Derived.Test.YtbdgefkpmgkecaaDoorGraphMetric
import Derived.Test.YtbdgefkpmgkecaaDoorParts
import Derived.Test.YtbdgefkpmgkecaaDoorUnlike
namespace Go.Proofs.YtbdgefkpmgkecaaDoor
open Go.RowKit Go.Shelf

theorem own_cap {w : World} {b e s n c m : Nat} {A : Option Addr} {xs : List Value} (h : w.ownsRow b e s (.slice A n c) m xs) : n ≤ c := by
  rcases h.2 with ⟨h1, _⟩ | ⟨g, cap, cur, h1, _, _, hnc, _⟩
  · injection h1 with _ h1 h2
    omega
  · injection h1 with _ h1 h2
    omega
theorem unl_le (l : List Int) : unl l ≤ l.length := by unfold unl cntB; exact Nat.le_trans (List.length_filter_le _ _) (by simp)
theorem graphLinked_bad (N : Int) (A : Option Addr) (len cap : Nat) (es : List E) (w : World) (hr : Rd w A len 3 (ps3 .i64 .i64 .i64 es)) (hl : len ≤ 9223372036854775807) (hcap : len ≤ cap) (hc : gchk N es ≠ 0) :
    Calls Tryd.prog 4 #[.agg #[.int .i64 N, .slice A len cap]] w fun e w' => e = .returned (.bool true) ∧ Below w.heap.size w w' := by
  have HP := Lib.hid (parts_bad N A len cap es _ (hr.alloc (.cells #[.int .i64 N, .slice A len cap] 24)) hl hc)
  have hcb : (gchk N es != 0) = true := by simpa using hc
  have hcg : (gchk N es == 0) = false := by simpa using hc
  have hrH := Lib.hid hr
  have hcH := Lib.hid hc
  have g0 : (w.alloc (.cells #[.int .i64 N, .slice A len cap] 24)).cell? ⟨w.heap.size, 0, none⟩ = some (.int .i64 N) := by go_simp
  have g1 : (w.alloc (.cells #[.int .i64 N, .slice A len cap] 24)).cell? ⟨w.heap.size, 1, none⟩ = some (.slice A len cap) := by go_simp
  have gs : (w.alloc (.cells #[.int .i64 N, .slice A len cap] 24)).heap.size = w.heap.size + 1 := by simp
  have gb := (Below.refl _ w).alloc (Nat.le_refl _) (.cells #[.int .i64 N, .slice A len cap] 24)
  clear hr hc
  go_enter Tryd.func4, Tryd.ntmps4
  go_wp2_with fail
  generalize w.alloc (.cells #[.int .i64 N, .slice A len cap] 24) = wg at *
  refine HP.out.mono ?_
  rintro e w1 ⟨rfl, hb1⟩
  have c0 := below_cell hb1 (by omega) g0
  have c1 := below_cell hb1 (by omega) g1
  have hbb := gb.trans (hb1.mono (by omega))
  have hs1 := hb1.size
  have HD := Lib.hid (dist_bad N A len cap es w1 (hrH.out.later hbb) hl hcH.out)
  clear g0 g1 hb1 gb
  go_wp2_with fail
  refine HD.out.mono ?_
  rintro e w2 ⟨rfl, hb2⟩
  have c0 := below_cell hb2 (by omega) c0
  have c1 := below_cell hb2 (by omega) c1
  have hs2 := hb2.size
  have hbb := hbb.trans (hb2.mono (by omega))
  have HG := Lib.hid (good_any N A len cap es w2 (hrH.out.later hbb) hl hcap)
  rw [hcg] at HG
  clear hb2
  go_wp2_with fail
  refine HG.out.mono ?_
  rintro e w3 ⟨rfl, hb3⟩
  have hbe := hbb.trans (hb3.mono hbb.size)
  go_wp2
  go_ret
  exact ⟨rfl, hbe⟩
set_option maxHeartbeats 12800000 in
set_option maxRecDepth 100000 in
theorem graphLinked_ok (N : Nat) (A : Option Addr) (len cap : Nat) (es : List E) (w : World) (hr : Rd w A len 3 (ps3 .i64 .i64 .i64 es)) (hcap : len ≤ cap) (hc : gchk N es = 0) (htb : Tb w) (hg : 0 < w.heap.size) :
    Calls Tryd.prog 4 #[.agg #[.int .i64 N, .slice A len cap]] w fun e w' => e = .returned (.bool true) ∧ Below w.heap.size w w' := by
  obtain ⟨_, h10, h45, hok, _⟩ := gchk_ok hc
  have h10 : N ≤ 10 := by omega
  rw [Int.toNat_natCast] at hok
  have hel := ps3_len hr
  rw [hel] at h45
  have gs : (w.alloc (.cells #[.int .i64 (N : Int), .slice A len cap] 24)).heap.size = w.heap.size + 1 := by simp
  have gb := (Below.refl _ w).alloc (Nat.le_refl _) (.cells #[.int .i64 (N : Int), .slice A len cap] 24)
  have htbg := htb.below hg gb
  have HP := Lib.hid (parts_ok N A len cap es _ rfl _ (hr.alloc (.cells #[.int .i64 (N : Int), .slice A len cap] 24)) hc htbg (by omega))
  have HDF := Lib.hid (fun W hb (htb : Tb W) hg => dist_ok N A len cap es _ rfl W (hr.later hb) hc htb hg)
  have hgrH := Lib.hid (near_gr hc)
  have hle := Lib.hid (linked_edges hc (near_gr hc))
  have hcg : (gchk N es == 0) = true := by rw [hc]; rfl
  have hrH := Lib.hid hr; have hokH := Lib.hid hok
  have htbH := Lib.hid htb
  have g0 : (w.alloc (.cells #[.int .i64 (N : Int), .slice A len cap] 24)).cell? ⟨w.heap.size, 0, none⟩ = some (.int .i64 (N : Int)) := by go_simp
  have g1 : (w.alloc (.cells #[.int .i64 (N : Int), .slice A len cap] 24)).cell? ⟨w.heap.size, 1, none⟩ = some (.slice A len cap) := by go_simp
  clear hr hc htb hok htbg
  go_enter Tryd.func4, Tryd.ntmps4
  go_wp2_with fail
  generalize w.alloc (.cells #[.int .i64 (N : Int), .slice A len cap] 24) = wg at *
  refine HP.out.mono ?_
  rintro e w1 ⟨vp, rfl, hpo, hb1⟩
  obtain ⟨Ap, cp, rfl⟩ := own_slice hpo
  have hpl := own_cap hpo
  have c0 := below_cell hb1 (by omega) g0
  have c1 := below_cell hb1 (by omega) g1
  have hs1 := hb1.size
  have hbb := gb.trans (hb1.mono (by omega))
  have HD := Lib.hid (HDF.out w1 hbb (htbH.out.below hg hbb) (by omega))
  have hpH := Lib.hid (Rd.of_own hpo)
  clear HDF HP hb1 g0 g1 gb hpo
  go_wp2_with fail
  refine HD.out.mono ?_
  rintro e w2 ⟨v, G, rfl, hown, hrows, hb2⟩
  obtain ⟨Ad, cd, rfl⟩ := own_slice hown
  have c0 := below_cell hb2 (by omega) c0
  have c1 := below_cell hb2 (by omega) c1
  have hs2 := hb2.size
  have hbb := hbb.trans (hb2.mono (by omega))
  have HG := Lib.hid (good_any N A len cap es w2 (hrH.out.later hbb) (by omega) hcap)
  rw [hcg] at HG
  have hdH := Lib.hid (Rd.of_own hown)
  have hrwH := Lib.hid (fun m (hm : m < N) => Rd.of_own (hrows m hm))
  have hp2 := Lib.hid (hpH.out.later hb2)
  clear HD hown hrows hb2 hpH
  go_wp2_with fail
  refine HG.out.mono ?_
  rintro e w3 ⟨rfl, hb3⟩
  have c0 := below_cell hb3 (by omega) c0
  have c1 := below_cell hb3 (by omega) c1
  have hs3 := hb3.size
  have hbb2 := Lib.hid (hbb.trans (hb3.mono hbb.size))
  have hd2 := Lib.hid (hdH.out.later hb3)
  have hrw2 := Lib.hid (fun m (hm : m < N) => (hrwH.out m hm).later hb3)
  have hp3 := Lib.hid (hp2.out.later hb3)
  clear HG hb3 hbb hdH hrwH hcg hp2
  have hnn : ((N : Int) != (N : Int)) = false := by simp
  have hwl : w.heap.size < w3.heap.size := by omega
  have hs0 : w.heap.size ≤ w3.heap.size := by omega
  go_wp2
  go_loopw [7] (fun i wr => ∃ k : Nat, k ≤ N ∧ i = .int .i64 k ∧ Below w3.heap.size w3 wr) (fun i _ => N - (intOf i).toNat)
  case atStart => exact ⟨0, Nat.zero_le _, rfl, Below.refl _ _⟩
  case round =>
    obtain ⟨k, hk, rfl, hb⟩ := hrel
    have e0 := below_cell hb hwl c0
    have e1 := below_cell hb hwl c1
    by_cases hlt : k < N
    · go_wp2
      go_loopw [8] (fun j ws => ∃ m : Nat, m ≤ N ∧ j = .int .i64 m ∧ Below w3.heap.size w3 ws) (fun j _ => N - (intOf j).toNat)
      case atStart => exact ⟨0, Nat.zero_le _, rfl, hb⟩
      case round =>
        clear e0 e1 hb
        obtain ⟨m, hm, rfl, hb⟩ := hrel
        have e0 := below_cell hb hwl c0
        have hbH := Lib.hid hb
        by_cases hlt2 : m < N
        · obtain ⟨bd, od, rfl, hbdl, ca⟩ := rowsV_at hd2.out hlt
          obtain ⟨hga, cab⟩ := row_at (hrw2.out k hlt) hlt2
          obtain ⟨bp, op, rfl, hbpl, cpk⟩ := hp3.out.row hlt
          obtain ⟨_, _, hA', _, cpm⟩ := hp3.out.row hlt2
          injection hA' with hA'
          injection hA' with q1 q2 _
          subst q1 q2
          have ca := below_cell hb hbdl ca
          have cab := below_cell hb hga cab
          have cpk := below_cell hb hbpl cpk
          have cpm := below_cell hb hbpl cpm
          have hpe : (((part (nearW N es) k : Nat) : Int) == ((part (nearW N es) m : Nat) : Int)) = decide (0 ≤ far (nearW N es) k m) := by
            have := part_eq hgrH.out hlt hlt2
            by_cases hf : 0 ≤ far (nearW N es) k m
            · rw [this.2 hf]; simp [hf]
            · have hne : part (nearW N es) k ≠ part (nearW N es) m := fun e => hf (this.1 e)
              simp [hf]
              omega
          have hpg : decide ((k : Int) < ((part (nearW N es) k : Nat) : Int)) = false := by
            have := (part_at hgrH.out hlt).1
            simp; omega
          have hpn : part (nearW N es) k ≤ k := (part_at hgrH.out hlt).1
          have hk0 : (0 : Int) ≤ k := by omega
          have hm0 : (0 : Int) ≤ m := by omega
          have hkN : (k : Int) < N := by omega
          have hmN : (m : Int) < N := by omega
          clear hb
          generalize part (nearW N es) k = pk at *
          generalize part (nearW N es) m = pm at *
          generalize far (nearW N es) k m = fx at *
          generalize hz : decide (0 ≤ fx) = z at *
          have hzz : (z != z) = false := by cases z <;> rfl
          clear hgrH hle htbH
          go_wp2
          refine wp_region_quiet_lit (by kernel_rfl) (by kernel_rfl) ?_
          repeat (go_big_quiet_step (fail))
          refine wpQuiet_nil ?_
          intro _ hw'
          obtain ⟨nq, hw''⟩ := hw'
          subst hw''
          go_wp2
          · go_roundw
            case rel => exact ⟨m + 1, by omega, by go_num, below_drewN hbH.out nq⟩
            case measure => simp [intOf]; omega
        · obtain rfl : N = m := by omega
          go_wp2
          go_roundw
          case rel => exact ⟨k + 1, by omega, by go_num, hb⟩
          case measure => simp [intOf]; omega
    · obtain rfl : N = k := by omega
      have hH := Lib.hid (fun n => unlike_any Ap N cp _ (wr.drewN n) (show Rd (wr.drewN n) Ap N 1 (ints .i64 ((List.range N).map fun i => ((part (nearW N es) i : Nat) : Int))) from by
        have := hp3.out.later (below_drewN hb n)
        rw [show ints .i64 ((List.range N).map fun i => ((part (nearW N es) i : Nat) : Int)) = row N (fun i => ((part (nearW N es) i : Nat) : Int)) by simp [row, ints]]
        exact this) (by omega) hpl)
      have hun := hle.out
      rw [hel] at hun
      have hul : unl ((List.range N).map fun i => ((part (nearW N es) i : Nat) : Int)) ≤ N := by have := unl_le ((List.range N).map fun i => ((part (nearW N es) i : Nat) : Int)); simpa using this
      generalize unl ((List.range N).map fun i => ((part (nearW N es) i : Nat) : Int)) = u at *
      have hw1 : IntKind.i64.wrap ((N : Int) - (u : Int)) = (N : Int) - (u : Int) := IntWalk.i64_in _ (by omega)
      have hd1 : decide ((N : Int) - (u : Int) ≤ (len : Int)) = true := by simp; omega
      have hbH := Lib.hid hb
      clear hb hle hrw2 hd2 hp3
      go_wp2
      go_quiet ((go_at_call 10; with_reducible exact quiet_left (hH.out _)))
      go_wp2
      go_ret
      exact ⟨rfl, hbb2.out.trans ((below_drewN hbH.out nq).mono hs0)⟩
theorem graphLinked_any (N : Int) (A : Option Addr) (len cap : Nat) (es : List E) (w : World) (_ : (Lit.int .i64 N).wf = true) (hr : Rd w A len 3 (ps3 .i64 .i64 .i64 es)) (hlen : len ≤ maxLen) (hcap : len ≤ cap) (_ : ∀ a ∈ es, (Lit.int .i64 a.1).wf = true ∧ (Lit.int .i64 a.2.1).wf = true ∧ (Lit.int .i64 a.2.2).wf = true)
    (htb : Tb w) (hg : 0 < w.heap.size) :
    Calls Tryd.prog 4 #[.agg #[.int .i64 N, .slice A len cap]] w fun e w' => e = .returned (.bool true) ∧ Below w.heap.size w w' := by
  unfold maxLen at hlen
  by_cases hc : gchk N es = 0
  · obtain ⟨h0, _, _, _, _⟩ := gchk_ok hc
    obtain ⟨n, rfl⟩ := Int.eq_ofNat_of_zero_le h0
    exact graphLinked_ok n A len cap es w hr hcap hc htb hg
  · exact graphLinked_bad N A len cap es w hr (by omega) hcap hc
end Go.Proofs.YtbdgefkpmgkecaaDoor
