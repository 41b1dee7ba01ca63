/- place.many: how many can have a place. -/
import Derived.Test.YticffbcbfgboeaaPlaceA
namespace Go.Proofs.Yticffbcbfgboeaa
open Go.RowKit Go.Shelf

def wat (ws : List (Int × Int)) (j : Nat) : Int × Int := ws.getD j (0, 0)
def PDm (ws : List (Int × Int)) (ts : List Nat) (R : Nat → Int) : PD := ⟨ws.length, ts.length, fun i j => mayI (wat ws j).2 (ts.getD i 0 : Nat), R⟩
def wTo (d : PD) (k m : Nat) : List Arc := ((k : Int), ((d.nw + d.nt + 1 : Nat) : Int), d.room k, 0) :: ((List.range m).filter fun i => d.may i k).map fun i => (((d.nw + i : Nat) : Int), (k : Int), 1, 0)
theorem wTo_zero (d : PD) (k : Nat) : wTo d k 0 = [((k : Int), ((d.nw + d.nt + 1 : Nat) : Int), d.room k, 0)] := rfl
theorem wTo_yes {d : PD} {k m : Nat} (h : d.may m k = true) : wTo d k (m + 1) = wTo d k m ++ [(((d.nw + m : Nat) : Int), (k : Int), 1, 0)] := by
  unfold wTo
  rw [List.range_succ, List.filter_append, List.map_append]
  simp [h]
theorem wTo_no {d : PD} {k m : Nat} (h : d.may m k = false) : wTo d k (m + 1) = wTo d k m := by
  unfold wTo
  rw [List.range_succ, List.filter_append, List.map_append]
  simp [h]
theorem wTo_len (d : PD) (k m : Nat) : (wTo d k m).length ≤ m + 1 := by
  unfold wTo
  rw [List.length_cons, List.length_map]
  have := List.length_filter_le (fun i => d.may i k) (List.range m)
  rw [List.length_range] at this
  omega
theorem arcsTo_succ (d : PD) (k : Nat) : d.arcsTo (k + 1) = d.arcsTo k ++ wTo d k d.nt := by
  unfold PD.arcsTo
  rw [List.range_succ, List.flatMap_append]
  simp [PD.wArcs, wTo]
theorem arcsTo_len (d : PD) : ∀ k, (d.arcsTo k).length ≤ k * (d.nt + 1)
  | 0 => by simp [PD.arcsTo]
  | k + 1 => by
    rw [arcsTo_succ, List.length_append]
    have h1 := arcsTo_len d k
    have h2 := wTo_len d k d.nt
    rw [Nat.add_mul]
    omega
theorem arcsTo_78 {d : PD} {k : Nat} (hk : k ≤ 6) (ht : d.nt ≤ 12) : (d.arcsTo k).length ≤ 78 := Nat.le_trans (arcsTo_len d k) (Nat.mul_le_mul hk (by omega : d.nt + 1 ≤ 13))
theorem tArcs_succ (d : PD) (k : Nat) : d.tArcs (k + 1) = d.tArcs k ++ [(((d.nw + d.nt : Nat) : Int), ((d.nw + k : Nat) : Int), 1, 0)] := by
  unfold PD.tArcs
  rw [List.range_succ, List.map_append]; rfl
theorem tArcs_len (d : PD) (k : Nat) : (d.tArcs k).length = k := by simp [PD.tArcs]
set_option maxHeartbeats 3200000 in
set_option maxRecDepth 100000 in
theorem many_any (A B C : Option Addr) (nw nt cA cB cC : Nat) (ws : List (Int × Int)) (ts : List Nat) (R : Nat → Int) (w : World) (hw : Rd w A nw 2 (ps2 .i64 .u32 ws)) (ht : Rd w B nt 1 (wds ts)) (hr : Rd w C nw 1 (row nw R))
    (hnw : nw ≤ 6) (hnt : nt ≤ 12) (hR : ∀ j, j < nw → 0 ≤ R j ∧ R j ≤ 1048576) :
    Calls Try.prog 35 #[.slice A nw cA, .slice B nt cB, .slice C nw cC] w fun e w' => (∃ K, e = .returned (.int .i64 K) ∧ 0 ≤ K ∧ K ≤ nt ∧ MaxPl (PDm ws ts R) K) ∧ Below w.heap.size w w' := by
  have hwl : ws.length = nw := by have := hw.1; rw [ps2_length] at this; omega
  have htl : ts.length = nt := by have := ht.1; rw [wds_length] at this; omega
  obtain ⟨d, hd⟩ : ∃ d, d = PDm ws ts R := ⟨_, rfl⟩
  have d1 : d.nw = nw := by rw [hd]; exact hwl
  have d2 : d.nt = nt := by rw [hd]; exact htl
  have d3 : d.room = R := by rw [hd]; rfl
  have d4 : ∀ i j, d.may i j = mayI (wat ws j).2 (ts.getD i 0 : Nat) := by rw [hd]; exact fun _ _ => rfl
  obtain ⟨M, hM⟩ : ∃ M : Nat, M = nw + nt := ⟨_, rfl⟩
  obtain ⟨T, hT⟩ : ∃ T : Nat, T = M + 1 := ⟨_, rfl⟩
  obtain ⟨N, hN⟩ : ∃ N : Nat, N = M + 2 := ⟨_, rfl⟩
  have m1 : IntKind.i64.wrap ((nw : Int) + nt) = M := by rw [IntWalk.i64_in _ (by omega)]; omega
  have m2 : IntKind.i64.wrap ((M : Int) + 2) = N := by rw [IntWalk.i64_in _ (by omega)]; omega
  have m3 : IntKind.i64.wrap ((N : Int) - 2) = M := by rw [IntWalk.i64_in _ (by omega)]; omega
  have m4 : IntKind.i64.wrap ((N : Int) - 1) = T := by rw [IntWalk.i64_in _ (by omega)]; omega
  have hwH := Lib.hid hw; have htH := Lib.hid ht; have hrH := Lib.hid hr; have hRH := Lib.hid hR; have hMH := Lib.hid hM; have hTH := Lib.hid hT; have hNH := Lib.hid hN
  have d1H := Lib.hid d1; have d2H := Lib.hid d2; have d3H := Lib.hid d3; have d4H := Lib.hid d4; have hwlH := Lib.hid hwl; have htlH := Lib.hid htl; have hdH := Lib.hid hd
  clear hw ht hr hR hM hT hN d1 d2 d3 d4 hwl htl hd
  have hK := Blk.new w 78 #[.int .i64 N, .slice none 0 0]
  have k0 := hK.cell (j := 0) rfl
  have lk := hK.lt
  have hb0 := (Below.refl _ w).alloc (Nat.le_refl _) (.cells #[.int .i64 N, .slice none 0 0] 78)
  have hKH := Lib.hid (show NA w.heap.size N (d.arcsTo 0) (.slice none 0 0) _ from ⟨hK, World.ownsRow_nil _ _ _ _⟩); have hb0H := Lib.hid hb0
  clear hK hb0
  go_enter Try.func35, Try.ntmps35
  go_wp2
  go_quiet (fail)
  go_wp2
  go_loopw [11, 12, 13, 14, 34] (fun _ _ _ _ i wr => ∃ (k : Nat) (v : Value), k ≤ nw ∧ i = .int .i64 k ∧ NA w.heap.size N (d.arcsTo k) v wr ∧ Below w.heap.size w wr) (fun _ _ _ _ i _ => nw - (intOf i).toNat)
  case atStart => exact ⟨0, _, Nat.zero_le _, rfl, hKH.out.later (below_drewN (Below.refl _ _) _), below_drewN hb0H.out _⟩
  case round =>
    obtain ⟨wo, rfl⟩ : ∃ wo : World, wo = wr := ⟨_, rfl⟩
    obtain ⟨k, v, hk, rfl, hN, hb⟩ := hrel
    by_cases hlt : k < nw
    · obtain ⟨ba, oa, rfl, hba, a0, a1⟩ := (hwH.out.later hb).pair hlt
      obtain ⟨bc, oc, rfl, hbc, c0⟩ := (hrH.out.later hb).row hlt
      have h78 := Lib.hid (arcsTo_78 (d := d) (k := k) (by omega) (by rw [d2H.out]; exact hnt))
      have hmy := Lib.hid (fun i => d4H.out i k)
      unfold wat at hmy
      generalize ws.getD k (0, 0) = c at *
      obtain ⟨cr, ch⟩ := c
      dsimp only at a0 a1 hmy
      have hq := Blk.new wo 39 #[.int .i64 cr, .int .u32 ch]
      have hqv : v.ownBlock ≠ some wo.heap.size := fun e => by have := (hN.ow.lt _ e).2; omega
      have hp1 := hN.lt
      have HA := Lib.hid (arc_any w.heap.size N (d.arcsTo k) v _ (hN.alloc (.cells #[.int .i64 cr, .int .u32 ch] 39)) (by have := h78.out; omega) k T (R k))
      have hqH := Lib.hid hq; have hqvH := Lib.hid hqv; have hbH := Lib.hid (hb.alloc hb.size (.cells #[.int .i64 cr, .int .u32 ch] 39))
      clear hN hb hq hqv
      go_wp2_with fail
      refine HA.out.mono ?_
      rintro e w2 ⟨⟨x, rfl⟩, v2, hN2, hb2, hk2⟩
      have hb2' := hbH.out.trans hb2
      obtain ⟨hq2, hqv2⟩ := hk2 wo.heap.size _ _ hqH.out (by omega) hqvH.out
      have e1 : d.arcsTo k ++ [((k : Int), (T : Int), R k, 0)] = d.arcsTo k ++ wTo d k 0 := by
        rw [wTo_zero, d1H.out, d2H.out, d3H.out, hTH.out, hMH.out]
      rw [e1] at hN2
      have hN2H := Lib.hid hN2; have hb2H := Lib.hid hb2'; have hq2H := Lib.hid hq2; have hqv2H := Lib.hid hqv2
      clear hN2 hb2 hb2' hk2 hq2 hqv2 hqvH hqH hbH HA e1 a0 a1 c0 hba hbc
      go_wp2
      go_loopw [13, 14, 49] (fun _ _ i wr => ∃ (m : Nat) (v : Value), m ≤ nt ∧ i = .int .i64 m ∧ NA w.heap.size N (d.arcsTo k ++ wTo d k m) v wr ∧ Below w.heap.size w wr ∧ Blk wr wo.heap.size 39 #[.int .i64 cr, .int .u32 ch] ∧ v.ownBlock ≠ some wo.heap.size) (fun _ _ i _ => nt - (intOf i).toNat)
      case atStart => exact ⟨0, v2, Nat.zero_le _, rfl, hN2H.out, hb2H.out, hq2H.out, hqv2H.out⟩
      case round =>
        clear hN2H hb2H hq2H hqv2H
        obtain ⟨m, v5, hm, rfl, hN, hb, hq, hqv⟩ := hrel
        by_cases hlt2 : m < nt
        · obtain ⟨bt, ot, rfl, hbt, t0⟩ := (htH.out.later hb).wd hlt2
          have hmk := hmy.out m
          generalize ((ts.getD m 0 : Nat) : Int) = tk at *
          have w0 := hq.cell (j := 0) rfl
          have w1 := hq.cell (j := 1) rfl
          have hql := hq.lt
          have hpl := hN.lt
          have hlen : (d.arcsTo k ++ wTo d k m).length ≤ 91 := by
            rw [List.length_append]
            have := h78.out
            have := wTo_len d k m
            omega
          have HM := Lib.hid (may_any cr ch tk wr)
          have HN := Lib.hid hN; have hbH := Lib.hid hb; have hqH := Lib.hid hq; have hqvH := Lib.hid hqv; have hmkH := Lib.hid hmk; have hlenH := Lib.hid hlen
          clear hN hb hq hqv hmk hlen
          go_wp2_with fail
          refine HM.out.mono ?_
          rintro e w3 ⟨rfl, hb3⟩
          have hN3 := HN.out.later hb3
          have hq3 := hqH.out.below hb3 hql
          have hb3' := hbH.out.trans (hb3.mono hbH.out.size)
          have HA := Lib.hid (arc_any w.heap.size N (d.arcsTo k ++ wTo d k m) v5 w3 hN3 (by have := hlenH.out; omega) ((nw : Int) + m) k 1)
          have HN3 := Lib.hid hN3; have hb3H := Lib.hid hb3'; have hq3H := Lib.hid hq3
          clear hN3 hb3 hb3' hq3 HN hbH hqH HM w0 w1 t0
          cases hmay : mayI ch tk
          · have hno := Lib.hid (wTo_no (hmkH.out.trans hmay))
            go_wp2
            go_roundw
            case rel => exact ⟨m + 1, v5, by omega, by go_num, by rw [hno.out]; exact HN3.out, hb3H.out, hq3H.out, hqvH.out⟩
            case measure => simp [intOf]; omega
          · have hyes := Lib.hid (wTo_yes (hmkH.out.trans hmay))
            go_wp2_with fail
            refine HA.out.mono ?_
            rintro e w4 ⟨⟨x4, rfl⟩, v4, hN4, hb4, hk4⟩
            obtain ⟨hq4, hqv4⟩ := hk4 wo.heap.size _ _ hq3H.out (by omega) hqvH.out
            have e4 : d.arcsTo k ++ wTo d k m ++ [((nw : Int) + m, (k : Int), (1 : Int), (0 : Int))] = d.arcsTo k ++ wTo d k (m + 1) := by
              rw [hyes.out, d1H.out, List.append_assoc, Int.natCast_add]
            rw [e4] at hN4
            have hfin := Lib.hid (And.intro hN4 (And.intro (hb3H.out.trans hb4) (And.intro hq4 hqv4)))
            clear hN4 hb4 hk4 hq4 hqv4 e4
            go_wp2
            go_roundw
            case rel => exact ⟨m + 1, v4, by omega, by go_num, hfin.out⟩
            case measure => simp [intOf]; omega
        · obtain rfl : m = nt := by omega
          have hfin := Lib.hid (show NA w.heap.size N (d.arcsTo (k + 1)) v5 wr ∧ Below w.heap.size w wr from ⟨by
            rw [arcsTo_succ, d2H.out]; exact hN, hb⟩)
          clear hN hb hq hqv
          go_wp2
          go_roundw
          case rel => exact ⟨k + 1, v5, by omega, by go_num, hfin.out⟩
          case measure => simp [intOf]; omega
    · obtain rfl : k = nw := by omega
      have HN := Lib.hid hN; have hbH := Lib.hid hb
      have h78 := Lib.hid (arcsTo_78 (d := d) hnw (by rw [d2H.out]; exact hnt))
      clear hN hb hb0H hKH
      go_wp2
      go_loopw [15, 68] (fun _ i wr => ∃ (m : Nat) (v : Value), m ≤ nt ∧ i = .int .i64 m ∧ NA w.heap.size N (d.arcsTo k ++ d.tArcs m) v wr ∧ Below w.heap.size w wr) (fun _ i _ => nt - (intOf i).toNat)
      case atStart => exact ⟨0, v, Nat.zero_le _, rfl, by simpa [PD.tArcs] using HN.out, hbH.out⟩
      case round =>
        clear HN hbH
        obtain ⟨m, v5, hm, rfl, hN, hb⟩ := hrel
        have hpl := hN.lt
        have hlen : (d.arcsTo k ++ d.tArcs m).length ≤ 91 := by
          rw [List.length_append, tArcs_len]
          have := h78.out
          omega
        by_cases hlt2 : m < nt
        · have HA := Lib.hid (arc_any w.heap.size N (d.arcsTo k ++ d.tArcs m) v5 _ hN (by omega) M ((k : Int) + m) 1)
          have hbH := Lib.hid hb; have hlenH := Lib.hid hlen
          clear hN hb hlen
          go_wp2_with fail
          refine HA.out.mono ?_
          rintro e w4 ⟨⟨x4, rfl⟩, v4, hN4, hb4, hk4⟩
          have e4 : d.arcsTo k ++ d.tArcs m ++ [((M : Int), (k : Int) + m, (1 : Int), (0 : Int))] = d.arcsTo k ++ d.tArcs (m + 1) := by
            rw [tArcs_succ, d1H.out, d2H.out, List.append_assoc, hMH.out, Int.natCast_add k m]
          rw [e4] at hN4
          have hfin := Lib.hid (And.intro hN4 (hbH.out.trans hb4))
          clear hN4 hb4 hk4 e4
          go_wp2
          go_roundw
          case rel => exact ⟨m + 1, v4, by omega, by go_num, hfin.out⟩
          case measure => simp [intOf]; omega
        · obtain rfl : m = nt := by omega
          have e5 : d.arcsTo k ++ d.tArcs m = d.net := by unfold PD.net; rw [d1H.out, d2H.out]
          have hNf : N = d.nw + d.nt + 2 := by rw [d1H.out, d2H.out, hNH.out, hMH.out]
          have hMf : M = d.nw + d.nt := by rw [d1H.out, d2H.out, hMH.out]
          have hTf : T = d.nw + d.nt + 1 := by rw [hTH.out, hMf]
          rw [e5] at hN hlen
          have hdR : ∀ j, j < d.nw → 0 ≤ d.room j ∧ d.room j ≤ 1048576 := by rw [d1H.out, d3H.out]; exact hRH.out
          have hok : NOk N d.net := by rw [hNf]; exact d.ok hdR
          have hN32 : N ≤ 32 ∧ M < N ∧ T < N ∧ M ≠ T := by
            have h1 := hNH.out; have h2 := hMH.out; have h3 := hTH.out
            omega
          have k0 := hN.bk.cell (j := 0) rfl
          have k1 := hN.bk.cell (j := 1) rfl
          have hpl := hN.lt
          obtain ⟨A7, c7, rfl⟩ := own_slice hN.ow
          have HF := Lib.hid (fun W (hW : Rd W A7 d.net.length 4 (arcs d.net)) => fill_any N d.net.length d.net A7 c7 W hW hok (by omega) hN32.1 M T hN32.2.1 hN32.2.2.1 hN32.2.2.2)
          have hrd := Lib.hid (Rd.of_own hN.ow)
          have hbH := Lib.hid hb
          have hfp := Lib.hid (fun f v (hM : Mxf N d.net M T f v) => (show MaxPl (PDm ws ts R) v by
            obtain ⟨S, h1, h2, h3⟩ := hM.ct
            rw [hMf] at h1
            rw [hTf] at h2
            have hfl := hM.fl
            rw [hNf, hMf, hTf] at hfl
            rw [← hdH.out]
            exact fill_place hdR hfl h1 h2 h3))
          have hupH := Lib.hid (show ∀ v, MaxPl (PDm ws ts R) v → 0 ≤ v ∧ v ≤ m from fun v hv => by
            obtain ⟨⟨P, _, hc⟩, _⟩ := hv
            have h1 := cntPl_nonneg (PDm ws ts R).nt P
            have h2 : cntPl (PDm ws ts R).nt P ≤ (PDm ws ts R).nt := by
              unfold cntPl
              refine Int.le_trans (sm_le (h := fun _ => 1) fun i _ => ?_) (by rw [sm_const]; omega)
              split <;> omega
            have h3 : (PDm ws ts R).nt = m := htlH.out
            rw [h3] at h2 h1 hc
            omega)
          clear hN hb hok hdR e5 hlen hNf hMf hTf hN32
          go_wp2_with fail
          refine (HF.out _ hrd.out).mono ?_
          rintro e w6 ⟨f, v, gl, c8, rfl, hown, hM6, hv0, hb6⟩
          have hfin := Lib.hid (And.intro (hfp.out f v hM6) (hbH.out.trans (hb6.mono hbH.out.size)))
          clear hown hM6 hb6 hfp HF hrd hbH
          go_wp2
          go_ret
          exact ⟨⟨v, rfl, (hupH.out v hfin.out.1).1, (hupH.out v hfin.out.1).2, hfin.out.1⟩, hfin.out.2⟩
end Go.Proofs.Yticffbcbfgboeaa
