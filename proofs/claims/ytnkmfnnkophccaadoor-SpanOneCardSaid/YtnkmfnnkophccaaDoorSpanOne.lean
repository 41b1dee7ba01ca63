/- SpanOne: the walk. -/
import Derived.Test.YtnkmfnnkophccaaDoorSpanOneA
import Derived.Test.YtnkmfnnkophccaaDoorCard
import Derived.Deep.RegionHeld3
namespace Go.Proofs.YtnkmfnnkophccaaDoor
open Go.RowKit Go.Shelf
attribute [local go_sem] Oper.semAt_some

/-- the graph with an edge less, in a block of its own -/
def CutH (n : Nat) (fs : List E) (B : Nat) (w : World) (p : Value) (wx : World) : Prop := ∃ (bm : Nat) (A' : Option Addr) (c' : Nat), p = .pointer (some ⟨bm, 0, none⟩) ∧ Blk wx bm 27 #[.int .i64 (n : Int), .slice A' fs.length c'] ∧ Rd wx A' fs.length 3 (ps3 .i64 .i64 .i64 fs) ∧ fs.length ≤ c' ∧ Below B w wx
set_option maxHeartbeats 3200000 in
set_option maxRecDepth 100000 in
theorem one_walk (N : Int) (ev : Nat) (hev : ev < 256) (A : Option Addr) (len cap : Nat) (es : List E) (w : World) (hr : Rd w A len 3 (ps3 .i64 .i64 .i64 es)) (hlen : len ≤ 9223372036854775807) (hcap : len ≤ cap) (htb : Tb w) (hg : 0 < w.heap.size) :
    Calls Tryd.prog 4 #[.agg #[.int .i64 N, .slice A len cap], .int .u8 (ev : Int)] w fun e w' => e = .returned (.bool true) ∧ Below w.heap.size w w' := by
  have hel := ps3_len hr
  have gb := (Below.refl _ w).alloc (Nat.le_refl _) (.cells #[.int .i64 N, .slice A len cap] 27)
  have hK := Blk.new w 27 #[.int .i64 N, .slice A len cap]
  have g0 := hK.cell (j := 0) (v := .int .i64 N) rfl
  have g1 := hK.cell (j := 1) (v := .slice A len cap) rfl
  have HG := Lib.hid (fun W (h : Below w.heap.size w W) => good_any N A len cap es W (hr.later h) hlen hcap)
  cases hq : gchk N es == 0
  · have HM := Lib.hid (many_bad N A len cap es _ (hr.later gb) hlen hq)
    have hne : (gchk N es != 0) = true := by rw [bne, hq]; rfl
    rw [hq] at HG
    have gbH := Lib.hid gb; have hKH := Lib.hid hK
    clear hr htb gb hK hq hel
    generalize gchk N es = z at *
    go_enter Tryd.func4, Tryd.ntmps4
    go_wp2_with fail
    refine HM.out.mono ?_
    rintro _ w1 ⟨rfl, hb1⟩
    have hbw1 := Lib.hid (gbH.out.trans (hb1.mono gbH.out.size))
    have hK1 := Lib.hid (hKH.out.below hb1 hKH.out.lt)
    have q0 := hK1.out.cell (j := 0) (v := .int .i64 N) rfl
    have q1 := hK1.out.cell (j := 1) (v := .slice A len cap) rfl
    clear HM hb1 g0 g1 hKH gbH
    go_wp2_with fail
    refine (HG.out _ hbw1.out).mono ?_
    rintro _ w2 ⟨rfl, hb2⟩
    have hfin := Lib.hid (hbw1.out.trans (hb2.mono hbw1.out.size))
    clear HG hb2 q0 q1 hK1
    go_wp2
    go_ret
    exact ⟨rfl, hfin.out⟩
  · have hok : gchk N es = 0 := by simpa using hq
    obtain ⟨h0, h10, h45, hokE, _⟩ := gchk_ok hok
    obtain ⟨n, rfl⟩ := Int.eq_ofNat_of_zero_le h0
    rw [Int.toNat_natCast] at hokE
    have hN : n ≤ 10 := by omega
    have hl45 : len ≤ 45 := by omega
    have hOk := (gchk_iff.1 hok).2
    rw [hq] at HG
    have HM := Lib.hid (many_good n A len cap es _ (hr.later gb) hok (htb.below hg gb) (Nat.lt_of_lt_of_le hg gb.size))
    have HP := Lib.hid (fun W (h : Below w.heap.size w W) => partsL_any n A len cap es W (hr.later h) hN hl45 hokE)
    have HF := Lib.hid (fun W (h : Below w.heap.size w W) => fewer_any n (ev % len) A len cap es W (hr.later h) hl45)
    have hrest := Lib.hid (fun (hl : len ≠ 0) => show gchk n (es.eraseIdx (ev % len)) = 0 ∧ (rts n es < rts n (es.eraseIdx (ev % len)) ∨ prodT n (es.eraseIdx (ev % len)) n < prodT n es n) from by
      have hi : ev % len < es.length := by rw [hel]; exact Nat.mod_lt _ (by omega)
      exact ⟨fewer_ok hok hi, fewer_law hOk hN hi⟩)
    have hP1 := prodT_pos hokE hN n (Nat.le_refl n)
    have hPs := prodT_small hokE hN (Nat.le_refl n)
    have hone := one_iff hOk hN
    rw [hel] at hone
    have hu : rts n es ≤ n := cntB_le_n _ _
    have HU := Lib.hid (fun A' c' W (h : Rd W A' n 1 (ints .i64 (labs n es))) (hc : n ≤ c') => unlikeL_any n A' c' es W h hN hc)
    obtain ⟨P, hP⟩ : ∃ x, prodT n es n = x := ⟨_, rfl⟩
    obtain ⟨u, hu0⟩ : ∃ x, rts n es = x := ⟨_, rfl⟩
    rw [hP] at HM hP1 hPs hone
    rw [hP, hu0] at hrest
    rw [hu0] at hone hu HU
    have d1 : decide (P < 1) = false := decide_eq_false (by omega)
    have d2 : (!((P == 1) == ((len : Int) == (n : Int) - (u : Int)))) = false := by
      have : (P == 1) = ((len : Int) == (n : Int) - (u : Int)) := by
        rw [Bool.eq_iff_iff, beq_iff_eq, beq_iff_eq, hone]; omega
      rw [this]; simp
    have gbH := Lib.hid gb; have hKH := Lib.hid hK
    have htbH := Lib.hid htb; have hokEH := Lib.hid hokE
    clear hr htb gb hK hq hel hok hokE hOk hone hP hu0 h45 hPs hP1
    go_enter Tryd.func4, Tryd.ntmps4
    go_wp2_with fail
    refine HM.out.mono ?_
    rintro _ w1 ⟨rfl, hb1⟩
    have hbw1 := Lib.hid (gbH.out.trans (hb1.mono gbH.out.size))
    have hK1 := Lib.hid (hKH.out.below hb1 hKH.out.lt)
    have q0 := hK1.out.cell (j := 0) (v := .int .i64 n) rfl
    have q1 := hK1.out.cell (j := 1) (v := .slice A len cap) rfl
    clear HM hb1 g0 g1 hKH gbH
    go_wp2_with fail
    refine (HG.out _ hbw1.out).mono ?_
    rintro _ w2 ⟨rfl, hb2⟩
    have hbw2 := Lib.hid (hbw1.out.trans (hb2.mono hbw1.out.size))
    have hK2 := Lib.hid (hK1.out.below hb2 hK1.out.lt)
    have q0 := hK2.out.cell (j := 0) (v := .int .i64 n) rfl
    have q1 := hK2.out.cell (j := 1) (v := .slice A len cap) rfl
    clear HG hb2 hK1 hbw1
    go_wp2_with fail
    refine (HP.out _ hbw2.out).mono ?_
    rintro _ w3 ⟨⟨A3, c3, rfl, hR3, hc3⟩, hb3⟩
    have hbw3 := Lib.hid (hbw2.out.trans (hb3.mono hbw2.out.size))
    have hK3 := Lib.hid (hK2.out.below hb3 hK2.out.lt)
    have q0 := hK3.out.cell (j := 0) (v := .int .i64 n) rfl
    have q1 := hK3.out.cell (j := 1) (v := .slice A len cap) rfl
    have HU3 := Lib.hid (HU.out _ _ _ hR3 hc3)
    clear HP hb3 hK2 hbw2 hR3 HU
    go_wp2_with fail
    refine HU3.out.mono ?_
    rintro _ _ ⟨rfl, rfl⟩
    clear HU3
    by_cases hl : len = 0
    · subst hl
      have d3 : (!((P == 1) == ((0 : Int) == (n : Int) - (u : Int)))) = false := d2
      clear hrest HF d2
      go_wp2
      go_ret
      exact ⟨rfl, hbw3.out⟩
    · have hl0 : ((len : Int) == 0) = false := by simp [hl]
      have hlH := Lib.hid hl
      obtain ⟨hok', hlaw⟩ := hrest.out hl
      obtain ⟨i, hi⟩ : ∃ i, ev % len = i := ⟨_, rfl⟩
      rw [hi] at hok' hlaw HF
      have hw1 : IntKind.i64.wrap (ev : Int) = ev := IntWalk.i64_in _ (by omega)
      have hw2 : Int.tmod (ev : Int) len = i := by rw [Int.tmod_eq_emod_of_nonneg (by omega)]; omega
      have hl0Z : ¬ (len : Int) = 0 := by omega
      obtain ⟨fs, hfs⟩ : ∃ fs, es.eraseIdx i = fs := ⟨_, rfl⟩
      rw [hfs] at hok' hlaw HF
      have hlawH := Lib.hid hlaw; have hok'H := Lib.hid hok'
      clear hrest hi hlaw hok' hfs
      have hwl : w.heap.size < w3.heap.size := hK3.out.lt
      go_upto_region 9 with fail
      go_cut [8] (fun p wx => CutH n fs w3.heap.size w3 p wx)
      case first =>
        have hbA0 := (Below.refl w3.heap.size w3).drew
        have hbA1 := ((Below.refl w3.heap.size w3).alloc (Nat.le_refl _) (.cells #[.int .i64 0, .slice none 0 0] 27)).drew
        have HF0 := Lib.hid (HF.out _ (hbw3.out.trans (hbA0.mono hbw3.out.size)))
        have HF1 := Lib.hid (HF.out _ (hbw3.out.trans (hbA1.mono hbw3.out.size)))
        go_region_held3 (fun w' => w'.cell? ⟨w.heap.size, 0, none⟩ = some (.int .i64 (n : Int)) ∧ w'.cell? ⟨w.heap.size, 1, none⟩ = some (.slice A len cap)) (first
          | go_keep
          | exact ⟨below_cell hbA hwl q0, below_cell hbA hwl q1⟩
          | exact ⟨alloc_cell (Nat.lt_of_lt_of_le hwl hbA.size) (below_cell hbA hwl q0) _, alloc_cell (Nat.lt_of_lt_of_le hwl hbA.size) (below_cell hbA hwl q1) _⟩
          | exact ⟨cell_set_other (by omega) (cell_set_other (by omega) (below_cell hbA hwl q0)), cell_set_other (by omega) (cell_set_other (by omega) (below_cell hbA hwl q1))⟩
          | fail) ((first
          | (go_at_call 10
             (with_reducible refine HF0.out.mono ?_)
             rintro _ wA ⟨A4, c4, rfl, ho4, hc4, hb4⟩
             have hbA := hbA0.trans hb4
             clear hb4)
          | (go_at_call 10
             (with_reducible refine HF1.out.mono ?_)
             rintro _ wA ⟨A4, c4, rfl, ho4, hc4, hb4⟩
             have hbA := hbA1.trans (hb4.mono (by simp))
             have hKA : Blk wA w3.heap.size 27 #[.int .i64 0, .slice none 0 0] := (show Blk (w3.alloc (.cells #[.int .i64 0, .slice none 0 0] 27)).drew w3.heap.size 27 #[.int .i64 0, .slice none 0 0] from Blk.new w3 27 #[.int .i64 0, .slice none 0 0]).below hb4 (by simp)
             have n0 := hKA.cell (j := 0) rfl
             have n1 := hKA.cell (j := 1) rfl
             have nf := hKA.frozen 0
             have nf1 := hKA.frozen 1
             have nl := hKA.lt
             clear hb4)
          | fail))
        all_goals
          go_wp2_with fail
          go_meet
          first
          | exact ⟨_, A4, c4, rfl, Blk.new wA _ _, Rd.of_own (ho4.alloc _), hc4, hbA.alloc hbA.size _⟩
          | exact ⟨_, A4, c4, rfl, (hKA.set 0 (.int .i64 (n : Int))).set 1 (.slice A4 fs.length c4), Rd.of_own (own_set_other (own_set_other ho4 (fun e => by have := (ho4.lt _ e).1; simp at this; omega) _) (fun e => by have := (ho4.lt _ e).1; simp at this; omega) _), hc4, (hbA.setCell (p := ⟨w3.heap.size, 0, none⟩) (Nat.le_refl _) _).setCell (p := ⟨w3.heap.size, 1, none⟩) (Nat.le_refl _) _⟩
      case rest =>
        obtain ⟨bm, A5, c5, rfl, hKm, hR5, hc5, hbc⟩ := hcut
        have hbw5 := Lib.hid (hbw3.out.trans (hbc.mono hbw3.out.size))
        have m0 := hKm.cell (j := 0) (v := .int .i64 (n : Int)) rfl
        have m1 := hKm.cell (j := 1) (v := .slice A5 fs.length c5) rfl
        have hfl : fs.length ≤ 45 := (gchk_ok hok'H.out).2.2.1
        have hokE' := (gchk_ok hok'H.out).2.2.2.1
        rw [Int.toNat_natCast] at hokE'
        have HM := Lib.hid (many_good n A5 fs.length c5 fs wc hR5 hok'H.out (htbH.out.below hg hbw5.out) (Nat.lt_of_lt_of_le hg hbw5.out.size))
        have HP := Lib.hid (fun W (h : Below wc.heap.size wc W) => partsL_any n A5 fs.length c5 fs W (hR5.later h) hN hfl hokE')
        have HU := Lib.hid (fun A' c' W (h : Rd W A' n 1 (ints .i64 (labs n fs))) (hc : n ≤ c') => unlikeL_any n A' c' fs W h hN hc)
        obtain ⟨P', hP'⟩ : ∃ x, prodT n fs n = x := ⟨_, rfl⟩
        obtain ⟨u', hu'⟩ : ∃ x, rts n fs = x := ⟨_, rfl⟩
        have hlaw := hlawH.out
        rw [hP'] at HM hlaw
        rw [hu'] at HU hlaw
        have hKmH := Lib.hid hKm
        have hlaw2 := Lib.hid hlaw
        clear hKm hR5 hbc hbw3 q0 q1 hK3 HF hlawH hok'H hokE' hP' hu' hlaw
        go_wp2_with fail
        refine HM.out.mono ?_
        rintro _ w6 ⟨rfl, hb6⟩
        have hbw6 := Lib.hid (hbw5.out.trans (hb6.mono hbw5.out.size))
        have hb6H := Lib.hid hb6
        have hK6 := Lib.hid (hKmH.out.below hb6 hKmH.out.lt)
        have m0 := hK6.out.cell (j := 0) (v := .int .i64 (n : Int)) rfl
        have m1 := hK6.out.cell (j := 1) (v := .slice A5 fs.length c5) rfl
        clear HM hb6 hKmH hbw5
        go_wp2_with fail
        refine (HP.out _ hb6H.out).mono ?_
        rintro _ w7 ⟨⟨A7, c7, rfl, hR7, hc7⟩, hb7⟩
        have hfin := Lib.hid (hbw6.out.trans (hb7.mono hbw6.out.size))
        have HU7 := Lib.hid (HU.out _ _ _ hR7 hc7)
        clear HP hb7 hR7 HU hbw6 hb6H hK6 m0 m1
        go_wp2_with fail
        refine HU7.out.mono ?_
        rintro _ _ ⟨rfl, rfl⟩
        clear HU7
        by_cases hlt : (u : Int) < (u' : Int)
        · go_wp2
          go_ret
          exact ⟨rfl, hfin.out⟩
        · have hP2 : P' < P := by have := hlaw2.out; omega
          go_wp2
          go_ret
          exact ⟨rfl, hfin.out⟩
theorem spanOne_any (N : Int) (A : Option Addr) (len cap : Nat) (es : List E) (ev : Int) (w : World) (_ : (Lit.int .i64 N).wf = true) (hr : Rd w A len 3 (ps3 .i64 .i64 .i64 es)) (hlen : len ≤ maxLen) (hcap : len ≤ cap) (_ : ∀ a ∈ es, (Lit.int .i64 a.1).wf = true ∧ (Lit.int .i64 a.2.1).wf = true ∧ (Lit.int .i64 a.2.2).wf = true) (hev : (Lit.int .u8 ev).wf = true) (htb : Tb w) (hg : 0 < w.heap.size) :
    Calls Tryd.prog 4 #[.agg #[.int .i64 N, .slice A len cap], .int .u8 ev] w fun e w' => e = .returned (.bool true) ∧ Below w.heap.size w w' := by
  unfold maxLen at hlen
  obtain ⟨h0, h1⟩ : 0 ≤ ev ∧ ev < 256 := by
    have h1 : IntKind.u8.min ≤ ev ∧ ev ≤ IntKind.u8.max := by simpa [Lit.wf] using hev
    have e1 : IntKind.u8.min = 0 := by decide
    have e2 : IntKind.u8.max = 255 := by decide
    omega
  obtain ⟨v, rfl⟩ := Int.eq_ofNat_of_zero_le h0
  exact one_walk N v (by omega) A len cap es w hr (by omega) hcap htb hg
end Go.Proofs.YtnkmfnnkophccaaDoor
