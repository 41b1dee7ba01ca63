/- graph.Dist. -/
import Derived.Test.YtfeihakciioheaaDoorDistA
namespace Go.Proofs.YtfeihakciioheaaDoor
open Go.RowKit Go.Shelf
attribute [local go_sem] Oper.semAt_some

set_option maxHeartbeats 6400000 in
set_option maxRecDepth 100000 in
theorem dist_ok (N : Nat) (A : Option Addr) (len cap : Nat) (es : List E) (ns : List Nat) (hns : ns = nearW N es) (w : World) (hr : Rd w A len 3 (ps3 .i64 .i64 .i64 es)) (hc : gchk N es = 0) (htb : Tb w) (hg : 0 < w.heap.size) :
    Calls Tryd.prog 8 #[.agg #[.int .i64 N, .slice A len cap]] w fun e w' => ∃ (v : Value) (G : Nat → Nat), e = .returned (.tuple #[v, .int .i64 0]) ∧ w'.ownsRow w.heap.size 25 1 v N (rowsV N G N) ∧ (∀ m, m < N → w'.ownsRow w.heap.size 3 1 (.slice (some ⟨G m, 0, none⟩) N N) N (row N (fun j => far ns m j))) ∧ Below w.heap.size w w' := by
  obtain ⟨_, h10, h45, hok, _⟩ := gchk_ok hc
  have h10 : N ≤ 10 := by omega
  rw [Int.toNat_natCast] at hok
  have hel := ps3_len hr
  have HC := Lib.hid (check_any N A len cap es _ (hr.alloc (.cells #[.int .i64 N, .slice A len cap] 24)) (by omega))
  rw [hc] at HC
  have hgr := Lib.hid (near_gr hc)
  rw [← hns] at hgr
  have hrH := Lib.hid hr; have htbH := Lib.hid htb; have hokH := Lib.hid hok; have hnsH := Lib.hid hns
  clear hr hc htb hok hns
  refine calls_of_wp_calm 4 Tryd.func8 rfl ?_
  simp only [Tryd.ntmps8, List.size_toArray, List.length_cons, List.length_nil, Nat.reduceAdd, Nat.reduceSub, Array.replicate_succ, Array.replicate_zero, List.push_toArray, List.append_toArray, List.nil_append, List.cons_append]
  have g0 : (w.alloc (.cells #[.int .i64 N, .slice A len cap] 24)).cell? ⟨w.heap.size, 0, none⟩ = some (.int .i64 (N : Int)) := by go_simp
  have g1 : (w.alloc (.cells #[.int .i64 N, .slice A len cap] 24)).cell? ⟨w.heap.size, 1, none⟩ = some (.slice A len cap) := by go_simp
  have gs : (w.alloc (.cells #[.int .i64 N, .slice A len cap] 24)).heap.size = w.heap.size + 1 := by simp
  have gb := (Below.refl _ w).alloc (Nat.le_refl _) (.cells #[.int .i64 N, .slice A len cap] 24)
  go_wp2_with fail
  generalize w.alloc (.cells #[.int .i64 N, .slice A len cap] 24) = wg at *
  refine HC.out.mono ?_
  rintro e w1 ⟨rfl, hb1⟩
  have hs1 := hb1.size
  have c0 := below_cell hb1 (by omega) g0
  have c1 := below_cell hb1 (by omega) g1
  have hb1' := gb.trans (hb1.mono (by omega))
  have HN := Lib.hid (near_any N A len cap es w1 (hrH.out.later hb1') h10 (by omega) hokH.out)
  clear HC
  go_wp2_with fail
  refine HN.out.mono ?_
  rintro e w2 ⟨gn, rfl, hn, hb2⟩
  rw [← hnsH.out] at hn
  have hs2 := hb2.size
  have c0 := below_cell hb2 (by omega) c0
  have c1 := below_cell hb2 (by omega) c1
  have hb2' := hb1'.trans (hb2.mono (by omega))
  have hnr := Rd.of_own hn
  have hcw : ∀ j, j < N → gn < w2.heap.size ∧ w2.cell? ⟨gn, j, none⟩ = some (.int .u32 ((ns.getD j 0 : Nat) : Int)) := fun j hj => by
    obtain ⟨b, o, hA, hlt, hc⟩ := hnr.wd hj
    injection hA with hA
    injection hA with q1 q2 _
    subst q1 q2
    exact ⟨hlt, by simpa using hc⟩
  have cn : (w2.alloc (.cells #[.slice (some ⟨gn, 0, none⟩) N N] 41)).cell? ⟨w2.heap.size, 0, none⟩ = some (.slice (some ⟨gn, 0, none⟩) N N) := by go_simp
  have hgd : Gd w.heap.size w2.heap.size gn N A len cap ns w (w2.alloc (.cells #[.slice (some ⟨gn, 0, none⟩) N N] 41)) :=
    ⟨alloc_cell (by omega) c0 _, alloc_cell (by omega) c1 _, cn, fun j hj => alloc_cell (hcw j hj).1 (hcw j hj).2 _, hb2'.alloc (by omega) _, by simp; omega, by simp, fun hN => by have := (hcw 0 hN).1; simp; omega⟩
  have hgn1 : 0 < N → gn < w2.heap.size := fun hN => by have := (hcw 0 hN).1; exact this
  clear g0 g1 c0 c1 hn hb1 hb2 hb1' hb2' hnr HN cn gb hcw
  have q0 := hgd.c0
  go_wp2
  generalize hW3 : w2.alloc (.cells #[.slice (some ⟨gn, 0, none⟩) N N] 41) = w3 at *
  have hs3 : w3.heap.size = w2.heap.size + 1 := by rw [← hW3]; simp
  generalize hbn : w2.heap.size = bn at *
  obtain ⟨b1, hb1, hb1'⟩ : ∃ b1, bn < b1 ∧ b1 ≤ bn + 1 := ⟨bn + 1, by omega, by omega⟩
  obtain ⟨W0, hW0⟩ : ∃ W0 : World, W0 = w := ⟨_, rfl⟩
  rw [show Gd w.heap.size bn gn N A len cap ns w w3 = Gd w.heap.size bn gn N A len cap ns W0 w3 by rw [hW0]] at hgd
  refine wp_loop (fun a' wr => ∃ (ds : List Deferred), a' = { tmps := #[(a'.tmps.getD 0 undef), (.pointer (some ⟨w.heap.size, 0, none⟩)), (a'.tmps.getD 2 undef), (a'.tmps.getD 3 undef), (a'.tmps.getD 4 undef), (.pointer (some ⟨bn, 0, none⟩)), (a'.tmps.getD 6 undef), (a'.tmps.getD 7 undef), (a'.tmps.getD 8 undef), (a'.tmps.getD 9 undef), (a'.tmps.getD 10 undef), (a'.tmps.getD 11 undef), (a'.tmps.getD 12 undef), (a'.tmps.getD 13 undef), (a'.tmps.getD 14 undef), (a'.tmps.getD 15 undef), (a'.tmps.getD 16 undef), (a'.tmps.getD 17 undef), (a'.tmps.getD 18 undef), (a'.tmps.getD 19 undef), (a'.tmps.getD 20 undef), (a'.tmps.getD 21 undef), (a'.tmps.getD 22 undef), (.int .i64 (N : Int)), (a'.tmps.getD 24 undef), (a'.tmps.getD 25 undef), (a'.tmps.getD 26 undef), (a'.tmps.getD 27 undef), (a'.tmps.getD 28 undef), (a'.tmps.getD 29 undef), (a'.tmps.getD 30 undef), (a'.tmps.getD 31 undef), (a'.tmps.getD 32 undef), (a'.tmps.getD 33 undef), (a'.tmps.getD 34 undef), (a'.tmps.getD 35 undef), (a'.tmps.getD 36 undef), (a'.tmps.getD 37 undef), (a'.tmps.getD 38 undef), (a'.tmps.getD 39 undef), (a'.tmps.getD 40 undef), (a'.tmps.getD 41 undef), (a'.tmps.getD 42 undef), (a'.tmps.getD 43 undef), (a'.tmps.getD 44 undef), (a'.tmps.getD 45 undef), (a'.tmps.getD 46 undef), (a'.tmps.getD 47 undef), (a'.tmps.getD 48 undef), (a'.tmps.getD 49 undef), (a'.tmps.getD 50 undef), (a'.tmps.getD 51 undef), (a'.tmps.getD 52 undef), (a'.tmps.getD 53 undef), (a'.tmps.getD 54 undef), (a'.tmps.getD 55 undef), (a'.tmps.getD 56 undef), (a'.tmps.getD 57 undef), (a'.tmps.getD 58 undef), (a'.tmps.getD 59 undef), (a'.tmps.getD 60 undef), (a'.tmps.getD 61 undef), (a'.tmps.getD 62 undef), (a'.tmps.getD 63 undef), (a'.tmps.getD 64 undef), (a'.tmps.getD 65 undef), (a'.tmps.getD 66 undef), (a'.tmps.getD 67 undef), (a'.tmps.getD 68 undef), (a'.tmps.getD 69 undef), (a'.tmps.getD 70 undef)], defers := ds } ∧ (∃ (k : Nat) (G : Nat → Nat), k ≤ N ∧ (a'.tmps.getD 24 undef) = .int .i64 (k : Int) ∧ wr.ownsRow b1 25 1 (a'.tmps.getD 6 undef) k (rowsV N G k) ∧ (∀ m, m < k → wr.ownsRow w.heap.size 3 1 (.slice (some ⟨G m, 0, none⟩) N N) N (row N (fun j => far ns m j))) ∧ Gd w.heap.size bn gn N A len cap ns W0 wr ∧ Marks w.heap.size wr.heap.size ds wr)) (fun a' _ => N - (intOf (a'.tmps.getD 24 undef)).toNat) ?atStart ?round
  case atStart =>
    refine ⟨_, rfl, ?_⟩
    exact ⟨0, fun _ => 0, Nat.zero_le _, rfl, World.ownsRow_nil _ _ _ _, fun m hm => absurd hm (by omega), hgd, trivial⟩
  case round =>
    clear hgd q0
    rintro a' wr ⟨ds, ha, hrel⟩
    generalize a'.tmps.getD 0 undef = x0 at ha hrel
    generalize a'.tmps.getD 2 undef = x2 at ha hrel
    generalize a'.tmps.getD 3 undef = x3 at ha hrel
    generalize a'.tmps.getD 4 undef = x4 at ha hrel
    generalize a'.tmps.getD 6 undef = x6 at ha hrel
    generalize a'.tmps.getD 7 undef = x7 at ha hrel
    generalize a'.tmps.getD 8 undef = x8 at ha hrel
    generalize a'.tmps.getD 9 undef = x9 at ha hrel
    generalize a'.tmps.getD 10 undef = x10 at ha hrel
    generalize a'.tmps.getD 11 undef = x11 at ha hrel
    generalize a'.tmps.getD 12 undef = x12 at ha hrel
    generalize a'.tmps.getD 13 undef = x13 at ha hrel
    generalize a'.tmps.getD 14 undef = x14 at ha hrel
    generalize a'.tmps.getD 15 undef = x15 at ha hrel
    generalize a'.tmps.getD 16 undef = x16 at ha hrel
    generalize a'.tmps.getD 17 undef = x17 at ha hrel
    generalize a'.tmps.getD 18 undef = x18 at ha hrel
    generalize a'.tmps.getD 19 undef = x19 at ha hrel
    generalize a'.tmps.getD 20 undef = x20 at ha hrel
    generalize a'.tmps.getD 21 undef = x21 at ha hrel
    generalize a'.tmps.getD 22 undef = x22 at ha hrel
    generalize a'.tmps.getD 24 undef = x24 at ha hrel
    generalize a'.tmps.getD 25 undef = x25 at ha hrel
    generalize a'.tmps.getD 26 undef = x26 at ha hrel
    generalize a'.tmps.getD 27 undef = x27 at ha hrel
    generalize a'.tmps.getD 28 undef = x28 at ha hrel
    generalize a'.tmps.getD 29 undef = x29 at ha hrel
    generalize a'.tmps.getD 30 undef = x30 at ha hrel
    generalize a'.tmps.getD 31 undef = x31 at ha hrel
    generalize a'.tmps.getD 32 undef = x32 at ha hrel
    generalize a'.tmps.getD 33 undef = x33 at ha hrel
    generalize a'.tmps.getD 34 undef = x34 at ha hrel
    generalize a'.tmps.getD 35 undef = x35 at ha hrel
    generalize a'.tmps.getD 36 undef = x36 at ha hrel
    generalize a'.tmps.getD 37 undef = x37 at ha hrel
    generalize a'.tmps.getD 38 undef = x38 at ha hrel
    generalize a'.tmps.getD 39 undef = x39 at ha hrel
    generalize a'.tmps.getD 40 undef = x40 at ha hrel
    generalize a'.tmps.getD 41 undef = x41 at ha hrel
    generalize a'.tmps.getD 42 undef = x42 at ha hrel
    generalize a'.tmps.getD 43 undef = x43 at ha hrel
    generalize a'.tmps.getD 44 undef = x44 at ha hrel
    generalize a'.tmps.getD 45 undef = x45 at ha hrel
    generalize a'.tmps.getD 46 undef = x46 at ha hrel
    generalize a'.tmps.getD 47 undef = x47 at ha hrel
    generalize a'.tmps.getD 48 undef = x48 at ha hrel
    generalize a'.tmps.getD 49 undef = x49 at ha hrel
    generalize a'.tmps.getD 50 undef = x50 at ha hrel
    generalize a'.tmps.getD 51 undef = x51 at ha hrel
    generalize a'.tmps.getD 52 undef = x52 at ha hrel
    generalize a'.tmps.getD 53 undef = x53 at ha hrel
    generalize a'.tmps.getD 54 undef = x54 at ha hrel
    generalize a'.tmps.getD 55 undef = x55 at ha hrel
    generalize a'.tmps.getD 56 undef = x56 at ha hrel
    generalize a'.tmps.getD 57 undef = x57 at ha hrel
    generalize a'.tmps.getD 58 undef = x58 at ha hrel
    generalize a'.tmps.getD 59 undef = x59 at ha hrel
    generalize a'.tmps.getD 60 undef = x60 at ha hrel
    generalize a'.tmps.getD 61 undef = x61 at ha hrel
    generalize a'.tmps.getD 62 undef = x62 at ha hrel
    generalize a'.tmps.getD 63 undef = x63 at ha hrel
    generalize a'.tmps.getD 64 undef = x64 at ha hrel
    generalize a'.tmps.getD 65 undef = x65 at ha hrel
    generalize a'.tmps.getD 66 undef = x66 at ha hrel
    generalize a'.tmps.getD 67 undef = x67 at ha hrel
    generalize a'.tmps.getD 68 undef = x68 at ha hrel
    generalize a'.tmps.getD 69 undef = x69 at ha hrel
    generalize a'.tmps.getD 70 undef = x70 at ha hrel
    subst ha
    obtain ⟨k, G, hk, rfl, hown, hrows, hgd, hmk⟩ := hrel
    obtain ⟨Ao, co, rfl⟩ := own_slice hown
    have q0 := hgd.c0
    obtain ⟨wo, rfl⟩ : ∃ wo : World, wo = wr := ⟨_, rfl⟩
    by_cases hlt : k < N
    · have hgdH := Lib.hid hgd
      have hownH := Lib.hid hown; have hrowsH := Lib.hid hrows
      have hB0 : w.heap.size ≤ W0.heap.size := by rw [hW0]; exact Nat.le_refl _
      have hszo := hgd.b.size
      have hl0 := hgd.l0
      have hl1 := hgd.l1
      clear hgd hown hrows
      go_wp2_with (at_make; refine wpList_mk1 _ tiI wo.heap.size N (by omega) (by omega) (Nat.le_refl _) rfl rfl rfl rfl rfl rfl rfl ?_)
      intro w4 hown4 hg4
      rw [row_replicate] at hown4
      have hb4 := below_grown hg4
      have hm4 : Marks w.heap.size wo.heap.size ds w4 := hmk.grown hg4 (fun r e => by cases e)
      clear hg4
      have hs4 := hb4.size
      have hl4 : wo.heap.size < w4.heap.size := (hown4.lt _ rfl).2
      have bL := Boxed.new w4 25 (.slice (some ⟨wo.heap.size, 0, none⟩) N N)
      have hown5 := hown4.alloc (.cells #[.slice (some ⟨wo.heap.size, 0, none⟩) N N] 25)
      have hb5 := hb4.alloc hs4 (.cells #[.slice (some ⟨wo.heap.size, 0, none⟩) N N] 25)
      have hm5 : Marks w.heap.size wo.heap.size ds (w4.alloc (.cells #[.slice (some ⟨wo.heap.size, 0, none⟩) N N] 25)) := hm4.keeps (KeepsOthers.alloc _ _)
      have hsz5 : (w4.alloc (.cells #[.slice (some ⟨wo.heap.size, 0, none⟩) N N] 25)).heap.size = w4.heap.size + 1 := by simp
      have bLc := bL.cell
      clear hown4 hb4 hm4
      go_wp2
      generalize w4.alloc (.cells #[.slice (some ⟨wo.heap.size, 0, none⟩) N N] 25) = w5 at *
      generalize hgl : wo.heap.size = gl at *
      generalize hbl : w4.heap.size = bl at *
      go_loopw [9, 32] (fun _ i wx => ∃ (q : Nat) (F : Nat → Int), q ≤ N ∧ i = .int .i64 q ∧ (∀ j, j < q → F j = -1) ∧ wx.ownsRow gl 3 1 (.slice (some ⟨gl, 0, none⟩) N N) N (row N F) ∧ Boxed wx bl 25 (.slice (some ⟨gl, 0, none⟩) N N) ∧ Below gl wo wx ∧ Marks w.heap.size gl ds wx) (fun _ i _ => N - (intOf i).toNat)
      case atStart => exact ⟨0, _, Nat.zero_le _, rfl, fun j hj => absurd hj (by omega), hown5, bL, hb5, hm5⟩
      case round =>
        clear hown5 bL hb5 hm5 bLc
        obtain ⟨q, F, hq, rfl, hF, hown, hbx, hb, hm⟩ := hrel
        have hFH := Lib.hid hF
        have hcx := hbx.cell
        clear hF
        by_cases hqN : q < N
        · have e1 := hown.frozenAt q
          have e2 := (hown.cellAt q (by omega)).trans (row_get hqN)
          have hownH2 := Lib.hid hown
          have hqi : (q : Int) < N := by omega
          have hq0 : (0 : Int) ≤ q := by omega
          generalize F q = fq at *
          clear hown
          go_wp2
          go_roundw
          case rel =>
            refine ⟨q + 1, fun j => if j = q then -1 else F j, by omega, by go_num, fun j hj => ?_, ?_, hbx.kept (row := some gl) ⟨rfl, rfl, rfl, by simp, fun kk _ hk => heap_setCell_other _ _ kk _ (fun e => hk (by simp [e]))⟩ (by simp; omega), hb.setCell (p := ⟨gl, q, none⟩) (Nat.le_refl _) _, hm.keeps (KeepsOthers.setCell _ _ _)⟩
            · show (if j = q then (-1 : Int) else F j) = -1
              by_cases hjq : j = q
              · rw [if_pos hjq]
              · rw [if_neg hjq]; exact hFH.out j (by omega)
            · have := (hownH2.out.stored q (.int .i64 (-1))).1
              rw [row_set] at this
              exact this
          case measure => simp [intOf]; omega
        · obtain rfl : N = q := by omega
          have hown1 : wr.ownsRow gl 3 1 (.slice (some ⟨gl, 0, none⟩) N N) N (row N (fun j => first ns k j 0)) := by
            rw [row_congr (G := fun j => first ns k j 0) (fun j hj => hFH.out j hj)] at hown
            exact hown
          have hown1H := Lib.hid hown1
          have bD := Boxed.new wr 3 (.int .i64 0)
          have hk10 : k < 32 := by omega
          have hpk : (2 : Int) ^ k % 4294967296 = ((2 ^ k : Nat) : Int) := two_pow_u32 k hk10
          have hn0 : ((nextW ns k 0 : Nat) : Int) = ((2 ^ k : Nat) : Int) := by
            congr 1
            show 2 ^ k &&& (4294967295 - 0) = 2 ^ k
            apply Nat.eq_of_testBit_eq
            intro m
            rw [Nat.testBit_and, Nat.sub_zero, show 4294967295 = 2 ^ 32 - 1 from rfl, Nat.testBit_two_pow_sub_one, Nat.testBit_two_pow]
            by_cases hmk : k = m
            · subst hmk; simp [hk10]
            · simp [hmk]
          rw [← hn0] at hpk
          have hbl2 := hbx.lt
          have hxs := hb.size
          clear hown hown1 hFH hn0
          go_wp2
          obtain ⟨wi, rfl⟩ : ∃ wi : World, wi = wr := ⟨_, rfl⟩
          refine wp_loop (fun a' wr => ∃ (ds : List Deferred), a' = { tmps := #[(a'.tmps.getD 0 undef), (.pointer (some ⟨w.heap.size, 0, none⟩)), (a'.tmps.getD 2 undef), (a'.tmps.getD 3 undef), (a'.tmps.getD 4 undef), (.pointer (some ⟨bn, 0, none⟩)), (.slice Ao k co), (.int .i64 (k : Int)), (.pointer (some ⟨bl, 0, none⟩)), (a'.tmps.getD 9 undef), (a'.tmps.getD 10 undef), (a'.tmps.getD 11 undef), (a'.tmps.getD 12 undef), (a'.tmps.getD 13 undef), (a'.tmps.getD 14 undef), (a'.tmps.getD 15 undef), (a'.tmps.getD 16 undef), (a'.tmps.getD 17 undef), (a'.tmps.getD 18 undef), (a'.tmps.getD 19 undef), (a'.tmps.getD 20 undef), (a'.tmps.getD 21 undef), (a'.tmps.getD 22 undef), (.int .i64 (N : Int)), (.int .i64 (k : Int)), (a'.tmps.getD 25 undef), (a'.tmps.getD 26 undef), (a'.tmps.getD 27 undef), (a'.tmps.getD 28 undef), (a'.tmps.getD 29 undef), (a'.tmps.getD 30 undef), (a'.tmps.getD 31 undef), (a'.tmps.getD 32 undef), (a'.tmps.getD 33 undef), (a'.tmps.getD 34 undef), (a'.tmps.getD 35 undef), (a'.tmps.getD 36 undef), (a'.tmps.getD 37 undef), (a'.tmps.getD 38 undef), (a'.tmps.getD 39 undef), (a'.tmps.getD 40 undef), (a'.tmps.getD 41 undef), (a'.tmps.getD 42 undef), (a'.tmps.getD 43 undef), (a'.tmps.getD 44 undef), (a'.tmps.getD 45 undef), (a'.tmps.getD 46 undef), (a'.tmps.getD 47 undef), (a'.tmps.getD 48 undef), (a'.tmps.getD 49 undef), (a'.tmps.getD 50 undef), (a'.tmps.getD 51 undef), (a'.tmps.getD 52 undef), (a'.tmps.getD 53 undef), (a'.tmps.getD 54 undef), (a'.tmps.getD 55 undef), (a'.tmps.getD 56 undef), (a'.tmps.getD 57 undef), (a'.tmps.getD 58 undef), (a'.tmps.getD 59 undef), (a'.tmps.getD 60 undef), (a'.tmps.getD 61 undef), (a'.tmps.getD 62 undef), (a'.tmps.getD 63 undef), (a'.tmps.getD 64 undef), (a'.tmps.getD 65 undef), (a'.tmps.getD 66 undef), (a'.tmps.getD 67 undef), (a'.tmps.getD 68 undef), (a'.tmps.getD 69 undef), (a'.tmps.getD 70 undef)], defers := ds } ∧ (∃ (d bd : Nat), d ≤ N ∧ d ≤ popc N (seenW ns k d) ∧ (a'.tmps.getD 10 undef) = .int .u32 ((seenW ns k d : Nat) : Int) ∧ (a'.tmps.getD 11 undef) = .int .u32 ((nextW ns k d : Nat) : Int) ∧ (a'.tmps.getD 12 undef) = .pointer (some ⟨bd, 0, none⟩) ∧ Boxed wr bd 3 (.int .i64 (d : Int)) ∧ bl < bd ∧ wr.ownsRow gl 3 1 (.slice (some ⟨gl, 0, none⟩) N N) N (row N (fun j => first ns k j d)) ∧ Boxed wr bl 25 (.slice (some ⟨gl, 0, none⟩) N N) ∧ Below gl wo wr ∧ Marks w.heap.size wr.heap.size ds wr)) (fun a' _ => N - popc N (intOf (a'.tmps.getD 10 undef)).toNat) ?atStart ?round
          case atStart =>
            refine ⟨_, rfl, ?_⟩
            exact ⟨0, wi.heap.size, Nat.zero_le _, Nat.zero_le _, rfl, (by first | exact rfl | (show Value.int .u32 ((2 : Int) ^ k % 4294967296) = _; rw [hpk])), rfl, bD, hbl2, hown1H.out.alloc _, hbx.alloc _, hb.alloc (by omega) _, (hm.keeps (KeepsOthers.alloc _ _)).mono (by simp; omega)⟩
          case round =>
            clear hbx bD hb hm hcx
            rintro a' wr ⟨ds, ha, hrel⟩
            generalize a'.tmps.getD 0 undef = x0 at ha hrel
            generalize a'.tmps.getD 2 undef = x2 at ha hrel
            generalize a'.tmps.getD 3 undef = x3 at ha hrel
            generalize a'.tmps.getD 4 undef = x4 at ha hrel
            generalize a'.tmps.getD 9 undef = x9 at ha hrel
            generalize a'.tmps.getD 10 undef = x10 at ha hrel
            generalize a'.tmps.getD 11 undef = x11 at ha hrel
            generalize a'.tmps.getD 12 undef = x12 at ha hrel
            generalize a'.tmps.getD 13 undef = x13 at ha hrel
            generalize a'.tmps.getD 14 undef = x14 at ha hrel
            generalize a'.tmps.getD 15 undef = x15 at ha hrel
            generalize a'.tmps.getD 16 undef = x16 at ha hrel
            generalize a'.tmps.getD 17 undef = x17 at ha hrel
            generalize a'.tmps.getD 18 undef = x18 at ha hrel
            generalize a'.tmps.getD 19 undef = x19 at ha hrel
            generalize a'.tmps.getD 20 undef = x20 at ha hrel
            generalize a'.tmps.getD 21 undef = x21 at ha hrel
            generalize a'.tmps.getD 22 undef = x22 at ha hrel
            generalize a'.tmps.getD 25 undef = x25 at ha hrel
            generalize a'.tmps.getD 26 undef = x26 at ha hrel
            generalize a'.tmps.getD 27 undef = x27 at ha hrel
            generalize a'.tmps.getD 28 undef = x28 at ha hrel
            generalize a'.tmps.getD 29 undef = x29 at ha hrel
            generalize a'.tmps.getD 30 undef = x30 at ha hrel
            generalize a'.tmps.getD 31 undef = x31 at ha hrel
            generalize a'.tmps.getD 32 undef = x32 at ha hrel
            generalize a'.tmps.getD 33 undef = x33 at ha hrel
            generalize a'.tmps.getD 34 undef = x34 at ha hrel
            generalize a'.tmps.getD 35 undef = x35 at ha hrel
            generalize a'.tmps.getD 36 undef = x36 at ha hrel
            generalize a'.tmps.getD 37 undef = x37 at ha hrel
            generalize a'.tmps.getD 38 undef = x38 at ha hrel
            generalize a'.tmps.getD 39 undef = x39 at ha hrel
            generalize a'.tmps.getD 40 undef = x40 at ha hrel
            generalize a'.tmps.getD 41 undef = x41 at ha hrel
            generalize a'.tmps.getD 42 undef = x42 at ha hrel
            generalize a'.tmps.getD 43 undef = x43 at ha hrel
            generalize a'.tmps.getD 44 undef = x44 at ha hrel
            generalize a'.tmps.getD 45 undef = x45 at ha hrel
            generalize a'.tmps.getD 46 undef = x46 at ha hrel
            generalize a'.tmps.getD 47 undef = x47 at ha hrel
            generalize a'.tmps.getD 48 undef = x48 at ha hrel
            generalize a'.tmps.getD 49 undef = x49 at ha hrel
            generalize a'.tmps.getD 50 undef = x50 at ha hrel
            generalize a'.tmps.getD 51 undef = x51 at ha hrel
            generalize a'.tmps.getD 52 undef = x52 at ha hrel
            generalize a'.tmps.getD 53 undef = x53 at ha hrel
            generalize a'.tmps.getD 54 undef = x54 at ha hrel
            generalize a'.tmps.getD 55 undef = x55 at ha hrel
            generalize a'.tmps.getD 56 undef = x56 at ha hrel
            generalize a'.tmps.getD 57 undef = x57 at ha hrel
            generalize a'.tmps.getD 58 undef = x58 at ha hrel
            generalize a'.tmps.getD 59 undef = x59 at ha hrel
            generalize a'.tmps.getD 60 undef = x60 at ha hrel
            generalize a'.tmps.getD 61 undef = x61 at ha hrel
            generalize a'.tmps.getD 62 undef = x62 at ha hrel
            generalize a'.tmps.getD 63 undef = x63 at ha hrel
            generalize a'.tmps.getD 64 undef = x64 at ha hrel
            generalize a'.tmps.getD 65 undef = x65 at ha hrel
            generalize a'.tmps.getD 66 undef = x66 at ha hrel
            generalize a'.tmps.getD 67 undef = x67 at ha hrel
            generalize a'.tmps.getD 68 undef = x68 at ha hrel
            generalize a'.tmps.getD 69 undef = x69 at ha hrel
            generalize a'.tmps.getD 70 undef = x70 at ha hrel
            subst ha
            obtain ⟨d, bd, hdN, hdp, rfl, rfl, rfl, hbd, hbld, hown, hbx, hb, hm⟩ := hrel
            have hgr2 := hgr.out
            have hgd2 := hgdH.out.later hB0 (by rw [← hgl] at hb; exact hb)
            have hcd := hbd.cell
            have hcx := hbx.cell
            have hsl := seenW_lt hgr2 hlt d
            have hnl : nextW ns k d < 2 ^ N := andNot_lt (ball_lt hgr2 hlt d)
            have hbl := ball_lt hgr2 hlt d
            have hp10 : 2 ^ N ≤ 2 ^ 10 := Nat.pow_le_pow_right (by omega) h10
            by_cases hne : nextW ns k d = 0
            · have hfar := bfs_end hgr2 hlt hne hdN
              have hrow : row N (fun j => first ns k j d) = row N (fun j => far ns k j) := row_congr fun j _ => hfar j
              rw [hrow] at hown
              have hzero : ((nextW ns k d : Nat) : Int) = 0 := by rw [hne]; rfl
              have hbo : Below wo.heap.size wo wr := by rw [hgl]; exact hb
              have hout := own_below hownH.out hbo
              have hmar := Lib.hid hm
              have hrowH := Lib.hid hown
              have hgd2H := Lib.hid hgd2
              have hbH := Lib.hid hbo
              have hbs := hb.size
              rw [hzero]
              clear hown hm hfar hrow hgd2 hgr2 hne hzero hb
              go_wp2_with (at_builtin; refine wpList_app (s := .tmp 65) (x := .tmp 67) _ tiR (hout.alloc _) (rd_new1 wr (.slice (some ⟨gl, 0, none⟩) N N) 25) (fun u hu => by simp at hu; subst hu; rfl) (by omega) (by omega) (by simp; omega) rfl rfl rfl rfl ?_)
              intro v' w7 hown7 hg7 _
              have hb7 : Below b1 (wr.alloc (.cells #[.slice (some ⟨gl, 0, none⟩) N N] 25)) w7 := (Below.refl _ _).grown hg7 (by simp; omega) (fun g hg' => (hout.lt g hg').1)
              have hm7 := marks_app (hmar.out.keeps (KeepsOthers.alloc wr (.cells #[.slice (some ⟨gl, 0, none⟩) N N] 25))) (hout.alloc _) hg7
              have hs7 := hg7.size
              go_wp2
              refine ⟨⟨_, rfl, ?rel⟩, ?measure⟩
              case rel =>
                refine ⟨k + 1, fun m => if m = k then gl else G m, by omega, by go_num, ?_, fun m hm => ?_, ?_, hm7.mono (by simp at hs7; omega)⟩
                · rw [rowsV_snoc]
                  show w7.ownsRow b1 _ 1 v' (k + 1) (_ ++ [.slice (some ⟨if k = k then gl else G k, 0, none⟩) N N])
                  rw [if_pos rfl, rowsV_congr (G' := G) (fun m hm => if_neg (by omega))]
                  exact hown7
                · show w7.ownsRow w.heap.size _ 1 (.slice (some ⟨if m = k then gl else G m, 0, none⟩) N N) N _
                  by_cases hmk : m = k
                  · subst hmk
                    rw [if_pos rfl]
                    exact own_base (by omega) ((hrowH.out.alloc (.cells #[.slice (some ⟨gl, 0, none⟩) N N] 25)).kept hg7 (own_ne (hrowH.out.alloc (.cells #[.slice (some ⟨gl, 0, none⟩) N N] 25)) (hout.alloc (.cells #[.slice (some ⟨gl, 0, none⟩) N N] 25)) (by decide)))
                  · rw [if_neg hmk]
                    have h1 := (own_below (hrowsH.out m (by omega)) hbH.out).alloc (.cells #[.slice (some ⟨gl, 0, none⟩) N N] 25)
                    exact h1.kept hg7 (own_ne h1 (hout.alloc _) (by decide))
                · exact (hgd2H.out.later hB0 ((Below.refl _ wr).alloc (Nat.le_refl _) (.cells #[.slice (some ⟨gl, 0, none⟩) N N] 25))).keep (by omega) (by omega) (fun hN => by have := hgn1 hN; omega) hb7
              case measure => simp [intOf]; omega
            · have hne1 : ((nextW ns k d : Nat) : Int) ≠ 0 := by omega
              have hneb : (((nextW ns k d : Nat) : Int) != 0) = true := bne_iff_ne.2 hne1
              have hmore := Lib.hid (next_more hgr2 hlt hne hdp)
              have hor := u32_or_nat (seenW ns k d) (nextW ns k d) (by omega) (by omega)
              rw [seen_or hgr2 hlt d] at hor
              have hstepN := Lib.hid (next_step hgr2 hlt d)
              have hfn := Lib.hid (fun j => first_next hgr2 hlt d j)
              have hyN := Lib.hid (fun y (hy : (nextW ns k d).testBit y = true) => show y < N from lt_bit (andNot_lt (ball_lt hgr2 hlt d)) hy)
              have horl := Lib.hid (fun l => orN_lt hgr2 l)
              have hp10H := Lib.hid hp10
              have hnsl := Lib.hid (fun y => hgr2.lt y)
              have hballH := Lib.hid hbl
              have hpopS := Lib.hid (show popc N (seenW ns k (d + 1)) = popc N (ball ns k d) from rfl)
              have hgrow := (popc_grow (n := N) (a := seenW ns k d) (b := ball ns k d) (fun q _ hq => seen_sub ns k d q hq)).2 (by
                obtain ⟨m, hm⟩ := some_bit hne
                rw [nextW_bit hgr2 hlt, Bool.and_eq_true, Bool.not_eq_true'] at hm
                exact ⟨m, lt_bit hballH.out hm.1, hm.1, hm.2⟩)
              have hmeasH := Lib.hid hgrow
              have hpleH := Lib.hid (popc_le N (ball ns k d))
              clear hgrow
              have hseen2 := Lib.hid (show seenW ns k (d + 1) = ball ns k d from rfl)
              have hdp' := Lib.hid hdp
              clear hdp hgr2 hne hne1 hbl hsl
              generalize hNX : nextW ns k d = nx at *
              generalize hBA : ball ns k d = ba at *
              generalize hSE : seenW ns k d = se at *
              have hNXH := Lib.hid hNX
              clear hNX hBA hSE
              have hnx32 : nx < 4294967296 := by omega
              have hwl := hbd.lt
              have hbs := hb.size
              go_wp2_with fail
              refine (each_any nx _).mono ?_
              rintro e w6 ⟨rfl, rfl⟩
              have bW := (Boxed.new wr 47 (.int .u32 0)).alloc (.cells #[.int .u32 (nx : Int)] 47)
              have bB := Boxed.new (wr.alloc (.cells #[.int .u32 0] 47)) 47 (.int .u32 (nx : Int))
              rw [World.size_alloc] at bB
              have bD2 := (hbd.alloc (.cells #[.int .u32 0] 47)).alloc (.cells #[.int .u32 (nx : Int)] 47)
              have bX2 := (hbx.alloc (.cells #[.int .u32 0] 47)).alloc (.cells #[.int .u32 (nx : Int)] 47)
              have ow2 := (hown.alloc (.cells #[.int .u32 0] 47)).alloc (.cells #[.int .u32 (nx : Int)] 47)
              have hbB := (hb.alloc (by omega) (.cells #[.int .u32 0] 47)).alloc (by simp; omega) (.cells #[.int .u32 (nx : Int)] 47)
              have hszB : ((wr.alloc (.cells #[.int .u32 0] 47)).alloc (.cells #[.int .u32 (nx : Int)] 47)).heap.size = wr.heap.size + 2 := by simp
              have hmB : Marks w.heap.size wr.heap.size ds ((wr.alloc (.cells #[.int .u32 0] 47)).alloc (.cells #[.int .u32 (nx : Int)] 47)) := (hm.keeps (KeepsOthers.alloc _ _)).keeps (KeepsOthers.alloc _ _)
              have hgdo := Lib.hid (show Gd w.heap.size bn gn N A len cap ns W0 wo from hgdH.out)
              have htB : Tb ((wr.alloc (.cells #[.int .u32 0] 47)).alloc (.cells #[.int .u32 (nx : Int)] 47)) := htbH.out.below hg (by
                have h1 := hgdH.out.b
                rw [hW0] at h1
                exact h1.trans (hbB.mono (by omega)))
              have hbdl := hbd.lt
              have hbxl := hbx.lt
              clear hbd hbx hown hm hb hgd2
              go_wp2
              refine (wpIn_wide (n := 4)).1 ?_
              generalize (wr.alloc (.cells #[.int .u32 0] 47)).alloc (.cells #[.int .u32 (nx : Int)] 47) = wB at *
              generalize hbw : wr.heap.size = bw at *
              refine' rangeFunc_box (n := 4) (α := Bt nx) (gf := 22) (lb := #[.pointer (some ⟨bw + 1, 0, none⟩)]) (by omega) rfl (enters_of Tryd.func22 (by kernel_rfl) rfl)
                (each_stops 3 (by omega) (bw + 1) gl nx hnx32 wB htB (by omega) (by omega) bB (by omega)) (by omega) (fun h h' => KpE.trans h h') (kpE_b (by omega) (by omega)) (Below.refl _ _) (fun _ => rfl)
                (fun pre W => ((W.ownsRow gl 3 1 (.slice (some ⟨gl, 0, none⟩) N N) N (row N (wrF ns k d (pre.map (·.1)))) ∧ Boxed W bl 25 (.slice (some ⟨gl, 0, none⟩) N N)) ∧ (Boxed W bw 47 (.int .u32 ((orN ns (pre.map (·.1)) : Nat) : Int)) ∧ Boxed W bd 3 (.int .i64 (d : Int)))) ∧ Marks w.heap.size bw ds W ∧ Below gl wo W)
                (fun _ _ _ => False) ?hI ?hIb (fun _ _ _ _ _ h _ _ => h) (fun _ _ _ _ _ h _ _ => h) ⟨⟨⟨?h0, bX2⟩, ⟨bW, bD2⟩⟩, hmB, hbB⟩ _ ?assign ?body ?done (fun _ _ _ _ _ _ h _ => h.elim)
              case hI => exact OwnFrom.and (OwnFrom.and (OwnFrom.and (own_ownFrom _ (by omega)) (Own.from (boxed_own _ _ _) _)) (OwnFrom.and (Own.from (boxed_own _ _ _) _) (Own.from (boxed_own _ _ _) _))) (OwnFrom.and (marks_own (by omega)) (ownFrom_below (by omega) (by omega)))
              case hIb => exact Boxy.and (Boxy.and (Boxy.and (own_boxy _ (by omega)) (boxed_boxy _ (by omega))) (Boxy.and (boxed_boxy _ (by omega)) (boxed_boxy _ (by omega)))) (Boxy.and (marks_boxy (by omega)) (below_boxy (by omega) (by omega)))
              case h0 =>
                rw [row_congr (G := fun j => first ns k j d) (fun j _ => by simp [wrF])]
                exact ow2
              case assign =>
                intro l0 y W K hK
                gi_wp2
                exact hK
              case body =>
                rintro l0 pre y W ⟨⟨⟨hown, hbx⟩, ⟨hbw', hbd⟩⟩, hmk, hb⟩ _
                have hyl := hyN.out y.1 y.2.2
                have hgdW := hgdo.out.later hB0 (by rw [hgl]; exact hb)
                have hcn := hgdW.cn
                have hrn := hgdW.rn y.1 hyl
                have hgg : gn < gl := by have := hgdo.out.l2 (by omega); omega
                have hns := hnsl.out y.1
                have horW := horl.out (pre.map (·.1))
                have h2N := hp10H.out
                have e1 := hown.frozenAt y.1
                have e2 := (hown.cellAt y.1 (by omega)).trans (row_get hyl)
                have cX := hbx.cell
                have cD := hbd.cell
                have cW := hbw'.cell
                have fW := hbw'.frozen
                have hsn := Lib.hid (show orN ns ((pre ++ [y]).map (·.1)) = orN ns (pre.map (·.1)) ||| ns.getD y.1 0 by rw [List.map_append]; exact orN_snoc ns _ y.1)
                have hwr := Lib.hid (show row N (fun j => if j = y.1 then (d : Int) else wrF ns k d (pre.map (·.1)) j) = row N (wrF ns k d ((pre ++ [y]).map (·.1))) by rw [wrF_snoc, List.map_append]; rfl)
                have c5 : (W.setCell ⟨gl, y.1, none⟩ (.int .i64 (d : Int))).cell? ⟨bn, 0, none⟩ = some (.slice (some ⟨gn, 0, none⟩) N N) := cell_set_other (by omega) hcn
                have c6 : (W.setCell ⟨gl, y.1, none⟩ (.int .i64 (d : Int))).cell? ⟨gn, y.1, none⟩ = _ := cell_set_other (by omega) hrn
                have c7 : (W.setCell ⟨gl, y.1, none⟩ (.int .i64 (d : Int))).cell? ⟨bw, 0, none⟩ = _ := cell_set_other (by omega) cW
                have c8 : (W.setCell ⟨gl, y.1, none⟩ (.int .i64 (d : Int))).frozen? ⟨bw, 0, none⟩ = false := by rw [World.frozen?_setCell]; exact fW
                generalize wrF ns k d (pre.map (·.1)) y.1 = fy at *
                generalize orN ns (pre.map (·.1)) = ow at *
                generalize ns.getD y.1 0 = z at *
                have ho2 := u32_or_nat ow z (by omega) (by omega)
                have hyi : (y.1 : Int) < N := by omega
                have hy0 : (0 : Int) ≤ (y.1 : Int) := by omega
                have hownH := Lib.hid hown; have hbxH := Lib.hid hbx; have hbwH := Lib.hid hbw'; have hbdH := Lib.hid hbd; have hmkH := Lib.hid hmk; have hbH := Lib.hid hb
                clear hown hbx hbw' hbd hmk hb hgdW cW fW hcn hrn
                gi_wp2
                refine region_round_lit (by kernel_rfl) rfl (by kernel_rfl) (by kernel_rfl) ?_
                dsimp only [List.dropLast]
                repeat (gi_big_quiet_step (fail))
                refine wpQuietIn_nil ?_
                rintro _ ⟨nq, rfl⟩
                gi_wp2
                have hdk : KeepsOthers (W.setCell ⟨gl, y.1, none⟩ (.int .i64 (d : Int))) ((W.setCell ⟨gl, y.1, none⟩ (.int .i64 (d : Int))).drewN nq) := ⟨Nat.le_refl _, fun _ _ h _ => h⟩
                have hgr1 : W.grownBy (W.setCell ⟨gl, y.1, none⟩ (.int .i64 (d : Int))) (some gl) := ⟨rfl, rfl, rfl, by simp, fun kk _ hk => heap_setCell_other _ _ kk _ (fun e => hk (by simp [e]))⟩
                refine ⟨(((KeepsOthers.setCell _ _ _).trans hdk).trans (KeepsOthers.setCell _ _ _)).from _, (((KpE.refl _ _ W).set (Nat.le_refl _) (show bw + 1 ≠ gl by omega) _).drewN nq).set (show gl ≤ bw by omega) (show bw + 1 ≠ bw by omega) _, ⟨⟨?_, ?_⟩, ⟨?_, ?_⟩⟩, ((hmkH.out.keeps (KeepsOthers.setCell _ _ _)).keeps hdk).keeps (KeepsOthers.setCell _ _ _), (below_drewN (hbH.out.setCell (p := ⟨gl, y.1, none⟩) (Nat.le_refl _) _) nq).setCell (p := ⟨bw, 0, none⟩) (show gl ≤ bw by omega) _⟩
                · have h1 := (hownH.out.stored y.1 (.int .i64 (d : Int))).1
                  rw [row_set, hwr.out] at h1
                  exact own_set_other (own_drewN h1 nq) (by simp [Value.ownBlock]; omega) _
                · have b0 := Boxed.kept (W' := (W.setCell ⟨gl, y.1, none⟩ (.int .i64 (d : Int)))) hbxH.out hgr1 (by simp; omega)
                  exact Boxed.kept (W := (W.setCell ⟨gl, y.1, none⟩ (.int .i64 (d : Int))).drewN nq) b0 (grownBy_setCell' _ bw _) (by simp; omega)
                · rw [hsn.out]
                  have b0 := Boxed.kept (W' := (W.setCell ⟨gl, y.1, none⟩ (.int .i64 (d : Int)))) hbwH.out hgr1 (by simp; omega)
                  exact Boxed.set (W := (W.setCell ⟨gl, y.1, none⟩ (.int .i64 (d : Int))).drewN nq) _ b0
                · have b0 := Boxed.kept (W' := (W.setCell ⟨gl, y.1, none⟩ (.int .i64 (d : Int)))) hbdH.out hgr1 (by simp; omega)
                  exact Boxed.kept (W := (W.setCell ⟨gl, y.1, none⟩ (.int .i64 (d : Int))).drewN nq) b0 (grownBy_setCell' _ bw _) (by simp; omega)
              case done =>
                rintro D ys W hD hys ⟨⟨⟨hown, hbx⟩, ⟨hbw', hbd⟩⟩, hmk, hb⟩ hK
                have hys' : ys.map (·.1) = bitsL nx := hys
                rw [hys'] at hown hbw'
                rw [row_congr (G := fun j => first ns k j (d + 1)) (fun j hj => by
                  rw [hfn.out j]
                  unfold wrF
                  by_cases hjb : nx.testBit j = true
                  · rw [if_pos (mem_bitsL.2 ⟨by omega, hjb⟩), if_pos hjb]
                  · rw [if_neg (fun h => hjb (mem_bitsL.1 h).2), if_neg hjb])] at hown
                have horW := horl.out (bitsL nx)
                have h2N := hp10H.out
                have hba := hballH.out
                have hand := u32_andNot_nat (orN ns (bitsL nx)) ba (by omega) (by omega)
                rw [hstepN.out] at hand
                have cX := hbx.cell
                have cD := hbd.cell
                have cW := hbw'.cell
                have hDl : D < W.heap.size := (Array.getElem?_eq_some_iff.1 hK).1
                have hdi : (d : Int) ≤ 10 := by omega
                have hszW := hb.size
                have hownH := Lib.hid hown; have hbxH := Lib.hid hbx; have hmkH := Lib.hid hmk; have hbH := Lib.hid hb; have hKH := Lib.hid hK
                have hNX2 := Lib.hid (show nextW ns k (d + 1) = nextW ns k (d + 1) from rfl)
                have hblW := hbx.lt
                clear hown hbx hbw' hbd hmk hb hK hys hys'
                generalize orN ns (bitsL nx) = ow at *
                go_wp2
                refine ⟨⟨d + 1, hmore.out.2, hmore.out.1, by rw [hseen2.out], rfl, ?_, hownH.out.alloc _, hbxH.out.alloc _, hbH.out.alloc (by omega) _, (Marks.push (T := bw) (hmkH.out.keeps (KeepsOthers.alloc _ _)) (by omega) (by omega) ((KeepsOthers.alloc W _).same _ _ hKH.out rfl)).mono (by omega)⟩, ?_⟩
                · have := Boxed.new W 3 (.int .i64 ((d : Int) + 1))
                  simpa using this
                · have h1 := hmeasH.out
                  have h2 := hpleH.out
                  simp only [intOf, Int.toNat_natCast]
                  omega
    · obtain rfl : N = k := by omega
      have hbw := hgd.b
      rw [hW0] at hbw
      go_wp2
      refine leaves_marksJ (J := fun W => W.ownsRow b1 25 1 (.slice Ao N co) N (rowsV N G N) ∧ (∀ m, m < N → W.ownsRow w.heap.size 3 1 (.slice (some ⟨G m, 0, none⟩) N N) N (row N (fun j => far ns m j))) ∧ Below w.heap.size w W) hmk ⟨hown, hrows, hbw⟩ (fun W r o' hJ hr hB => ⟨ownsRow_putObj hJ.1 o' hr rfl, fun m hm => ownsRow_putObj (hJ.2.1 m hm) o' hr rfl, hJ.2.2.grown (grownBy_putObj' W r _) hJ.2.2.size (fun k e => by cases e; exact hB)⟩) fun w' hJ => ?_
      exact ⟨.tuple #[.slice Ao N co, .int .i64 0], by simp [results, Tryd.results8, go_sem], _, G, rfl, own_base (by omega) hJ.1, hJ.2.1, hJ.2.2⟩
end Go.Proofs.YtfeihakciioheaaDoor
