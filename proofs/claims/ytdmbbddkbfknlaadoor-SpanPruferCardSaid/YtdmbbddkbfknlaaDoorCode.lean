/- span.Code. -/
import Derived.Test.YtdmbbddkbfknlaaDoorPruferE
import Derived.Test.YtdmbbddkbfknlaaDoorIdxFuncU
import Derived.Test.YtdmbbddkbfknlaaDoorSpread
import Derived.Test.YtdmbbddkbfknlaaDoorOnes
import Derived.Test.YtdmbbddkbfknlaaDoorGood
import Derived.Test.YtdmbbddkbfknlaaDoorBlk
import Derived.Test.YtdmbbddkbfknlaaDoorBel
import Derived.Test.YtdmbbddkbfknlaaDoorNatI
namespace Go.Proofs.YtdmbbddkbfknlaaDoor
open Go.RowKit Go.Shelf

theorem tiIc2 : TI Tryd.prog 22 3 (.int .i64 0) 1 8 := TI.mk' Tryd.underlying22 (by kernel_rfl) rfl (by decide)
theorem ctz_pow {j : Nat} (h : j < 10) : Lib.ctz 32 (2 ^ j) = j := by
  have := List.all_eq_true.1 (show (List.range 10).all (fun j => Lib.ctz 32 (2 ^ j) == j) = true by decide +kernel) j (List.mem_range.2 h)
  simpa using this
def oneB (x : Nat) : Bool := decide (popc 10 x = 1)
theorem one_any (x : Nat) (hx : x < 1024) (w : World) : Calls Tryd.prog 16 #[.int .u32 (x : Nat)] w fun e w' => e = .returned (.bool (oneB x)) ∧ Below w.heap.size w w' := by
  have hd : (((popc 10 x : Nat) : Int) == 1) = oneB x := by
    unfold oneB
    by_cases h : popc 10 x = 1
    · rw [h]; rfl
    · rw [decide_eq_false h, beq_eq_false_iff_ne]; omega
  have hdH := Lib.hid hd
  have HO := Lib.hid (ones_any x w hx)
  clear hd
  go_enter Tryd.func16, Tryd.ntmps16
  go_wp2_with fail
  refine HO.out.mono ?_
  rintro _ _ ⟨rfl, nq, rfl⟩
  have hb := below_drewN (Below.refl w.heap.size w) nq
  generalize popc 10 x = p at *
  go_wp2
  go_ret
  exact ⟨by rw [← hdH.out]; rfl, hb⟩
theorem entOne (args : Array Value) (w : World) : (callFunc 16 args).run Tryd.prog w = .ok (.enter 16 args) w := by go_simp
theorem idx_one (A : Option Addr) (len cap : Nat) (ns : List Nat) (w : World) (hr : Rd w A len 1 (wds ns)) (hl : len ≤ 9223372036854775807) (hlt : ∀ x ∈ ns, x < 1024) :
    Calls Tryd.prog 15 #[.slice A len cap, .func (.func 16) #[] #[]] w fun e w' => e = .returned (.int .i64 (idxU oneB ns)) ∧ Below w.heap.size w w' := by
  refine indexFuncU A len cap ns 16 #[] oneB w hr hl entOne ?_
  intro a w' ha _
  rw [show #[Value.int IntKind.u32 (a : Nat)] ++ #[] = #[Value.int IntKind.u32 (a : Nat)] from rfl]
  exact one_any a (hlt a ha) w'
theorem code_bad (N : Int) (A : Option Addr) (len cap : Nat) (es : List E) (w : World) (hr : Rd w A len 3 (ps3 .i64 .i64 .i64 es)) (hlen : len ≤ 9223372036854775807) (h : gchk N es ≠ 0) :
    Calls Tryd.prog 6 #[.agg #[.int .i64 N, .slice A len cap]] w fun e w' => e = .returned (.tuple #[.slice none 0 0, .int .i64 (gchk N es)]) ∧ Below w.heap.size w w' := by
  have gb := (Below.refl _ w).alloc (Nat.le_refl _) (.cells #[.int .i64 N, .slice A len cap] 25)
  have bG := Blk.new w 25 #[.int .i64 N, .slice A len cap]
  have g0 := bG.cell (j := 0) rfl; have g1 := bG.cell (j := 1) rfl
  have HC := Lib.hid (check_any N A len cap es _ (hr.later gb) hlen)
  have hne : (gchk N es != 0) = true := bne_iff_ne.2 h
  have gbH := Lib.hid gb
  generalize gchk N es = z at *
  clear hr h bG gb
  go_enter Tryd.func6, Tryd.ntmps6
  go_wp2_with fail
  refine HC.out.mono ?_
  rintro _ w1 ⟨rfl, hb⟩
  go_wp2
  go_ret2
  exact ⟨rfl, gbH.out.trans (hb.mono gbH.out.size)⟩
theorem spread_ball (A : Option Addr) (n cap : Nat) (ns : List Nat) (w : World) (g : Gr n ns) (h1 : 1 ≤ n) (hr : Rd w A n 1 (wds ns)) (htb : Tb w) (hg : 0 < w.heap.size) :
    Calls Tryd.prog 14 #[.slice A n cap, .int .u32 1, .int .u32 ((2 ^ n - 1 : Nat) : Int)] w fun e w' => e = .returned (.int .u32 (ball ns 0 10 : Nat)) ∧ Below w.heap.size w w' := by
  have hp := Nat.pow_le_pow_right (n := 2) (by omega) g.n10
  refine (spread_any A n cap ns 1 (2 ^ n - 1) w hr g.n10 g.lt (Nat.one_lt_two_pow (by omega)) (by omega) htb hg).mono ?_
  rintro e w' ⟨⟨R, rfl, _, hs⟩, hb⟩
  rw [hs.same (ball_spread g (i := 0) (by omega))]
  exact ⟨rfl, hb⟩
structure KL (s1 s2 gn n : Nat) (w2 : World) (ns l : List Nat) (v : Value) (W : World) : Prop where
  r : W.ownsRow s1 42 1 (.slice (some ⟨gn, 0, none⟩) n n) n (wds ns)
  o : W.ownsRow s2 3 1 v l.length (ints .i64 (natI l))
  b : Below s1 w2 W
  g : gn < s2
  z : s2 ≤ W.heap.size
def CPost (n : Nat) (es : List E) (w : World) (e : Ending) (w' : World) : Prop :=
  Below w.heap.size w w' ∧ ∃ (v : Value) (l : List Nat), e = .returned (.tuple #[v, .int .i64 0]) ∧ w'.ownsRow w.heap.size 3 1 v l.length (ints .i64 (natI l)) ∧ PR (List.range n) (adj es) l
set_option maxHeartbeats 1600000 in
set_option maxRecDepth 100000 in
theorem code_form (n : Nat) (A : Option Addr) (len cap : Nat) (es : List E) (w : World) (hr : Rd w A len 3 (ps3 .i64 .i64 .i64 es)) (hlen : len ≤ 9223372036854775807) (htb : Tb w) (h : gchk n es = 0) (ht : ¬ Tcond n es) :
    Calls Tryd.prog 6 #[.agg #[.int .i64 (n : Int), .slice A len cap]] w fun e w' => e = .returned (.tuple #[.slice none 0 0, .int .i64 3]) ∧ Below w.heap.size w w' := by
  have gb := (Below.refl _ w).alloc (Nat.le_refl _) (.cells #[.int .i64 (n : Int), .slice A len cap] 25)
  have bG := Blk.new w 25 #[.int .i64 (n : Int), .slice A len cap]
  have hgr := nearGr h
  obtain ⟨_, h10, hl45, hokE, _⟩ := gchk_ok h
  rw [Int.toNat_natCast] at hokE
  have h10 : n ≤ 10 := by omega
  have hel := ps3_len hr
  rw [hel] at hl45
  have htl : 0 < w.heap.size := World.block_lt_of_cell? w _ (htb 0 (by decide))
  have hsz : (w.alloc (.cells #[.int .i64 (n : Int), .slice A len cap] 25)).heap.size = w.heap.size + 1 := by simp
  have HC := Lib.hid (check_any n A len cap es _ (hr.later gb) hlen)
  rw [h] at HC
  have hsp := Lib.hid (fun h1 : 1 ≤ n => spread_all h (ball_lt hgr (by omega) 10) (ball_spread hgr (i := 0) (by omega)))
  have gbH := Lib.hid gb; have bGH := Lib.hid bG; have hrH := Lib.hid hr; have hokH := Lib.hid hokE; have hgrH := Lib.hid hgr; have htH := Lib.hid ht; have htbH := Lib.hid htb; have helH := Lib.hid hel
  have g0 := bG.cell (j := 0) (v := .int .i64 n) rfl; have g1 := bG.cell (j := 1) (v := .slice A len cap) rfl
  clear bG gb hr h hokE hgr ht htb hel
  go_enter Tryd.func6, Tryd.ntmps6
  go_wp2_with fail
  refine HC.out.mono ?_
  rintro _ w1 ⟨rfl, hb1⟩
  have b1 := bGH.out.below hb1 (by simp)
  have b01 := gbH.out.trans (hb1.mono gbH.out.size)
  have hb01 := Lib.hid b01
  have k0 := b1.cell (j := 0) (v := .int .i64 n) rfl; have k1 := b1.cell (j := 1) (v := .slice A len cap) rfl
  have hs1 : w.heap.size < w1.heap.size := by have := hb1.size; simp at this; omega
  have HN := Lib.hid (near_any n A len cap es w1 (hrH.out.later b01) h10 hl45 hokH.out)
  have b1H := Lib.hid b1
  clear g0 g1 b01 hb1 b1
  go_wp2_with fail
  refine HN.out.mono ?_
  rintro _ w2 ⟨gn, rfl, hown, hb2⟩
  have b2 := b1H.out.below hb2 hs1
  have x0 := BW.cell (b2.cell (j := 0) (v := .int .i64 n) rfl); have x1 := BW.cell (b2.cell (j := 1) (v := .slice A len cap) rfl)
  have b02 := hb01.out.trans (hb2.mono hb01.out.size)
  have hb02 := Lib.hid b02
  have HSp := Lib.hid (fun (p : BW w2) (h1 : 1 ≤ n) => spread_ball (some ⟨gn, 0, none⟩) n n (nearW n es) p.w' hgrH.out h1 ((Rd.of_own hown).later p.hb) ((htbH.out.below htl b02).below (by have := hb02.out.size; omega) p.hb) (by have := hb02.out.size; have := p.hb.size; omega))
  clear b02 b2 hown k0 k1 HN hb2
  rcases Nat.lt_or_ge n 2 with hn2 | hn2
  · have hd : decide ((n : Int) < 2) = true := decide_eq_true (by omega)
    clear HSp hsp
    go_upto_region 5 with fail
    refine wp_region_below (by kernel_rfl) (by kernel_rfl) ?_
    repeat (go_big_quiet_step (first | rfl | fail))
    refine wpQuiet_nil ?_
    rintro _ ⟨p, rfl⟩
    have hfin := Lib.hid (hb02.out.trans (p.hb.mono hb02.out.size))
    clear x0 x1
    go_wp2
    go_ret2
    exact ⟨rfl, hfin.out⟩
  · have hd : decide ((n : Int) < 2) = false := decide_eq_false (by omega)
    by_cases hl : len + 1 = n
    · have hR := (hsp.out (by omega))
      have hne : ball (nearW n es) 0 10 ≠ 2 ^ n - 1 := fun e => htH.out ⟨hn2, by rw [helH.out]; exact hl, hR.1 e⟩
      have hp := Nat.pow_le_pow_right (n := 2) (by omega) h10
      have hp4 : 4 ≤ 2 ^ n := show 2 ^ 2 ≤ 2 ^ n from Nat.pow_le_pow_right (by omega) hn2
      have HS := Lib.hid (fun p => HSp.out p (by omega))
      have hl2 : ((len : Int) != (n : Int) - 1) = false := by simp; omega
      obtain ⟨S, hS⟩ : ∃ S, 2 ^ n = S := ⟨_, rfl⟩
      rw [hS] at hne hp hp4 HS
      have hone : (2 : Int) ^ n % 4294967296 = (S : Int) := by rw [two_pow_u32 n (by omega), hS]
      rw [show ((S - 1 : Nat) : Int) = (S : Int) - 1 by omega] at HS
      generalize ball (nearW n es) 0 10 = R at *
      have hd2 : ((R : Int) != (S : Int) - 1) = true := bne_iff_ne.2 (by omega)
      clear hR hne hS HSp hsp
      go_upto_region 5 with fail
      refine wp_region_below (by kernel_rfl) (by kernel_rfl) ?_
      repeat (go_big_quiet_step (first | rfl | (with_reducible refine Calls.bel (HS.out _))))
      refine wpQuiet_nil ?_
      rintro _ ⟨p, rfl⟩
      have hfin := Lib.hid (hb02.out.trans (p.hb.mono hb02.out.size))
      clear x0 x1 hone
      go_wp2
      go_ret2
      exact ⟨rfl, hfin.out⟩
    · have hl2 : ((len : Int) != (n : Int) - 1) = true := bne_iff_ne.2 (by omega)
      clear HSp hsp
      go_upto_region 5 with fail
      refine wp_region_below (by kernel_rfl) (by kernel_rfl) ?_
      repeat (go_big_quiet_step (first | rfl | fail))
      refine wpQuiet_nil ?_
      rintro _ ⟨p, rfl⟩
      have hfin := Lib.hid (hb02.out.trans (p.hb.mono hb02.out.size))
      clear x0 x1
      go_wp2
      go_ret2
      exact ⟨rfl, hfin.out⟩
set_option maxHeartbeats 3200000 in
set_option maxRecDepth 100000 in
theorem code_ok (n : Nat) (A : Option Addr) (len cap : Nat) (es : List E) (w : World) (hr : Rd w A len 3 (ps3 .i64 .i64 .i64 es)) (hlen : len ≤ 9223372036854775807) (htb : Tb w) (h : gchk n es = 0) (ht : Tcond n es) :
    Calls Tryd.prog 6 #[.agg #[.int .i64 (n : Int), .slice A len cap]] w (CPost n es w) := by
  have hcb := Lib.hid (CI.beg h ht)
  have gb := (Below.refl _ w).alloc (Nat.le_refl _) (.cells #[.int .i64 (n : Int), .slice A len cap] 25)
  have bG := Blk.new w 25 #[.int .i64 (n : Int), .slice A len cap]
  have hgr := nearGr h
  obtain ⟨_, h10, hl45, hokE, _⟩ := gchk_ok h
  rw [Int.toNat_natCast] at hokE
  have h10 : n ≤ 10 := by omega
  have hel := ps3_len hr
  rw [hel] at hl45
  have htl : 0 < w.heap.size := World.block_lt_of_cell? w _ (htb 0 (by decide))
  have hsz : (w.alloc (.cells #[.int .i64 (n : Int), .slice A len cap] 25)).heap.size = w.heap.size + 1 := by simp
  have HC := Lib.hid (check_any n A len cap es _ (hr.later gb) hlen)
  rw [h] at HC
  have hsp := Lib.hid (fun h1 : 1 ≤ n => spread_all h (ball_lt hgr (by omega) 10) (ball_spread hgr (i := 0) (by omega)))
  have gbH := Lib.hid gb; have bGH := Lib.hid bG; have hrH := Lib.hid hr; have hokH := Lib.hid hokE; have hgrH := Lib.hid hgr; have htH := Lib.hid ht; have htbH := Lib.hid htb; have helH := Lib.hid hel
  have g0 := bG.cell (j := 0) (v := .int .i64 n) rfl; have g1 := bG.cell (j := 1) (v := .slice A len cap) rfl
  clear bG gb hr h hokE hgr ht htb hel
  go_enter Tryd.func6, Tryd.ntmps6
  go_wp2_with fail
  refine HC.out.mono ?_
  rintro _ w1 ⟨rfl, hb1⟩
  have b1 := bGH.out.below hb1 (by simp)
  have b01 := gbH.out.trans (hb1.mono gbH.out.size)
  have hb01 := Lib.hid b01
  have k0 := b1.cell (j := 0) (v := .int .i64 n) rfl; have k1 := b1.cell (j := 1) (v := .slice A len cap) rfl
  have hs1 : w.heap.size < w1.heap.size := by have := hb1.size; simp at this; omega
  have HN := Lib.hid (near_any n A len cap es w1 (hrH.out.later b01) h10 hl45 hokH.out)
  have b1H := Lib.hid b1
  clear g0 g1 b01 hb1 b1
  go_wp2_with fail
  refine HN.out.mono ?_
  rintro _ w2 ⟨gn, rfl, hown, hb2⟩
  have b2 := b1H.out.below hb2 hs1
  have x0 := BW.cell (b2.cell (j := 0) (v := .int .i64 n) rfl); have x1 := BW.cell (b2.cell (j := 1) (v := .slice A len cap) rfl)
  have b02 := hb01.out.trans (hb2.mono hb01.out.size)
  have hb02 := Lib.hid b02
  have HSp := Lib.hid (fun (p : BW w2) (h1 : 1 ≤ n) => spread_ball (some ⟨gn, 0, none⟩) n n (nearW n es) p.w' hgrH.out h1 ((Rd.of_own hown).later p.hb) ((htbH.out.below htl b02).below (by have := hb02.out.size; omega) p.hb) (by have := hb02.out.size; have := p.hb.size; omega))
  have hz2 : w1.heap.size ≤ gn ∧ gn < w2.heap.size := by have := hown.lt _ rfl; omega
  have hK0 := Lib.hid (show KL w1.heap.size w2.heap.size gn n w2 (nearW n es) [] (.slice none 0 0) w2 from ⟨hown, World.ownsRow_nil _ _ _ _, Below.refl _ _, hz2.2, Nat.le_refl _⟩)
  have b2H := Lib.hid b2
  clear b02 b2 hown k0 k1 HN hb2
  have hn2 := htH.out.1
  have hl : len + 1 = n := by have := htH.out.2.1; rw [helH.out] at this; exact this
  have hd : decide ((n : Int) < 2) = false := decide_eq_false (by omega)
  have hR := ((hsp.out (by omega)).2 htH.out.2.2)
  have hp := Nat.pow_le_pow_right (n := 2) (by omega) h10
  have hp4 : 4 ≤ 2 ^ n := show 2 ^ 2 ≤ 2 ^ n from Nat.pow_le_pow_right (by omega) hn2
  have HS := Lib.hid (fun p => HSp.out p (by omega))
  have hl2 : ((len : Int) != (n : Int) - 1) = false := by simp; omega
  obtain ⟨S, hS⟩ : ∃ S, 2 ^ n = S := ⟨_, rfl⟩
  rw [hS] at hR hp hp4 HS
  have hone : (2 : Int) ^ n % 4294967296 = (S : Int) := by rw [two_pow_u32 n (by omega), hS]
  rw [show ((S - 1 : Nat) : Int) = (S : Int) - 1 by omega] at HS
  generalize ball (nearW n es) 0 10 = R at *
  have hd2 : ((R : Int) != (S : Int) - 1) = false := by simp; omega
  clear hR hS HSp hsp
  go_upto_region 5 with fail
  refine wp_region_below (by kernel_rfl) (by kernel_rfl) ?_
  repeat (go_big_quiet_step (first | rfl | (with_reducible refine Calls.bel (HS.out _))))
  refine wpQuiet_nil ?_
  rintro _ ⟨p, rfl⟩
  have hpb := p.hb
  generalize p.w' = w3 at *
  clear x0 x1 hone HS
  have b3 := b2H.out.below hpb (by omega)
  have k0 := b3.cell (j := 0) (v := .int .i64 n) rfl
  have hK3 := Lib.hid (show KL w1.heap.size w2.heap.size gn n w2 (nearW n es) [] (.slice none 0 0) w3 from ⟨own_below hK0.out.r hpb, World.ownsRow_nil _ _ _ _, hpb.mono (by omega), hz2.2, hpb.size⟩)
  clear hK0 hpb b3
  obtain ⟨m, hm⟩ : ∃ m, n = m + 2 := ⟨n - 2, by omega⟩
  have hmI : (n : Int) - 2 = (m : Int) := by omega
  have hmH := Lib.hid hm
  clear hm
  go_wp2
  go_loopw [6, 44] (fun v kv wr => ∃ (k : Nat) (ns l : List Nat), k ≤ m ∧ kv = .int .i64 k ∧ CI n es k ns l ∧ KL w1.heap.size w2.heap.size gn n w2 ns l v wr) (fun _ kv _ => m - (intOf kv).toNat)
  case atStart => exact ⟨0, _, _, by omega, rfl, hcb.out, hK3.out⟩
  case round =>
    clear hcb hK3
    obtain ⟨k, ns, l, hk, rfl, hC, hK⟩ := hrel
    obtain ⟨wr2, rfl⟩ : ∃ wr2 : World, wr2 = wr := ⟨_, rfl⟩
    by_cases hkm : k < m
    · obtain ⟨i, j, hi, hj, hij, hp1, hmin, hpow, hC'⟩ := hC.step h10 (show k + 2 < n by have := hmH.out; omega)
      have hll := hC.ll
      obtain ⟨W0, r0, _, _, _, _, hWd, _⟩ := hC.ex
      have hnl := hWd.len
      have hlt : ∀ x ∈ ns, x < 1024 := fun x hx => by
        obtain ⟨y, hy, rfl⟩ := List.mem_iff_getElem.1 hx
        have := hWd.lt y
        rw [show ns.getD y 0 = ns[y] by simp [List.getD, hy]] at this
        exact Nat.lt_of_lt_of_le this (Nat.pow_le_pow_right (n := 2) (by omega) h10)
      have HI := idx_one (some ⟨gn, 0, none⟩) n n ns wr2 (Rd.of_own hK.r) (by omega) hlt
      rw [idxU_some (p := oneB) (k := i) (by omega) (fun y hy => by unfold oneB; exact decide_eq_false (hmin y hy)) (by unfold oneB; exact decide_eq_true hp1)] at HI
      have HIH := Lib.hid HI
      have hjx : ns.getD j 0 < 1024 := by
        have := hWd.lt j
        exact Nat.lt_of_lt_of_le this (Nat.pow_le_pow_right (n := 2) (by omega) h10)
      have hC'H := Lib.hid hC'; have hKH := Lib.hid hK; have hllH := Lib.hid hll; have hnlH := Lib.hid hnl; have hpowH := Lib.hid hpow
      clear HI hC hC' hK hWd hlt hp1 hmin hnl hpow hll
      go_wp2_with fail
      refine HIH.out.mono ?_
      rintro _ w4 ⟨rfl, hb4⟩
      have r4 := own_below hKH.out.r hb4
      have hbb4 := hKH.out.b.trans (hb4.mono (by have := hKH.out.z; omega))
      have o4 := Lib.hid (own_below hKH.out.o hb4)
      have hz4 : w2.heap.size ≤ w4.heap.size := Nat.le_trans hKH.out.z hb4.size
      have hb4H := Lib.hid hbb4
      have ci := (r4.cellAt i (by omega)).trans (wds_get (by rw [hnlH.out]; exact hi))
      have cj := (r4.cellAt j (by omega)).trans (wds_get (by rw [hnlH.out]; exact hj))
      have fi := r4.frozenAt i; have fj := r4.frozenAt j
      have li := (r4.lt _ rfl).2
      rw [hpowH.out] at ci
      have hPb : 2 ^ j < 1024 := show 2 ^ j < 2 ^ 10 from Nat.pow_lt_pow_right (by omega) (by omega)
      have htb4 := (htbH.out.below htl hb02.out).below (B := w1.heap.size) (Nat.lt_trans htl hs1) hb4H.out
      have HT := tz_any (2 ^ j) (by omega) (Nat.ne_of_gt (Nat.two_pow_pos j)) w4 htb4
      rw [ctz_pow (by omega)] at HT
      have HTH := Lib.hid HT
      have r4H := Lib.hid r4
      clear HT htb4 r4 hbb4 hb4 HIH
      generalize 2 ^ j = P at *
      have hi0 : (0 : Int) ≤ i := by omega
      have hin : (i : Int) < n := by omega
      have hj0 : (0 : Int) ≤ j := by omega
      have hjn : (j : Int) < n := by omega
      go_wp2_with fail
      refine HTH.out.mono ?_
      rintro _ _ ⟨rfl, rfl⟩
      clear HTH
      go_upto_region 13 with fail
      have r5 := (r4H.out.stored i (.int .u32 0)).1
      have hgs5 : w4.grownBy (w4.setCell ⟨gn, i, none⟩ (.int .u32 0)) (some gn) := ⟨rfl, rfl, rfl, by simp, fun k _ hk => heap_setCell_other w4 ⟨gn, i, none⟩ k _ (fun e => hk (by simp [e]))⟩
      have cj5 : (w4.setCell ⟨gn, i, none⟩ (.int .u32 0)).cell? ⟨gn, j, none⟩ = some (.int .u32 ((ns.getD j 0 : Nat) : Int)) := by
        have := r5.cellAt j (by omega)
        rw [this, List.getElem?_set_ne hij]
        exact wds_get (by rw [hnlH.out]; exact hj)
      have fj5 := r5.frozenAt j
      have li5 := (r5.lt _ rfl).2
      have b5 := Lib.hid (hb4H.out.setCell (p := ⟨gn, i, none⟩) hz2.1 (.int .u32 0))
      have o5 := Lib.hid (o4.out.kept hgs5 (.inr (fun e => by have := (o4.out.lt _ e).1; have := hKH.out.g; omega)))
      have r5H := Lib.hid r5
      clear hgs5 ci cj fi fj li r4H o4 hb4H r5
      generalize w4.setCell ⟨gn, i, none⟩ (.int .u32 0) = w5 at *
      have hdw := u32_andNot_nat (ns.getD j 0) (2 ^ i) (by omega) (Nat.pow_lt_pow_right (n := 32) (by omega) (by omega))
      have hdw2 : bits .andNot .u32 ((ns.getD j 0 : Nat) : Int) ((2 : Int) ^ i % 4294967296) = ((ns.getD j 0 &&& (4294967295 - 2 ^ i) : Nat) : Int) := by
        rw [two_pow_u32 i (by omega)]; exact hdw
      obtain ⟨y, hy⟩ : ∃ y, ns.getD j 0 &&& (4294967295 - 2 ^ i) = y := ⟨_, rfl⟩
      rw [hy] at hdw2
      have r6H := Lib.hid (show (w5.setCell ⟨gn, j, none⟩ (.int .u32 (y : Int))).drew.ownsRow w1.heap.size 42 1 (.slice (some ⟨gn, 0, none⟩) n n) n (wds (setW ns i j)) from by
        have := ((r5H.out.stored j (.int .u32 (y : Int))).1).drew
        rw [show setW ns i j = (ns.set i 0).set j y by rw [← hy]; rfl, show wds ((ns.set i 0).set j y) = ((wds ns).set i (.int .u32 0)).set j (.int .u32 (y : Int)) by simp [wds, List.map_set]]
        exact this)
      have hgs6 : w5.grownBy (w5.setCell ⟨gn, j, none⟩ (.int .u32 (y : Int))) (some gn) := ⟨rfl, rfl, rfl, by simp, fun k _ hk => heap_setCell_other w5 ⟨gn, j, none⟩ k _ (fun e => hk (by simp [e]))⟩
      have o6 := Lib.hid ((o5.out.kept hgs6 (.inr (fun e => by have := (o5.out.lt _ e).1; have := hKH.out.g; omega))).drew)
      have b6 := Lib.hid ((b5.out.setCell (p := ⟨gn, j, none⟩) hz2.1 (.int .u32 (y : Int))).drew)
      clear hgs6 hdw hy o5 b5 r5H
      generalize ns.getD j 0 = x at *
      go_region
      generalize (w5.setCell ⟨gn, j, none⟩ (.int .u32 (y : Int))).drew = w6 at *
      clear hdw2 cj5 fj5 li5 hjx
      obtain ⟨A1, c1, rfl⟩ := own_slice o6.out
      have hz6 : w2.heap.size ≤ w6.heap.size := by have := b6.out.size; omega
      have hkl : l.length ≤ 10 := by have := hllH.out; omega
      have hrow : ints .i64 (natI (l ++ [j])) = ints .i64 (natI l) ++ [.int .i64 (j : Int)] := by simp [ints, natI]
      have hrowH := Lib.hid hrow
      clear hrow
      go_wp2_with (at_builtin; refine wpList_app (s := .tmp 64) (x := .tmp 66) _ tiIc2 (o6.out.alloc _) (rd_new1 w6 (.int .i64 (j : Int)) 3) (ints_one (l := [(j : Int)])) (by omega) (by omega) (by simp; omega) rfl rfl rfl rfl ?_)
      intro v' w7 hown' hg hat
      have hneg : (some gn : Option Nat) ≠ (Value.slice A1 l.length c1).ownBlock := fun e => by
        have := (o6.out.lt gn e.symm).1
        have := hKH.out.g
        omega
      have hK7 := Lib.hid (show KL w1.heap.size w2.heap.size gn n w2 (setW ns i j) (l ++ [j]) v' w7 from by
        refine ⟨(r6H.out.alloc (.cells #[.int .i64 (j : Int)] 3)).kept hg (.inr (fun e => hneg e)), ?_, (b6.out.alloc (by omega) (.cells #[.int .i64 (j : Int)] 3)).grown hg (by simp; omega) (fun x e => by have := (o6.out.lt x e).1; omega), hKH.out.g, by have := hg.size; simp at this; omega⟩
        rw [List.length_append, hrowH.out]
        exact hown')
      clear hg hown' hneg hat r6H o6 b6 hKH
      go_wp2
      go_roundw
      case rel => exact ⟨k + 1, setW ns i j, l ++ [j], by omega, by go_num, hC'H.out, hK7.out⟩
      case measure => simp [intOf]; omega
    · obtain rfl : k = m := by omega
      have hPR := Lib.hid (hC.end_ hmH.out.symm)
      have hfin := Lib.hid (hb02.out.trans (hK.b.mono (by omega)))
      have ho := Lib.hid (own_base (b' := w.heap.size) (by have := hb02.out.size; omega) hK.o)
      clear hC hK
      go_wp2
      go_ret2
      exact ⟨hfin.out, _, l, rfl, ho.out, hPR.out⟩
end Go.Proofs.YtdmbbddkbfknlaaDoor
