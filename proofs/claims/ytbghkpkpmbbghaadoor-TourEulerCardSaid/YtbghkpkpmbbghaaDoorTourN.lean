/- tour.Tour, where there is none. -/
import Derived.Test.YtbghkpkpmbbghaaDoorTourC
import Derived.WalkMore
namespace Go.Proofs.YtbghkpkpmbbghaaDoor
open Go.RowKit Go.Shelf

theorem tour_bad (N : Int) (A : Option Addr) (len cap : Nat) (es : List E) (w : World) (hr : Rd w A len 3 (ps3 .i64 .i64 .i64 es)) (hlen : len ≤ 9223372036854775807) (h : gchk N es ≠ 0) :
    Calls Tryd.prog 4 #[.agg #[.int .i64 N, .slice A len cap]] w fun e w' => e = .returned (.tuple #[.slice none 0 0, .int .i64 (gchk N es)]) ∧ Below w.heap.size w w' := by
  have gb := (Below.refl _ w).alloc (Nat.le_refl _) (.cells #[.int .i64 N, .slice A len cap] 24)
  have bG := Blk.new w 24 #[.int .i64 N, .slice A len cap]
  have g0 := bG.cell (j := 0) rfl; have g1 := bG.cell (j := 1) rfl
  have HC := Lib.hid (check_any N A len cap es _ (hr.later gb) hlen)
  have hne : (gchk N es != 0) = true := bne_iff_ne.2 h
  have gbH := Lib.hid gb
  generalize gchk N es = z at *
  clear hr h bG gb
  go_enter Tryd.func4, Tryd.ntmps4
  go_wp2
  go_step3
  go_wp2_with fail
  refine HC.out.mono ?_
  rintro _ w1 ⟨rfl, hb⟩
  go_wp2
  rw [Exit.noGoto_ret]
  go_ret2
  exact ⟨rfl, gbH.out.trans (hb.mono gbH.out.size)⟩
theorem tour_zero (A : Option Addr) (len cap : Nat) (es : List E) (w : World) (hr : Rd w A len 3 (ps3 .i64 .i64 .i64 es)) (hlen : len ≤ 9223372036854775807) (h : gchk 0 es = 0) :
    Calls Tryd.prog 4 #[.agg #[.int .i64 0, .slice A len cap]] w fun e w' => e = .returned (.tuple #[.slice none 0 0, .int .i64 5]) ∧ Below w.heap.size w w' := by
  have gb := (Below.refl _ w).alloc (Nat.le_refl _) (.cells #[.int .i64 0, .slice A len cap] 24)
  have bG := Blk.new w 24 #[.int .i64 0, .slice A len cap]
  have g0 := bG.cell (j := 0) (v := .int .i64 0) rfl; have g1 := bG.cell (j := 1) (v := .slice A len cap) rfl
  have HC := Lib.hid (check_any 0 A len cap es _ (hr.later gb) hlen)
  rw [h] at HC
  have gbH := Lib.hid gb; have bGH := Lib.hid bG
  clear hr h bG gb
  go_enter Tryd.func4, Tryd.ntmps4
  go_wp2
  go_step3
  go_wp2_with fail
  refine HC.out.mono ?_
  rintro _ w1 ⟨rfl, hb⟩
  have bG1 := bGH.out.below hb (by simp)
  have k0 := bG1.cell (j := 0) (v := .int .i64 0) rfl
  have hfin := Lib.hid (gbH.out.trans (hb.mono gbH.out.size))
  clear bG1 hb g0 g1
  go_wp2_with fail
  rw [Exit.noGoto_ret]
  go_ret2
  exact ⟨rfl, hfin.out⟩
/-- what Tour holds: the graph's box, the words and their box, where it is -/
structure TrS (s B bR g n : Nat) (A : Option Addr) (len cap : Nat) (ns : List Nat) (a : Nat) (W : World) : Prop where
  fG : Blk W s 24 #[.int .i64 (n : Int), .slice A len cap]
  fR : Boxed W bR 36 (.slice (some ⟨g, 0, none⟩) n n)
  fA : Boxed W (bR + 1) 3 (.int .i64 (a : Int))
  own : W.ownsRow B 38 1 (.slice (some ⟨g, 0, none⟩) n n) n (wds ns)
  lt : s < B ∧ B ≤ g ∧ g < bR
section
variable {s B bR g n len cap a : Nat} {A : Option Addr} {ns : List Nat} {W W' : World}
theorem TrS.grown {row : Option Nat} (h : TrS s B bR g n A len cap ns a W) (hg : W.grownBy W' row) (hr : ∀ r, row = some r → bR + 2 ≤ r) : TrS s B bR g n A len cap ns a W' := by
  have ne : ∀ b, b < bR + 2 → some b ≠ row := fun b hb e => by have := hr b e.symm; omega
  have := h.lt
  exact ⟨h.fG.kept hg (ne _ (by omega)), h.fR.kept hg (ne _ (by omega)), h.fA.kept hg (ne _ (by omega)), h.own.kept hg (.inr (fun e => ne g (by omega) e)), h.lt⟩
theorem TrS.later (h : TrS s B bR g n A len cap ns a W) (hb : Below W.heap.size W W') : TrS s B bR g n A len cap ns a W' :=
  h.grown (row := none) ⟨hb.os, hb.tape, hb.output, hb.size, fun j hj _ => hb.block j hj⟩ (fun r e => by cases e)
theorem TrS.size (h : TrS s B bR g n A len cap ns a W) : bR + 2 ≤ W.heap.size := h.fA.lt
theorem TrS.setA (h : TrS s B bR g n A len cap ns a W) (i : Nat) : TrS s B bR g n A len cap ns i (W.setCell ⟨bR + 1, 0, none⟩ (.int .i64 (i : Int))) := by
  have hg : W.grownBy (W.setCell ⟨bR + 1, 0, none⟩ (.int .i64 (i : Int))) (some (bR + 1)) := ⟨rfl, rfl, rfl, by simp, fun k _ hk => heap_setCell_other W ⟨bR + 1, 0, none⟩ k _ (fun e => hk (by simp [e]))⟩
  have := h.lt
  exact ⟨h.fG.kept hg (fun e => by injection e with e; omega), h.fR.kept hg (fun e => by injection e with e; omega), h.fA.set _, h.own.kept hg (.inr (fun e => by have e : g = bR + 1 := (by injection e); omega)), h.lt⟩
theorem TrS.turned {ns' : List Nat} (h : TrS s B bR g n A len cap ns a W) (ho : W'.ownsRow B 38 1 (.slice (some ⟨g, 0, none⟩) n n) n (wds ns')) (hg : W.grownBy W' (some g)) : TrS s B bR g n A len cap ns' a W' := by
  have := h.lt
  exact ⟨h.fG.kept hg (fun e => by injection e with e; omega), h.fR.kept hg (fun e => by injection e with e; omega), h.fA.kept hg (fun e => by injection e with e; omega), ho, h.lt⟩
end
set_option maxHeartbeats 3200000 in
set_option maxRecDepth 100000 in
theorem tour_no (n : Nat) (A : Option Addr) (len cap : Nat) (es : List E) (w : World) (hr : Rd w A len 3 (ps3 .i64 .i64 .i64 es)) (hlen : len ≤ 9223372036854775807) (htb : Tb w) (h : gchk n es = 0) (h1 : 1 ≤ n) (hno : ¬ TourC n (nearW n es)) :
    Calls Tryd.prog 4 #[.agg #[.int .i64 (n : Int), .slice A len cap]] w fun e w' => e = .returned (.tuple #[.slice none 0 0, .int .i64 5]) ∧ Below w.heap.size w w' := by
  have gb := (Below.refl _ w).alloc (Nat.le_refl _) (.cells #[.int .i64 (n : Int), .slice A len cap] 24)
  have bG := Blk.new w 24 #[.int .i64 (n : Int), .slice A len cap]
  have hgr := nearGr h
  obtain ⟨_, h10, hl45, hokE, _⟩ := gchk_ok h
  rw [Int.toNat_natCast] at hokE
  have h10 : n ≤ 10 := by omega
  have hel := ps3_len hr
  rw [hel] at hl45
  have htl : 0 < w.heap.size := World.block_lt_of_cell? w _ (htb 0 (by decide))
  have hsz : (w.alloc (.cells #[.int .i64 (n : Int), .slice A len cap] 24)).heap.size = w.heap.size + 1 := by simp
  have HC := Lib.hid (check_any n A len cap es _ (hr.later gb) hlen)
  rw [h] at HC
  have gbH := Lib.hid gb; have bGH := Lib.hid bG; have hrH := Lib.hid hr; have hokH := Lib.hid hokE; have hgrH := Lib.hid hgr; have hnoH := Lib.hid hno; have htbH := Lib.hid htb
  have g0 := bG.cell (j := 0) (v := .int .i64 n) rfl; have g1 := bG.cell (j := 1) (v := .slice A len cap) rfl
  clear bG gb hr h hokE hgr hno htb hel
  go_enter Tryd.func4, Tryd.ntmps4
  go_wp2
  go_step3
  go_wp2_with fail
  refine HC.out.mono ?_
  rintro _ w1 ⟨rfl, hb1⟩
  have b1 := bGH.out.below hb1 (by simp)
  have b01 := gbH.out.trans (hb1.mono gbH.out.size)
  have hb01 := Lib.hid b01
  have k0 := b1.cell (j := 0) (v := .int .i64 n) rfl; have k1 := b1.cell (j := 1) (v := .slice A len cap) rfl
  have hs1 : w.heap.size < w1.heap.size := by have := hb1.size; simp at this; omega
  have HN := Lib.hid (near_any n A len cap es w1 (hrH.out.later b01) h10 hl45 hokH.out)
  have b1H := Lib.hid b1
  have hn0 : ((n : Int) == 0) = false := by rw [beq_eq_false_iff_ne]; omega
  clear g0 g1 b01 hb1 b1
  go_wp2_with fail
  refine HN.out.mono ?_
  rintro _ w2 ⟨gn, rfl, hown, hb2⟩
  obtain ⟨ns, hns⟩ : ∃ ns, nearW n es = ns := ⟨_, rfl⟩
  rw [hns] at hown hgrH hnoH
  have hlgn := hown.lt gn rfl
  have hS0 : TrS w.heap.size w1.heap.size w2.heap.size gn n A len cap ns 0 ((w2.alloc (.cells #[.slice (some ⟨gn, 0, none⟩) n n] 36)).alloc (.cells #[.int .i64 0] 3)) := by
    have bA := Boxed.new (w2.alloc (.cells #[.slice (some ⟨gn, 0, none⟩) n n] 36)) 3 (.int .i64 0)
    rw [World.size_alloc] at bA
    exact ⟨((b1H.out.below hb2 hs1).alloc _).alloc _, (Boxed.new w2 _ _).alloc _, bA, (hown.alloc _).alloc _, by omega⟩
  have hnl := Lib.hid (show ns.length = n by rw [← hns]; exact nearW_length _ _)
  have hb3 := Lib.hid (((hb01.out.trans (hb2.mono hb01.out.size)).alloc (by have := hb2.size; omega) (.cells #[.slice (some ⟨gn, 0, none⟩) n n] 36)).alloc (by have := hb2.size; simp; omega) (.cells #[.int .i64 0] 3))
  have hS0H := Lib.hid hS0
  have hnsH := Lib.hid hns
  have hs2 := hb2.size
  have hst : ((w2.alloc (.cells #[.slice (some ⟨gn, 0, none⟩) n n] 36)).alloc (.cells #[.int .i64 0] 3)).heap.size = w2.heap.size + 2 := by simp
  clear hown hb2 hS0 hns HN k0 k1
  go_wp2
  generalize (w2.alloc (.cells #[.slice (some ⟨gn, 0, none⟩) n n] 36)).alloc (.cells #[.int .i64 0] 3) = w3 at *
  generalize hbRe : w2.heap.size = bR at *
  clear hbRe hst
  have hpw : ∀ j, ns.getD j 0 < 1024 := fun j => Nat.lt_of_lt_of_le (hgrH.out.lt j) (Nat.pow_le_pow_right (n := 2) (by omega) h10)
  have hpwH := Lib.hid hpw
  clear hpw
  go_loopw [7, 8, 23] (fun _ _ iv wr => ∃ i a : Nat, i ≤ n ∧ iv = .int .i64 i ∧ (∀ j, j < i → popc 10 (ns.getD j 0) % 2 = 0) ∧ FstI ns i a ∧ a < n ∧ TrS w.heap.size w1.heap.size bR gn n A len cap ns a wr ∧ Below w.heap.size w wr) (fun _ _ iv _ => n - (intOf iv).toNat)
  case atStart => exact ⟨0, 0, by omega, rfl, fun j hj => absurd hj (by omega), FstI.zero, by omega, hS0H.out, hb3.out⟩
  case round =>
    clear hS0H hb3
    obtain ⟨i, a, hi, rfl, hev, hF, ha, hS, hb⟩ := hrel
    obtain ⟨w4, rfl⟩ : ∃ w4 : World, w4 = wr := ⟨_, rfl⟩
    have hevH := Lib.hid hev; have hFH := Lib.hid hF; have hbH := Lib.hid hb; have hSH := Lib.hid hS
    by_cases hin : i < n
    · have hi0 : (0 : Int) ≤ i := by omega
      have hiI : (i : Int) < n := by omega
      have ci := (hS.own.cellAt i (by omega)).trans (wds_get (by rw [hnl.out]; exact hin))
      have HO := Lib.hid (ones_any (ns.getD i 0) w4 (hpwH.out i))
      have hpp := popc_le 10 (ns.getD i 0)
      obtain ⟨x, hx⟩ : ∃ x, ns.getD i 0 = x := ⟨_, rfl⟩
      have hxH := Lib.hid hx
      rw [hx] at ci HO hpp
      obtain ⟨p, hp⟩ : ∃ p, popc 10 x = p := ⟨_, rfl⟩
      have hpH := Lib.hid hp
      rw [hp] at HO hpp
      have hlt := hS.lt
      clear hev hF hb hS hx hp
      go_wp2_with fail
      refine HO.out.mono ?_
      rintro _ _ ⟨rfl, nq, rfl⟩
      have hS5 := Lib.hid (hSH.out.later (below_drewN (Below.refl _ w4) nq))
      have hb5 := Lib.hid (below_drewN hbH.out nq)
      clear HO ci
      generalize w4.drewN nq = w5 at *
      by_cases hodd : p % 2 = 1
      · have h1 : ((p : Int) % 2 == 1) = true := by rw [beq_iff_eq]; omega
        have h2 : (Int.tmod (p : Int) 2 == 1) = true := by rw [beq_iff_eq, Int.tmod_eq_emod_of_nonneg (by omega)]; omega
        go_wp2
        rw [Exit.noGoto_ret]
        go_ret2
        exact ⟨rfl, hb5.out⟩
      have h1 : ((p : Int) % 2 == 1) = false := by rw [beq_eq_false_iff_ne]; omega
      have h2 : (Int.tmod (p : Int) 2 == 1) = false := by rw [beq_eq_false_iff_ne, Int.tmod_eq_emod_of_nonneg (by omega)]; omega
      have hev2 := Lib.hid (show ∀ j, j < i + 1 → popc 10 (ns.getD j 0) % 2 = 0 from fun j hj => by
        by_cases e : j = i
        · rw [e, hxH.out, hpH.out]; omega
        · exact hevH.out j (by omega))
      have cR := hS5.out.fR.cell; have cA := hS5.out.fA.cell; have fA := hS5.out.fA.frozen; have lA := hS5.out.fA.lt
      have caa := (hS5.out.own.cellAt a (by omega)).trans (wds_get (by rw [hnl.out]; exact ha))
      obtain ⟨y, hy⟩ : ∃ y, ns.getD a 0 = y := ⟨_, rfl⟩
      have hyH := Lib.hid hy
      rw [hy] at caa
      have ha0 : (0 : Int) ≤ a := by omega
      have haI : (a : Int) < n := by omega
      clear hy hodd
      by_cases hx0 : x = 0
      · have hxb : ((x : Int) != 0) = false := by simp [hx0]
        have hF2 := Lib.hid (hFH.out.same (.inl (by rw [hxH.out]; exact hx0)))
        clear hx0
        go_wp2
        go_roundw
        case rel => exact ⟨i + 1, a, by omega, by go_num, hev2.out, hF2.out, ha, hS5.out, hb5.out⟩
        case measure => simp [intOf]; omega
      · have hxb : ((x : Int) != 0) = true := bne_iff_ne.2 (by omega)
        by_cases hy0 : y = 0
        · have hyb : ((y : Int) == 0) = true := by simp [hy0]
          have hF2 := Lib.hid (hFH.out.next (by rw [hxH.out]; exact hx0) (by rw [hyH.out]; exact hy0))
          have hS6 := Lib.hid (hS5.out.setA i)
          have hb6 := Lib.hid (hb5.out.setCell (p := ⟨bR + 1, 0, none⟩) (show w.heap.size ≤ bR + 1 by omega) (.int .i64 (i : Int)))
          clear hx0 hy0
          go_wp2
          go_roundw
          case rel => exact ⟨i + 1, i, by omega, by go_num, hev2.out, hF2.out, hin, hS6.out, hb6.out⟩
          case measure => simp [intOf]; omega
        · have hyb : ((y : Int) == 0) = false := by rw [beq_eq_false_iff_ne]; omega
          have hF2 := Lib.hid (hFH.out.same (.inr (by rw [hyH.out]; exact hy0)))
          clear hx0 hy0
          go_wp2
          go_roundw
          case rel => exact ⟨i + 1, a, by omega, by go_num, hev2.out, hF2.out, ha, hS5.out, hb5.out⟩
          case measure => simp [intOf]; omega
    · obtain rfl : i = n := by omega
      have cR := hS.fR.cell; have cA := hS.fA.cell
      have HW := Lib.hid (one_any (some ⟨gn, 0, none⟩) i i a ns w4 (Rd.of_own hS.own) hgrH.out ha (htbH.out.below htl hb) (by have := hb.size; omega))
      have hob : oneB ns i a = false := by
        cases hv : oneB ns i a
        · rfl
        · refine absurd ⟨hev, fun a' ha' => ?_⟩ hnoH.out
          obtain rfl : a' = a := hFH.out.uniq ha'
          exact (one_iff hgrH.out ha).1 hv
      rw [hob] at HW
      clear hev hF hb hS hob
      go_wp2_with fail
      refine HW.out.mono ?_
      rintro _ w5 ⟨rfl, hb5⟩
      have hfin := Lib.hid (hbH.out.trans (hb5.mono hbH.out.size))
      clear hb5
      go_wp2_with fail
      rw [Exit.noGoto_ret]
      go_ret2
      exact ⟨rfl, hfin.out⟩
end Go.Proofs.YtbghkpkpmbbghaaDoor
