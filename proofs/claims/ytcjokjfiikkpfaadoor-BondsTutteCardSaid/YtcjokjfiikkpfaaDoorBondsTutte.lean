/- For any graph: as many nodes are left over by the best bond as there are odd parts behind the wall, less the wall. -/
import Derived.Test.YtcjokjfiikkpfaaDoorWall
import Derived.Test.YtcjokjfiikkpfaaDoorBondMost
import Derived.Test.YtcjokjfiikkpfaaDoorBel
namespace Go.Proofs.YtcjokjfiikkpfaaDoor
open Go.RowKit
attribute [local go_sem] Oper.semAt_some

theorem tutte_eq {N : Nat} {es : List E} (hN : N ≤ 10) (hok : ∀ e ∈ es, okE N e) {c b : Nat} (h : IsMM es (wS (2 ^ N - 1)) c) (hb : b < 2 ^ N) (hbest : ∀ x, x < 2 ^ N → vW N es x ≤ vW N es b) : (N : Int) - 2 * (c : Int) = vW N es b := by
  obtain ⟨w0, h1, h2⟩ := tutte_word hN hok h
  have h3 := hbest w0 h1
  have h4 := wall_le hN hok hb h.has
  unfold vW at h3 ⊢
  omega
set_option maxHeartbeats 3200000 in
set_option maxRecDepth 100000 in
theorem bondsTutte_any (N : Int) (A : Option Addr) (len cap : Nat) (es : List E) (w : World) (hr : Rd w A len 3 (ps3 .i64 .i64 .i64 es)) (hcap : len ≤ cap) (hlen : len ≤ 9223372036854775807) (htb : Tb w) :
    Calls Tryd.prog 4 #[.agg #[.int .i64 N, .slice A len cap]] w fun e w' => e = .returned (.bool true) ∧ Below w.heap.size w w' := by
  have hel := ps3_len hr
  have gb := (Below.refl _ w).alloc (Nat.le_refl _) (.cells #[.int .i64 N, .slice A len cap] 24)
  have bG := Blk.new w 24 #[.int .i64 N, .slice A len cap]
  have hsz : (w.alloc (.cells #[.int .i64 N, .slice A len cap] 24)).heap.size = w.heap.size + 1 := by simp
  have htl : 0 < w.heap.size := World.block_lt_of_cell? w _ (htb 0 (by decide))
  have gbH := Lib.hid gb; have bGH := Lib.hid bG; have hrH := Lib.hid hr; have htbH := Lib.hid htb
  have g0 := bG.cell (j := 0) rfl; have g1 := bG.cell (j := 1) rfl
  have HG := Lib.hid (fun W (hb : Below w.heap.size w W) => good_any N A len cap es W (hrH.out.later hb) hlen hcap)
  by_cases hg : gchk N es = 0
  · obtain ⟨hN0, h10, hl45, hokE, _⟩ := gchk_ok hg
    obtain ⟨n, rfl⟩ := Int.eq_ofNat_of_zero_le hN0
    rw [Int.toNat_natCast] at hokE
    have h10 : n ≤ 10 := by omega
    have HM := Lib.hid (most_ok n A len cap es _ (hr.later gb) hcap hlen (htb.below htl gb) hg)
    have HW := Lib.hid (fun W (hb : Below w.heap.size w W) => wall_ok n A len cap es W (hrH.out.later hb) hlen (htbH.out.below htl hb) hg)
    rw [hg] at HG
    have hokH := Lib.hid hokE
    rw [hel] at hl45
    clear hr gb bG htb hg hokE
    go_enter Tryd.func4, Tryd.ntmps4
    go_wp2_with fail
    refine HM.out.mono ?_
    rintro _ w1 ⟨Al, cl, L, rfl, hrL, hb1, hinc, hbd, hnd, hmm⟩
    clear HM
    have bG1 := bGH.out.below hb1 (by omega)
    have hb1' := gbH.out.trans (hb1.mono gbH.out.size)
    have hs1 := hb1.size
    have HW1 := Lib.hid (HW.out w1 hb1')
    have c0 := bG1.cell (j := 0) rfl; have c1 := bG1.cell (j := 1) rfl
    have hbm1 := hmm.has.small
    have hyes := Lib.hid (bondB_yes hokH.out hinc hbd hnd)
    have hmmH := Lib.hid hmm; have hrLH := Lib.hid hrL; have bG1H := Lib.hid bG1; have hb1H := Lib.hid hb1'
    clear hmm hrL bG1 hb1 hb1' hinc hbd hnd gbH bGH g0 g1 HW
    go_wp2_with fail
    refine HW1.out.mono ?_
    rintro _ w2 ⟨x, rfl, hxn, hbest, hb2⟩
    clear HW1
    have hEq := Lib.hid (tutte_eq h10 hokH.out hmmH.out hxn hbest)
    have bG2 := bG1H.out.below hb2 bG1H.out.lt
    have hb2' := hb1H.out.trans (hb2.mono hb1H.out.size)
    have hs2 := hb2.size
    have hrL2 := hrLH.out.later hb2
    have HG2 := Lib.hid (HG.out w2 hb2')
    have c0 := bG2.cell (j := 0) rfl; have c1 := bG2.cell (j := 1) rfl
    have hrL2H := Lib.hid hrL2; have bG2H := Lib.hid bG2; have hb2H := Lib.hid hb2'
    clear hrL2 bG2 hb2 hb2' bG1H hrLH hb1H HG hbest hmmH
    go_wp2_with fail
    refine HG2.out.mono ?_
    rintro _ w3 ⟨rfl, hb3⟩
    clear HG2
    have bG3 := bG2H.out.below hb3 bG2H.out.lt
    have hb3' := hb2H.out.trans (hb3.mono hb2H.out.size)
    have hs3 := hb3.size
    have hrL3 := hrL2H.out.later hb3
    have HB := Lib.hid (bond_any n A len cap es Al L.length cl (natI L) w3 (hrH.out.later hb3') hl45 hrL3 (by omega))
    rw [hyes.out] at HB
    have c0 := bG3.cell (j := 0) rfl; have c1 := bG3.cell (j := 1) rfl
    have bG3H := Lib.hid bG3; have hb3H := Lib.hid hb3'
    clear hrL3 bG3 hb3 hb3' bG2H hrL2H hb2H
    go_wp2_with fail
    refine HB.out.mono ?_
    rintro _ w4 ⟨rfl, hb4⟩
    clear HB
    have bG4 := bG3H.out.below hb4 bG3H.out.lt
    have hb4' := hb3H.out.trans (hb4.mono hb3H.out.size)
    have hs4 := hb4.size
    have c0 := bG4.cell (j := 0) (v := .int .i64 (n : Int)) rfl; have c1 := bG4.cell (j := 1) (v := .slice A len cap) rfl
    have bG4H := Lib.hid bG4; have hb4H := Lib.hid hb4'
    clear bG4 hb4 hb4' bG3H hb3H
    have hpw : (2 : Int) ^ n % 4294967296 = ((2 ^ n : Nat) : Int) := two_pow_u32 n (by omega)
    have hp10 : 2 ^ n ≤ 2 ^ 10 := Nat.pow_le_pow_right (by omega) h10
    have hOl := oddN_le n x (pf (wo x es) n) n
    have hpl := popc_le 10 x
    have hEq := hEq.out
    unfold vW at hEq
    have HO := Lib.hid (fun p : BW w4 => oddV_any n x A len cap es p.w' (hrH.out.later (hb4H.out.trans (p.hb.mono hb4H.out.size))) h10 hl45 hokH.out (by omega))
    have HS := Lib.hid (fun p : BW w4 => size_any x p.w' (by omega))
    obtain ⟨O, hO⟩ : ∃ O, oddN n x (pf (wo x es) n) n = O := ⟨_, rfl⟩
    obtain ⟨S, hS⟩ : ∃ S, popc 10 x = S := ⟨_, rfl⟩
    rw [hO] at hEq hOl HO
    rw [hS] at hEq hpl HS
    clear hO hS
    have d0 := fun p : BW w4 => BW.cell c0 p
    have d1 := fun p : BW w4 => BW.cell c1 p
    have hw1 : IntKind.i64.wrap ((O : Int) - S) = (O : Int) - S := IntWalk.i64_in _ (by omega)
    have hw2 : IntKind.i64.wrap (2 * (L.length : Int)) = 2 * (L.length : Int) := IntWalk.i64_in _ (by omega)
    have hw3 : IntKind.i64.wrap ((n : Int) - 2 * (L.length : Int)) = (n : Int) - 2 * (L.length : Int) := IntWalk.i64_in _ (by omega)
    have hdec := Lib.hid (show ((n : Int) - 2 * (L.length : Int) == (O : Int) - S) = true from by rw [hEq]; simp)
    have hxn' : (x : Int) < ((2 ^ n : Nat) : Int) := by omega
    have hxw : (x : Int) < (2 : Int) ^ n := by have := hxn'; simpa using this
    clear hEq
    go_upto_region 7 with fail
    have hdec := hdec.out
    refine wp_region_below (by kernel_rfl) (by kernel_rfl) ?_
    repeat (go_big_quiet_step (first | rfl | (with_reducible refine Calls.bel (HO.out _)) | (with_reducible refine Calls.bel0 (HS.out _))))
    refine wpQuiet_nil ?_
    rintro _ ⟨p, rfl⟩
    have hfin := Lib.hid (hb4H.out.trans (p.hb.mono hb4H.out.size))
    clear HO HS d0 d1 c0 c1
    go_wp2
    go_ret
    exact ⟨rfl, hfin.out⟩
  · have HM := Lib.hid (most_bad N A len cap es _ (hr.later gb) hlen hg)
    have HW := Lib.hid (fun W (hb : Below w.heap.size w W) => wall_bad N A len cap es W (hrH.out.later hb) hlen hg)
    have hgb : (gchk N es == 0) = false := by simpa using hg
    have hgn : (gchk N es != 0) = true := by simpa using hg
    rw [hgb] at HG
    clear hr gb bG htb hg hgb
    generalize gchk N es = z at *
    go_enter Tryd.func4, Tryd.ntmps4
    go_wp2_with fail
    refine HM.out.mono ?_
    rintro _ w1 ⟨rfl, hb1⟩
    clear HM
    have bG1 := bGH.out.below hb1 (by omega)
    have hb1' := gbH.out.trans (hb1.mono gbH.out.size)
    have hs1 := hb1.size
    have HW1 := Lib.hid (HW.out w1 hb1')
    have c0 := bG1.cell (j := 0) rfl; have c1 := bG1.cell (j := 1) rfl
    have bG1H := Lib.hid bG1; have hb1H := Lib.hid hb1'
    clear bG1 hb1 hb1' gbH bGH g0 g1 HW
    go_wp2_with fail
    refine HW1.out.mono ?_
    rintro _ w2 ⟨rfl, hb2⟩
    clear HW1
    have bG2 := bG1H.out.below hb2 bG1H.out.lt
    have hb2' := hb1H.out.trans (hb2.mono hb1H.out.size)
    have HG2 := Lib.hid (HG.out w2 hb2')
    have c0 := bG2.cell (j := 0) rfl; have c1 := bG2.cell (j := 1) rfl
    have hb2H := Lib.hid hb2'
    clear bG2 hb2 hb2' bG1H hb1H HG
    go_wp2_with fail
    refine HG2.out.mono ?_
    rintro _ w3 ⟨rfl, hb3⟩
    have hfin := Lib.hid (hb2H.out.trans (hb3.mono hb2H.out.size))
    clear HG2 hb3 c0 c1
    go_wp2
    go_ret
    exact ⟨by simp, hfin.out⟩
end Go.Proofs.YtcjokjfiikkpfaaDoor
