/- SplitLpt: the walk. -/
import Derived.Test.YtecillikakfdnaaLptLaw
import Derived.Test.YtecillikakfdnaaSort
import Derived.Test.YtecillikakfdnaaCmp
import Derived.RangeFuncBox
namespace Go.Proofs.Ytecillikakfdnaa
open Go.RowKit

def LongPost (ts : List Int) (h : Nat) (w : World) (e : Ending) (w' : World) : Prop :=
  ∃ (g : Nat) (F L : Nat → Int) (j : Nat), e = .returned (.tuple #[.slice (some ⟨g, 0, none⟩) ts.length ts.length, .int .i64 (F j), .int .i64 0]) ∧ Rd w' (some ⟨g, 0, none⟩) ts.length 1 (row ts.length L) ∧ (∃ o : List Nat, o.Perm (List.range ts.length) ∧ o.Pairwise (fun a b => tOf ts b ≤ tOf ts a) ∧ Run (tOf ts) h o F L) ∧ j < h ∧ (∀ b, b < h → F b ≤ F j) ∧ Below w.heap.size w w'
theorem entL1 (args : Array Value) (w : World) : (callFunc 19 args).run Try.prog w = .ok (.enter 19 args) w := by go_simp
theorem cmpT_any (bx : Nat) (A : Option Addr) (len cap : Nat) (zs : List Int) (i j : Nat) (w : World) (hb : w.cell? ⟨bx, 0, none⟩ = some (.slice A len cap)) (hr : Rd w A len 1 (ints .i64 zs)) (hi : i < len) (hj : j < len) :
    Calls Try.prog 19 #[.int .i64 (i : Int), .int .i64 (j : Int), .pointer (some ⟨bx, 0, none⟩)] w fun e w' => e = .returned (.int .i64 (cmpI (zs.getD j 0) (zs.getD i 0))) ∧ ∃ m, w' = w.drewN m := by
  obtain ⟨b, o, rfl, hab, hci⟩ := hr.int hi
  obtain ⟨_, _, hA, _, hcj⟩ := hr.int hj
  cases hA
  clear hr
  have HC := Lib.hid (fun W => cmp64_any (zs.getD j 0) (zs.getD i 0) W)
  generalize cmpI (zs.getD j 0) (zs.getD i 0) = c at *
  generalize zs.getD j 0 = x at *
  generalize zs.getD i 0 = y at *
  go_enter Try.func19, Try.ntmps19
  go_wp2
  go_quiet ((go_at_call 20; first | (with_reducible exact quiet_add_left (HC.out _)) | (with_reducible exact quiet_left (HC.out _))))
  go_wp2
  go_ret
  exact ⟨rfl, _, rfl⟩
theorem long_bad (A : Option Addr) (len cap : Nat) (ts : List Int) (h : Int) (w : World) (hr : Rd w A len 1 (ints .i64 ts)) (hl : len ≤ 9223372036854775807) (hok : schk ts h ≠ 0) :
    Calls Try.prog 10 #[.slice A len cap, .int .i64 h] w fun e w' => e = .returned (.tuple #[.slice none 0 0, .int .i64 0, .int .i64 (schk ts h)]) ∧ Below w.heap.size w w' := by
  have gb := (Below.refl _ w).alloc (Nat.le_refl _) (.cells #[.slice A len cap] 22)
  have HW := Lib.hid (wrong_any A len cap ts h _ (hr.later gb) hl)
  have hb : (schk ts h != 0) = true := by simpa using hok
  have hs0 : (w.alloc (.cells #[.slice A len cap] 22)).heap.size = w.heap.size + 1 := by simp
  clear hr hok
  go_enter Try.func10, Try.ntmps10
  go_wp2_with fail
  generalize w.alloc (.cells #[.slice A len cap] 22) = wg at *
  refine HW.out.mono ?_
  rintro e w1 ⟨rfl, hb1⟩
  have hbw := gb.trans (hb1.mono (by omega))
  go_wp2
  go_ret3
  exact ⟨rfl, hbw⟩
theorem row_natI {y : List Nat} {n : Nat} (hl : y.length = n) : ints .i64 (natI y) = row n fun i => (y.getD i 0 : Int) := by
  subst hl
  apply List.ext_getElem?
  intro i
  by_cases hi : i < y.length
  · simp [ints, natI, row, List.getD, hi]
  · rw [List.getElem?_eq_none (by simp [ints, natI]; omega), List.getElem?_eq_none (by simp [row]; omega)]
theorem pair_of {t : Nat → Int} {y : List Nat} {n : Nat} (hl : y.length = n) (h : SrI t y n) : y.Pairwise (fun a b => t b ≤ t a) :=
  List.pairwise_iff_getElem.2 fun i j hi hj hij => by
    have := h i j hij (by omega)
    simpa [List.getD, hi, hj] using this
set_option maxHeartbeats 1600000 in
theorem long_ok (A : Option Addr) (len cap : Nat) (ts : List Int) (h : Nat) (w : World) (hr : Rd w A len 1 (ints .i64 ts)) (hok : schk ts h = 0) :
    Calls Try.prog 10 #[.slice A len cap, .int .i64 h] w (LongPost ts h w) := by
  have hel : ts.length = len := by simpa [ints] using hr.1
  obtain ⟨h8, h1, h4, hb⟩ := schk_ok hok
  have gb := (Below.refl _ w).alloc (Nat.le_refl _) (.cells #[.slice A len cap] 22)
  have bx := Boxed.new w 22 (.slice A len cap)
  have HW := Lib.hid (wrong_any A len cap ts h _ (hr.later gb) (by omega))
  rw [hok] at HW
  have hrH := Lib.hid hr; have hbH := Lib.hid hb; have helH := Lib.hid hel
  have hs0 : (w.alloc (.cells #[.slice A len cap] 22)).heap.size = w.heap.size + 1 := by simp
  rw [hel] at h8
  clear hr hok hb hel
  unfold LongPost
  rw [helH.out]
  go_enter Try.func10, Try.ntmps10
  go_wp2_with fail
  generalize w.alloc (.cells #[.slice A len cap] 22) = wg at *
  refine HW.out.mono ?_
  rintro e w1 ⟨rfl, hb1⟩
  have bx1 : Boxed w1 w.heap.size 22 (.slice A len cap) := (hb1.block _ bx.lt).trans bx
  have cx1 := bx1.cell
  have hs1 := hb1.size
  have hbw1 := gb.trans (hb1.mono (by omega))
  clear HW gb bx hb1
  go_wp2_with fail
  refine (places_any A len cap w1 (by omega)).mono ?_
  rintro e w2 ⟨⟨v, rfl, hown⟩, hb2⟩
  obtain ⟨Aq, cq, rfl⟩ := own_slice hown
  have hbw2 := hbw1.trans (hb2.mono hbw1.size)
  have bx2 : Boxed w2 w.heap.size 22 (.slice A len cap) := (hb2.block _ bx1.lt).trans bx1
  have hown2 : w2.ownsRow w1.heap.size 3 1 (.slice Aq len cq) len (ints .i64 (natI (List.range len))) := by
    rw [row_natI (n := len) (y := List.range len) (by simp), row_congr (n := len) (G := fun i => (i : Int)) (fun i hi => by simp [List.getD, List.getElem?_range hi])]
    exact hown
  have hcmp : CmpOk Try.prog 19 #[.pointer (some ⟨w.heap.size, 0, none⟩)] (fun i j => cmpI (ts.getD j 0) (ts.getD i 0)) (fun i => ts.getD i 0) len w1.heap.size w2 :=
    ⟨fun x y W hx hy hB => cmpT_any w.heap.size A len cap ts x y W ((hB.cell (p := ⟨w.heap.size, 0, none⟩) bx1.lt).trans bx2.cell) (hrH.out.later (hbw2.trans (hB.mono hbw1.size))) hx hy, fun x y => cmpI_neg⟩
  have HS := Lib.hid (sort_any 19 #[.pointer (some ⟨w.heap.size, 0, none⟩)] _ (fun i => ts.getD i 0) Aq len cq w1.heap.size (List.range len) w2 hown2 (List.Perm.refl _) (by omega) entL1 hcmp)
  have hbw2H := Lib.hid hbw2; have bx2H := Lib.hid bx2
  have cx2 := bx2.cell
  have hs2 := hb2.size
  clear hown hown2 hcmp hb2 hbw2 hbw1 bx1 bx2 cx1
  go_wp2_with fail
  refine HS.out.mono ?_
  rintro e w3 ⟨rfl, y, hp, hS, hown, hb3⟩
  have hyl : y.length = len := by simpa using hp.length_eq
  have hbw3 := hbw2H.out.trans (hb3.mono (by have := bx2H.out.lt; omega))
  have hq : Rd w3 Aq len 1 (row len fun i => (y.getD i 0 : Int)) := by
    have := Rd.of_own hown
    rwa [row_natI hyl] at this
  have cx3 : w3.cell? ⟨w.heap.size, 0, none⟩ = some (.slice A len cap) := (hb3.cell (p := ⟨w.heap.size, 0, none⟩) (show w.heap.size < w1.heap.size by omega)).trans cx2
  have HG := Lib.hid (give_any A Aq len cap len cq ts h y w3 (hrH.out.later hbw3) h8 (by omega) (by omega) hbH.out hq hyl (by omega) (fun i hi => List.mem_range.1 (hp.mem_iff.1 hi)))
  have hbbH := Lib.hid hbw3; have hpH := Lib.hid hp; have hpwH := Lib.hid (pair_of hyl hS)
  clear hown hb3 hbw3 hq HS hp hS cx2
  go_wp2_with fail
  refine HG.out.mono ?_
  rintro e w4 ⟨g, F, L, j, rfl, hL, hrun, hj, hmax, hb4⟩
  rw [helH.out] at hL ⊢
  have hLH := Lib.hid hL; have hrunH := Lib.hid hrun; have hmaxH := Lib.hid hmax; have hb4H := Lib.hid (hbbH.out.trans (hb4.mono hbbH.out.size))
  clear hL hrun hmax hb4 HG
  go_wp2
  go_ret3
  exact ⟨g, F, L, j, rfl, hLH.out, ⟨y, hpH.out, hpwH.out, hrunH.out⟩, hj, hmaxH.out, hb4H.out⟩
set_option maxHeartbeats 1600000 in
theorem splitLpt_any (A : Option Addr) (len cap : Nat) (ts : List Int) (h : Int) (w : World) (hr : Rd w A len 1 (ints .i64 ts)) (hl : len ≤ 9223372036854775807) :
    Calls Try.prog 5 #[.slice A len cap, .int .i64 h] w fun e w' => e = .returned (.bool true) ∧ Below w.heap.size w w' := by
  have hel : ts.length = len := by simpa [ints] using hr.1
  by_cases hok : schk ts h = 0
  · obtain ⟨h8, h1, h4, hb⟩ := schk_ok hok
    obtain ⟨n, rfl⟩ := Int.eq_ofNat_of_zero_le (show 0 ≤ h by omega)
    have HL := Lib.hid (long_ok A len cap ts n w hr hok)
    have hrH := Lib.hid hr; have hbH := Lib.hid hb; have helH := Lib.hid hel; have hokH := Lib.hid hok
    have hokb : (schk ts n == 0) = true := by rw [hok]; rfl
    have hokbH := Lib.hid hokb
    clear hr hb hok hokb
    go_enter Try.func5, Try.ntmps5
    go_wp2_with fail
    refine HL.out.mono ?_
    rintro e w1 ⟨g, F, L, j, rfl, hL, ⟨o, hop, hpw, hrun⟩, hj, hmax, hb1⟩
    have HB := Lib.hid (best_ok A len cap ts n w1 (hrH.out.later hb1) hokH.out)
    have hopH := Lib.hid hop; have hpwH := Lib.hid hpw; have hrunH := Lib.hid hrun; have hmaxH := Lib.hid hmax; have hb1H := Lib.hid hb1; have hLH := Lib.hid hL
    clear HL hrun hmax hb1 hL hop hpw
    go_wp2_with fail
    refine HB.out.mono ?_
    rintro e w2 ⟨x, rfl, hopt, hb2⟩
    rw [← helH.out] at hopt
    obtain ⟨q1, q2, q3⟩ := lpt (by omega) (fun i => (hbH.out i).1) hopt hopH.out hpwH.out hrunH.out hj hmaxH.out
    have hFb := hrunH.out.le (M := 1048576) (fun i => hbH.out i) j
    have hF0 := hrunH.out.pos (fun i => (hbH.out i).1) j
    have hx0 : 0 ≤ x := by
      obtain ⟨f, _, hf⟩ := hopt.1
      have := hf 0 (by omega)
      have := has_nonneg (fun i => (hbH.out i).1) (2 ^ ts.length - 1) f 0
      omega
    rw [hopH.out.length_eq, List.length_range] at hFb
    have hbb := hb1H.out.trans (hb2.mono hb1H.out.size)
    have hL2 := hLH.out.later hb2
    rw [row_lOf] at hL2
    have HE := Lib.hid (ends_any A (some ⟨g, 0, none⟩) len cap ts.length ts.length ts (lOf ts.length L) n w2 (hrH.out.later hbb) hL2 (by omega) (by omega) hbH.out (by omega))
    rw [q1, helH.out] at HE
    have hwk := Lib.hid (work_any A len cap ts n w2 (hrH.out.later hbb) hl)
    rw [hokbH.out] at hwk
    have hbbH := Lib.hid hbb
    clear hopt HB hb2 hbb hL2 q1
    go_wp2_with fail
    refine hwk.out.mono ?_
    rintro e w3 ⟨rfl, rfl⟩
    clear hwk
    generalize F j = y at *
    have hy1 : y ≤ 8388608 := by omega
    have hpr : 0 ≤ 3 * (n : Int) * y ∧ 3 * (n : Int) * y ≤ 200000000 ∧ 0 ≤ (4 * (n : Int) - 1) * x ∧ (4 * (n : Int) - 1) * x ≤ 200000000 := by
      have hn : n = 1 ∨ n = 2 ∨ n = 3 ∨ n = 4 := by omega
      rcases hn with rfl | rfl | rfl | rfl <;> simp <;> omega
    obtain ⟨m0, m1, m2, m3⟩ := hpr
    clear hFb
    go_wp2_with fail
    refine HE.out.mono ?_
    rintro e w4 ⟨rfl, rfl⟩
    go_wp2
    go_ret
    exact ⟨rfl, hbbH.out⟩
  · have HL := Lib.hid (long_bad A len cap ts h w hr hl hok)
    have hrH := Lib.hid hr
    have hokb : (schk ts h == 0) = false := by simpa using hok
    have hokn : (schk ts h != 0) = true := by simpa using hok
    have hokbH := Lib.hid hokb
    have hokH := Lib.hid hok
    clear hr hok hokb
    go_enter Try.func5, Try.ntmps5
    go_wp2_with fail
    refine HL.out.mono ?_
    rintro e w1 ⟨rfl, hb1⟩
    have HB := Lib.hid (best_bad A len cap ts h w1 (hrH.out.later hb1) hl hokH.out)
    go_wp2_with fail
    refine HB.out.mono ?_
    rintro e w2 ⟨rfl, hb2⟩
    have hbb := hb1.trans (hb2.mono hb1.size)
    have hwk := Lib.hid (work_any A len cap ts h w2 (hrH.out.later hbb) hl)
    rw [hokbH.out] at hwk
    go_wp2_with fail
    refine hwk.out.mono ?_
    rintro e w3 ⟨rfl, rfl⟩
    go_wp2
    go_ret
    exact ⟨rfl, hbb⟩
end Go.Proofs.Ytecillikakfdnaa
