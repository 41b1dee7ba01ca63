/- SplitGraham: the walk. -/
import Derived.Test.YtecillikakfdnaaGrahamLaw
namespace Go.Proofs.Ytecillikakfdnaa
open Go.RowKit

def ListPost (ts : List Int) (h : Nat) (o : List Nat) (w : World) (e : Ending) (w' : World) : Prop :=
  ∃ (g : Nat) (F L : Nat → Int) (j : Nat), e = .returned (.tuple #[.slice (some ⟨g, 0, none⟩) ts.length ts.length, .int .i64 (F j), .int .i64 0]) ∧ Rd w' (some ⟨g, 0, none⟩) ts.length 1 (row ts.length L) ∧ Run (tOf ts) h o F L ∧ j < h ∧ (∀ b, b < h → F b ≤ F j) ∧ Below w.heap.size w w'
theorem list_bad (A : Option Addr) (len cap : Nat) (ts : List Int) (h : Int) (w : World) (hr : Rd w A len 1 (ints .i64 ts)) (hl : len ≤ 9223372036854775807) (hok : schk ts h ≠ 0) :
    Calls Try.prog 9 #[.slice A len cap, .int .i64 h] w fun e w' => e = .returned (.tuple #[.slice none 0 0, .int .i64 0, .int .i64 (schk ts h)]) ∧ Below w.heap.size w w' := by
  have HW := Lib.hid (wrong_any A len cap ts h w hr hl)
  have hb : (schk ts h != 0) = true := by simpa using hok
  clear hr hok
  go_enter Try.func9, Try.ntmps9
  go_wp2_with fail
  refine HW.out.mono ?_
  rintro e w1 ⟨rfl, hb1⟩
  go_wp2
  go_ret3
  exact ⟨rfl, hb1⟩
theorem list_ok (A : Option Addr) (len cap : Nat) (ts : List Int) (h : Nat) (w : World) (hr : Rd w A len 1 (ints .i64 ts)) (hok : schk ts h = 0) :
    Calls Try.prog 9 #[.slice A len cap, .int .i64 h] w (ListPost ts h (List.range ts.length) w) := by
  have hel : ts.length = len := by simpa [ints] using hr.1
  obtain ⟨h8, h1, h4, hb⟩ := schk_ok hok
  have HW := Lib.hid (wrong_any A len cap ts h w hr (by omega))
  rw [hok] at HW
  have hrH := Lib.hid hr; have hbH := Lib.hid hb; have helH := Lib.hid hel
  rw [hel] at h8
  clear hr hok hb hel
  unfold ListPost
  rw [helH.out]
  go_enter Try.func9, Try.ntmps9
  go_wp2_with fail
  refine HW.out.mono ?_
  rintro e w1 ⟨rfl, hb1⟩
  clear HW
  go_wp2_with fail
  refine (places_any A len cap w1 (by omega)).mono ?_
  rintro e w2 ⟨⟨v, rfl, hown⟩, hb2⟩
  obtain ⟨Aq, cq, rfl⟩ := own_slice hown
  have hbb := hb1.trans (hb2.mono hb1.size)
  have hq : Rd w2 Aq len 1 (row len fun i => ((List.range len).getD i 0 : Int)) := by
    have := Rd.of_own hown
    rwa [row_congr (G := fun i => ((List.range len).getD i 0 : Int)) (fun i hi => by simp [List.getD, hi])] at this
  have HG := Lib.hid (give_any A Aq len cap len cq ts h (List.range len) w2 (hrH.out.later hbb) h8 (by omega) (by omega) hbH.out hq (by simp) (by omega) (by simp))
  have hbbH := Lib.hid hbb
  clear hown hb1 hb2 hbb hq
  go_wp2_with fail
  refine HG.out.mono ?_
  rintro e w3 ⟨g, F, L, j, rfl, hL, hrun, hj, hmax, hb3⟩
  rw [helH.out] at hL ⊢
  have hLH := Lib.hid hL; have hrunH := Lib.hid hrun; have hmaxH := Lib.hid hmax; have hb3H := Lib.hid (hbbH.out.trans (hb3.mono hbbH.out.size))
  clear hL hrun hmax hb3 HG
  go_wp2
  go_ret3
  exact ⟨g, F, L, j, rfl, hLH.out, hrunH.out, hj, hmaxH.out, hb3H.out⟩
set_option maxHeartbeats 1600000 in
theorem splitGraham_any (A : Option Addr) (len cap : Nat) (ts : List Int) (h : Int) (w : World) (hr : Rd w A len 1 (ints .i64 ts)) (hl : len ≤ 9223372036854775807) :
    Calls Try.prog 4 #[.slice A len cap, .int .i64 h] w fun e w' => e = .returned (.bool true) ∧ Below w.heap.size w w' := by
  have hel : ts.length = len := by simpa [ints] using hr.1
  by_cases hok : schk ts h = 0
  · obtain ⟨h8, h1, h4, hb⟩ := schk_ok hok
    obtain ⟨n, rfl⟩ := Int.eq_ofNat_of_zero_le (show 0 ≤ h by omega)
    have HL := Lib.hid (list_ok A len cap ts n w hr hok)
    have hrH := Lib.hid hr; have hbH := Lib.hid hb; have helH := Lib.hid hel; have hokH := Lib.hid hok
    have hokb : (schk ts n == 0) = true := by rw [hok]; rfl
    have hokbH := Lib.hid hokb
    clear hr hb hok hokb
    go_enter Try.func4, Try.ntmps4
    go_wp2_with fail
    refine HL.out.mono ?_
    rintro e w1 ⟨g, F, L, j, rfl, hL, hrun, hj, hmax, hb1⟩
    have HB := Lib.hid (best_ok A len cap ts n w1 (hrH.out.later hb1) hokH.out)
    have hrunH := Lib.hid hrun; have hmaxH := Lib.hid hmax; have hb1H := Lib.hid hb1; have hLH := Lib.hid hL
    clear HL hrun hmax hb1 hL
    go_wp2_with fail
    refine HB.out.mono ?_
    rintro e w2 ⟨x, rfl, hopt, hb2⟩
    rw [← helH.out] at hopt
    obtain ⟨q1, q2, q3⟩ := graham (by omega) (fun i => (hbH.out i).1) hopt (List.Perm.refl _) hrunH.out hj hmaxH.out
    have hFb := hrunH.out.le (M := 1048576) (fun i => hbH.out i) j
    have hF0 := hrunH.out.pos (fun i => (hbH.out i).1) j
    have hx0 : 0 ≤ x := by
      obtain ⟨f, _, hf⟩ := hopt.1
      have := hf 0 (by omega)
      have := has_nonneg (fun i => (hbH.out i).1) (2 ^ ts.length - 1) f 0
      omega
    rw [List.length_range] at hFb
    have hbb := hb1H.out.trans (hb2.mono hb1H.out.size)
    have hL2 := hLH.out.later hb2
    rw [row_lOf] at hL2
    have HE := Lib.hid (ends_any A (some ⟨g, 0, none⟩) len cap ts.length ts.length ts (lOf ts.length L) n w2 (hrH.out.later hbb) hL2 (by omega) (by omega) hbH.out (by omega))
    rw [q1, helH.out] at HE
    have hwk := Lib.hid (work_any A len cap ts n w2 (hrH.out.later hbb) hl)
    rw [hokbH.out] at hwk
    have hbbH := Lib.hid hbb
    clear hopt HB hb2 hbb hL2 q1
    go_wp2_with fail
    refine hwk.out.mono ?_
    rintro e w3 ⟨rfl, rfl⟩
    clear hwk
    generalize F j = y at *
    have hy1 : y ≤ 8388608 := by omega
    have hpr : 0 ≤ (n : Int) * y ∧ (n : Int) * y ≤ 100000000 ∧ 0 ≤ (2 * (n : Int) - 1) * x ∧ (2 * (n : Int) - 1) * x ≤ 100000000 := by
      have hn : n = 1 ∨ n = 2 ∨ n = 3 ∨ n = 4 := by omega
      rcases hn with rfl | rfl | rfl | rfl <;> simp <;> omega
    obtain ⟨m0, m1, m2, m3⟩ := hpr
    clear hFb
    go_wp2_with fail
    refine HE.out.mono ?_
    rintro e w4 ⟨rfl, rfl⟩
    go_wp2
    go_ret
    exact ⟨rfl, hbbH.out⟩
  · have HL := Lib.hid (list_bad A len cap ts h w hr hl hok)
    have hrH := Lib.hid hr
    have hokb : (schk ts h == 0) = false := by simpa using hok
    have hokn : (schk ts h != 0) = true := by simpa using hok
    have hokbH := Lib.hid hokb
    have hokH := Lib.hid hok
    clear hr hok hokb
    go_enter Try.func4, Try.ntmps4
    go_wp2_with fail
    refine HL.out.mono ?_
    rintro e w1 ⟨rfl, hb1⟩
    have HB := Lib.hid (best_bad A len cap ts h w1 (hrH.out.later hb1) hl hokH.out)
    go_wp2_with fail
    refine HB.out.mono ?_
    rintro e w2 ⟨rfl, hb2⟩
    have hbb := hb1.trans (hb2.mono hb1.size)
    have hwk := Lib.hid (work_any A len cap ts h w2 (hrH.out.later hbb) hl)
    rw [hokbH.out] at hwk
    go_wp2_with fail
    refine hwk.out.mono ?_
    rintro e w3 ⟨rfl, rfl⟩
    go_wp2
    go_ret
    exact ⟨rfl, hbb⟩
end Go.Proofs.Ytecillikakfdnaa
