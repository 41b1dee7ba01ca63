/- slices.swapRangeCmpFunc and rotateCmpFunc at ints. -/
import Derived.Test.YtdmbbddkbfknlaaMergeLaw
import Derived.Test.YtdmbbddkbfknlaaRows
import Derived.BigQuiet
import Derived.BigRegion
namespace Go.Proofs.Ytdmbbddkbfknlaa
open Go.RowKit

def rowN (n : Nat) (F : Nat → Nat) : List Value := row n fun i => ((F i : Nat) : Int)
theorem rowN_set2 {n : Nat} {F : Nat → Nat} {x y u v : Nat} : ((rowN n F).set x (.int .i64 ((u : Nat) : Int))).set y (.int .i64 ((v : Nat) : Int)) = rowN n fun p => if p = y then v else if p = x then u else F p := by
  unfold rowN
  rw [row_set, row_set]
  congr 1
  funext p
  show (if p = y then ((v : Nat) : Int) else if p = x then ((u : Nat) : Int) else ((F p : Nat) : Int)) = ((if p = y then v else if p = x then u else F p : Nat) : Int)
  by_cases h1 : p = y
  · rw [if_pos h1, if_pos h1]
  · rw [if_neg h1, if_neg h1]
    by_cases h2 : p = x
    · rw [if_pos h2, if_pos h2]
    · rw [if_neg h2, if_neg h2]
theorem own_atN {w : World} {b e n c : Nat} {A : Option Addr} {F : Nat → Nat} (h : w.ownsRow b e 1 (.slice A n c) n (rowN n F)) {j : Nat} (hj : j < n) : ∃ g, A = some ⟨g, 0, none⟩ ∧ b ≤ g ∧ g < w.heap.size ∧ w.cell? ⟨g, j, none⟩ = some (.int .i64 ((F j : Nat) : Int)) := by
  rcases h.2 with ⟨h1, h2⟩ | ⟨g, cap, cur, h1, h2, h3, h4⟩
  · omega
  · injection h1 with h1 _ _
    subst h1
    have hr := Rd.of_own h
    obtain ⟨b', o', hA, hlt, hc⟩ := Rd.row hr hj
    injection hA with hA; injection hA with hA hA2 _
    subst hA; subst hA2
    rw [Nat.zero_add] at hc
    exact ⟨g, rfl, h2, hlt, hc⟩
set_option maxHeartbeats 1600000 in
theorem swapRange_any (A : Option Addr) (n c B a b k : Nat) (F : Nat → Nat) (fn : Value) (w : World) (hown : w.ownsRow B 3 1 (.slice A n c) n (rowN n F)) (hab : a + k ≤ b) (hbn : b + k ≤ n) (hn : n ≤ 45) :
    Calls Try.prog 53 #[.slice A n c, .int .i64 (a : Int), .int .i64 (b : Int), .int .i64 (k : Int), fn] w fun e w' => e = .returned (.tuple #[]) ∧ w'.ownsRow B 3 1 (.slice A n c) n (rowN n fun p => F (swR a b k p)) ∧ Below B w w' := by
  have hownH := Lib.hid hown
  clear hown
  go_enter Try.func53, Try.ntmps53
  go_wp2
  go_loopw [10] (fun q wr => ∃ i : Nat, i ≤ k ∧ q = .int .i64 i ∧ wr.ownsRow B 3 1 (.slice A n c) n (rowN n fun p => F (swR a b i p)) ∧ Below B w wr) (fun q _ => k - (intOf q).toNat)
  case atStart => exact ⟨0, by omega, rfl, by rw [show (fun p => F (swR a b 0 p)) = F by funext p; rw [swR_zero]]; exact hownH.out, Below.refl _ _⟩
  case round =>
    clear hownH
    obtain ⟨i, hik, rfl, hown, hb⟩ := hrel
    by_cases hlt : i < k
    · obtain ⟨g, rfl, hBg, hgl, hc1⟩ := own_atN hown (show a + i < n by omega)
      obtain ⟨_, hA, _, _, hc2⟩ := own_atN hown (show b + i < n by omega)
      cases hA
      have hw1 : IntKind.i64.wrap ((a : Int) + (i : Int)) = ((a + i : Nat) : Int) := by rw [IntWalk.i64_in _ (by omega)]; omega
      have hw2 : IntKind.i64.wrap ((b : Int) + (i : Int)) = ((b + i : Nat) : Int) := by rw [IntWalk.i64_in _ (by omega)]; omega
      have hf1 := hown.frozenAt (a + i)
      have hf2 := hown.frozenAt (b + i)
      have hst := (hown.stored (a + i) (.int .i64 ((F (swR a b i (b + i)) : Nat) : Int))).1
      have hst2 := (hst.stored (b + i) (.int .i64 ((F (swR a b i (a + i)) : Nat) : Int))).1
      have hbs := (hb.setCell (p := ⟨g, a + i, none⟩) hBg (.int .i64 ((F (swR a b i (b + i)) : Nat) : Int))).setCell (p := ⟨g, b + i, none⟩) hBg (.int .i64 ((F (swR a b i (a + i)) : Nat) : Int))
      rw [rowN_set2, swR_succ (by omega) F] at hst2
      have hst2H := Lib.hid hst2; have hbsH := Lib.hid hbs
      clear hst hst2 hbs hown hb
      generalize F (swR a b i (a + i)) = X at *
      generalize F (swR a b i (b + i)) = Y at *
      generalize hx : a + i = x at *
      generalize hy : b + i = y at *
      have hxn : x < n := by omega
      have hyn : y < n := by omega
      have hne : x ≠ y := by omega
      clear hx hy
      go_wp2
      go_region
      go_wp2
      go_roundw
      case rel => exact ⟨i + 1, by omega, by go_num, hst2H.out, below_drewN hbsH.out 1⟩
      case measure => simp [intOf]; omega
    · obtain rfl : i = k := by omega
      have hownH := Lib.hid hown; have hbH := Lib.hid hb
      clear hown hb
      go_wp2
      go_end0
      exact ⟨rfl, hownH.out, hbH.out⟩
set_option maxHeartbeats 1600000 in
theorem rotate_any (A : Option Addr) (n c B s m e : Nat) (F : Nat → Nat) (fn : Value) (w : World) (hown : w.ownsRow B 3 1 (.slice A n c) n (rowN n F)) (hsm : s < m) (hme : m < e) (hen : e ≤ n) (hn : n ≤ 45) :
    Calls Try.prog 46 #[.slice A n c, .int .i64 (s : Int), .int .i64 (m : Int), .int .i64 (e : Int), fn] w fun r w' => r = .returned (.tuple #[]) ∧ ∃ G, G = (fun p => F (rotR s m e p)) ∧ Sh s e F G ∧ w'.ownsRow B 3 1 (.slice A n c) n (rowN n G) ∧ Below B w w' := by
  have hownH := Lib.hid hown
  have HS := Lib.hid (fun (a b k : Nat) (F : Nat → Nat) (W : World) (h : W.ownsRow B 3 1 (.slice A n c) n (rowN n F)) (hab : a + k ≤ b) (hbn : b + k ≤ n) => swapRange_any A n c B a b k F fn W h hab hbn hn)
  have hw1 : IntKind.i64.wrap ((m : Int) - (s : Int)) = ((m - s : Nat) : Int) := by rw [IntWalk.i64_in _ (by omega)]; omega
  have hw2 : IntKind.i64.wrap ((e : Int) - (m : Int)) = ((e - m : Nat) : Int) := by rw [IntWalk.i64_in _ (by omega)]; omega
  have hI := Lib.hid (RotI.start (Nat.le_of_lt hsm) (Nat.le_of_lt hme) F)
  obtain ⟨T, hT⟩ : ∃ T, T = fun p => F (rotR s m e p) := ⟨_, rfl⟩
  rw [← hT] at hI ⊢
  clear hown hT
  go_enter Try.func46, Try.ntmps46
  go_wp2
  go_loopw [10, 11] (fun q r wr => ∃ (i j : Nat) (G : Nat → Nat), 1 ≤ i ∧ 1 ≤ j ∧ s + i ≤ m ∧ m + j ≤ e ∧ q = .int .i64 i ∧ r = .int .i64 j ∧ Sh s e F G ∧ RotI m T i j G ∧ wr.ownsRow B 3 1 (.slice A n c) n (rowN n G) ∧ Below B w wr) (fun q r _ => (intOf q).toNat + (intOf r).toNat)
  case atStart => exact ⟨m - s, e - m, F, by omega, by omega, by omega, by omega, rfl, rfl, Sh.refl _ _ _, hI.out, hownH.out, Below.refl _ _⟩
  case round =>
    clear hownH hI hw1 hw2
    obtain ⟨i, j, G, hi1, hj1, hsi, hje, rfl, rfl, hsh, hR, hown, hb⟩ := hrel
    have hw3 : IntKind.i64.wrap ((m : Int) - (i : Int)) = ((m - i : Nat) : Int) := by rw [IntWalk.i64_in _ (by omega)]; omega
    have hbH := Lib.hid hb; have hshH := Lib.hid hsh; have hRH := Lib.hid hR
    rcases Nat.lt_trichotomy i j with hlt | hlt | hlt
    · have hd : decide (j < i) = false := decide_eq_false (by omega)
      have hdi : ((i : Int) != (j : Int)) = true := by simp; omega
      have hw4 : IntKind.i64.wrap ((m : Int) + (j : Int)) = ((m + j : Nat) : Int) := by rw [IntWalk.i64_in _ (by omega)]; omega
      have hw5 : IntKind.i64.wrap (((m + j : Nat) : Int) - (i : Int)) = ((m + j - i : Nat) : Int) := by rw [IntWalk.i64_in _ (by omega)]; omega
      have hw6 : IntKind.i64.wrap ((j : Int) - (i : Int)) = ((j - i : Nat) : Int) := by rw [IntWalk.i64_in _ (by omega)]; omega
      have H := Lib.hid (HS.out (m - i) (m + j - i) i G wr hown (by omega) (by omega))
      have hs2 := Lib.hid (hsh.trans (Sh.sw (a := m - i) (b := m + j - i) (k := i) (lo := s) (hi := e) (by omega) (by omega) (by omega) G))
      have hR2 := Lib.hid (hR.right hlt)
      clear hown hb hsh hR HS
      have hje2 : m + (j - i) ≤ e := by omega
      generalize m + j - i = x1 at *
      generalize m + j = x2 at *
      go_wp2_with fail
      refine H.out.mono ?_
      rintro _ w1 ⟨rfl, hown, hb⟩
      have hownH := Lib.hid hown; have hb1 := Lib.hid (hbH.out.trans hb)
      clear hown hb
      go_wp2
      go_roundw
      case rel => exact ⟨i, j - i, _, hi1, by omega, hsi, hje2, rfl, by go_num, hs2.out, hR2.out, hownH.out, hb1.out⟩
      case measure => simp [intOf]; omega
    · subst hlt
      have hdi : ((i : Int) != (i : Int)) = false := by simp
      have H := Lib.hid (HS.out (m - i) m i G wr hown (by omega) (by omega))
      have hs2 := Lib.hid (hsh.trans (Sh.sw (a := m - i) (b := m) (k := i) (lo := s) (hi := e) (by omega) (by omega) (by omega) G))
      have hR2 := Lib.hid hR.done
      clear hown hb hsh hR HS
      go_wp2_with fail
      refine H.out.mono ?_
      rintro _ w1 ⟨rfl, hown, hb⟩
      have hownH := Lib.hid hown; have hb1 := Lib.hid (hbH.out.trans hb)
      clear hown hb
      go_wp2
      go_end0
      exact ⟨rfl, _, hR2.out, hs2.out, hownH.out, hb1.out⟩
    · have hd : decide (j < i) = true := decide_eq_true (by omega)
      have hdi : ((i : Int) != (j : Int)) = true := by simp; omega
      have hw6 : IntKind.i64.wrap ((i : Int) - (j : Int)) = ((i - j : Nat) : Int) := by rw [IntWalk.i64_in _ (by omega)]; omega
      have H := Lib.hid (HS.out (m - i) m j G wr hown (by omega) (by omega))
      have hs2 := Lib.hid (hsh.trans (Sh.sw (a := m - i) (b := m) (k := j) (lo := s) (hi := e) (by omega) (by omega) (by omega) G))
      have hR2 := Lib.hid (hR.left hlt)
      clear hown hb hsh hR HS
      go_wp2_with fail
      refine H.out.mono ?_
      rintro _ w1 ⟨rfl, hown, hb⟩
      have hownH := Lib.hid hown; have hb1 := Lib.hid (hbH.out.trans hb)
      clear hown hb
      go_wp2
      go_roundw
      case rel => exact ⟨i - j, j, _, by omega, hj1, by omega, hje, by go_num, rfl, hs2.out, hR2.out, hownH.out, hb1.out⟩
      case measure => simp [intOf]; omega
end Go.Proofs.Ytdmbbddkbfknlaa
