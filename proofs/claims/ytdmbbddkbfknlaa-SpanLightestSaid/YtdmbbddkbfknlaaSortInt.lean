/- slices.Sort at int, of no more than ten: the insertion sort. -/
import Derived.Test.YtdmbbddkbfknlaaSrt
import Derived.Test.YtdmbbddkbfknlaaLessI
import Derived.Test.YtdmbbddkbfknlaaRow
import Derived.Test.YtdmbbddkbfknlaaBlk
import Derived.Test.YtdmbbddkbfknlaaBel
import Derived.BigQuiet
namespace Go.Proofs.Ytdmbbddkbfknlaa
open Go.RowKit

def KN (x : Int) : Int := - x
theorem ints_set (z : List Int) (k : Nat) (x : Int) : (ints .i64 z).set k (.int .i64 x) = ints .i64 (z.set k x) := by simp [ints, List.map_set]
theorem own_atI {w : World} {b e n c : Nat} {A : Option Addr} {z : List Int} (h : w.ownsRow b e 1 (.slice A n c) n (ints .i64 z)) {j : Nat} (hj : j < n) : ∃ g, A = some ⟨g, 0, none⟩ ∧ b ≤ g ∧ g < w.heap.size ∧ w.cell? ⟨g, j, none⟩ = some (.int .i64 (z.getD j 0)) := by
  have hl : z.length = n := by have := h.1; simpa [ints] using this
  obtain ⟨g, hA, hbg, hlt⟩ : ∃ g, A = some ⟨g, 0, none⟩ ∧ b ≤ g ∧ g < w.heap.size := by
    rcases h.2 with ⟨h1, h2⟩ | ⟨g, cap, cur, h1, h2, h3, h4⟩
    · omega
    · injection h1 with h1 _ _
      exact ⟨g, h1, h2, (Array.getElem?_eq_some_iff.1 h3).1⟩
  subst hA
  refine ⟨g, rfl, hbg, hlt, ?_⟩
  rw [h.cellAt j (by omega)]
  simp [ints, List.getD, show j < z.length by omega]
def SPost (A : Option Addr) (n c B : Nat) (y : List Int) (w : World) (e : Ending) (w' : World) : Prop :=
  e = .returned (.tuple #[]) ∧ ∃ z, z.Perm y ∧ SrI 0 KN z n ∧ w'.ownsRow B 3 1 (.slice A n c) n (ints .i64 z) ∧ Below B w w'
set_option maxHeartbeats 1600000 in
theorem insertionI_any (A : Option Addr) (n c B : Nat) (y : List Int) (w : World) (hown : w.ownsRow B 3 1 (.slice A n c) n (ints .i64 y)) (hn : n ≤ 20) :
    Calls Try.prog 34 #[.slice A n c, .int .i64 0, .int .i64 (n : Int)] w (SPost A n c B y w) := by
  have hyl : y.length = n := by have := hown.1; simpa [ints] using this
  have hylH := Lib.hid hyl
  clear hyl
  go_enter Try.func34, Try.ntmps34
  go_wp2
  go_loopw [6, 7] (fun q _ wr => ∃ (i : Nat) (z : List Int), 1 ≤ i ∧ (i ≤ n ∨ n = 0) ∧ i ≤ n + 1 ∧ q = .int .i64 i ∧ z.Perm y ∧ SrI 0 KN z i ∧ wr.ownsRow B 3 1 (.slice A n c) n (ints .i64 z) ∧ Below B w wr) (fun q _ _ => n + 1 - (intOf q).toNat)
  case atStart => exact ⟨1, y, by omega, by omega, by omega, rfl, .refl _, SrI.one, hown, Below.refl _ _⟩
  case round =>
    clear hown
    obtain ⟨i, z, hi1, hin, hin1, rfl, hp, hS, hown, hb⟩ := hrel
    by_cases hlt : i < n
    · have hSH := Lib.hid (SrJ.start hS); have hownH := Lib.hid hown; have hbH := Lib.hid hb; have hpH := Lib.hid hp
      clear hS hown hb hp hin
      go_wp2
      go_loopw [7] (fun q wx => ∃ (j : Nat) (z : List Int), j ≤ i ∧ q = .int .i64 j ∧ z.Perm y ∧ SrJ 0 KN z i j ∧ wx.ownsRow B 3 1 (.slice A n c) n (ints .i64 z) ∧ Below B w wx) (fun q _ => (intOf q).toNat)
      case atStart => exact ⟨i, z, Nat.le_refl _, rfl, hpH.out, hSH.out, hownH.out, hbH.out⟩
      case round =>
        clear hSH hownH hbH hpH
        obtain ⟨j, z, hji, rfl, hp, hJ, hown, hb⟩ := hrel
        have hzl : z.length = n := by rw [← hylH.out]; exact hp.length_eq
        by_cases hj0 : j = 0
        · subst hj0
          have hI := Lib.hid (hJ.done fun h => absurd h (by omega))
          have hownH := Lib.hid hown; have hbH := Lib.hid hb; have hpH := Lib.hid hp
          clear hJ hown hb hp hzl
          go_wp2
          go_quiet (fail)
          go_wp2
          go_roundw
          case rel => exact ⟨i + 1, z, by omega, by omega, by omega, by go_num, hpH.out, hI.out, own_drewN hownH.out _, below_drewN hbH.out _⟩
          case measure => simp [intOf]; omega
        · obtain ⟨g, rfl, hBg, hgl, a0⟩ := own_atI hown (show j < n by omega)
          obtain ⟨_, hA, _, _, b0⟩ := own_atI hown (show j - 1 < n by omega)
          cases hA
          have hw1 : IntKind.i64.wrap ((j : Int) - 1) = ((j - 1 : Nat) : Int) := by rw [IntWalk.i64_in _ (by omega)]; omega
          have hsw := Lib.hid (fun h => hJ.swap (j := j) (by omega) (by omega) h)
          have hdn := Lib.hid (fun h => hJ.done (j := j) h)
          obtain ⟨X, hX⟩ : ∃ X, z.getD j 0 = X := ⟨_, rfl⟩
          obtain ⟨Y, hY⟩ : ∃ Y, z.getD (j - 1) 0 = Y := ⟨_, rfl⟩
          have hXH := Lib.hid hX; have hYH := Lib.hid hY
          rw [hX] at a0
          rw [hY] at b0
          have hownH := Lib.hid hown; have hbH := Lib.hid hb; have hpH := Lib.hid hp; have hzlH := Lib.hid hzl
          have hdj : decide (0 < j) = true := decide_eq_true (by omega)
          clear hJ hown hb hp hzl hX hY
          obtain ⟨wi, rfl⟩ : ∃ wi : World, wi = wr := ⟨_, rfl⟩
          have x0 := BW.cell (w := wi) a0; have y0 := BW.cell (w := wi) b0
          have HQ := Lib.hid (fun (W : World) => lessI_any X Y W)
          by_cases hlt2 : X < Y
          · rw [decide_eq_true hlt2] at HQ
            have hs1 := Lib.hid (hsw.out (by rw [hXH.out, hYH.out]; unfold KN; omega))
            clear hlt2 hsw hdn
            go_wp2
            refine wp_region_below (by kernel_rfl) (by kernel_rfl) ?_
            repeat (go_big_quiet_step (first | rfl | (with_reducible refine Calls.bel0 (HQ.out _))))
            refine wpQuiet_nil ?_
            rintro _ ⟨p, rfl⟩
            have z0 := x0 p; have u0 := y0 p
            have hown1 := own_below hownH.out p.hb
            have hb1 := hbH.out.trans (p.hb.mono (by omega))
            have hgl1 : g < p.w'.heap.size := Nat.lt_of_lt_of_le hgl p.hb.size
            generalize p.w' = W1 at *
            have f0 := hown1.frozenAt j; have e0 := hown1.frozenAt (j - 1)
            have hst := ((hown1.stored j (.int .i64 Y)).1.stored (j - 1) (.int .i64 X)).1
            rw [ints_set, ints_set] at hst
            have hbs := (hb1.setCell (p := ⟨g, j, none⟩) hBg (.int .i64 Y)).setCell (p := ⟨g, j - 1, none⟩) hBg (.int .i64 X)
            have hpz : (swpL 0 z j).Perm y := (swpL_perm (by rw [hzlH.out]; omega)).trans hpH.out
            have hstH := Lib.hid hst; have hbsH := Lib.hid hbs; have hpzH := Lib.hid hpz
            clear hst hbs hpz hown1 hb1 x0 y0 a0 b0 hgl HQ
            go_wp2
            go_region
            go_wp2
            go_roundw
            case rel => exact ⟨j - 1, swpL 0 z j, by omega, by go_num, hpzH.out, hs1.out, by unfold swpL; rw [hXH.out, hYH.out]; exact own_drew hstH.out, hbsH.out.drew⟩
            case measure => simp [intOf]; omega
          · rw [decide_eq_false hlt2] at HQ
            have hI := Lib.hid (hdn.out fun _ => by
              rw [hXH.out, hYH.out]; unfold KN; omega)
            clear hlt2 hsw hdn
            go_wp2
            refine wp_region_below (by kernel_rfl) (by kernel_rfl) ?_
            repeat (go_big_quiet_step (first | rfl | (with_reducible refine Calls.bel0 (HQ.out _))))
            refine wpQuiet_nil ?_
            rintro _ ⟨p, rfl⟩
            have hfin := Lib.hid (own_below hownH.out p.hb)
            have hbf := Lib.hid (hbH.out.trans (p.hb.mono (by omega)))
            clear x0 y0 a0 b0 HQ
            go_wp2
            go_roundw
            case rel => exact ⟨i + 1, z, by omega, by omega, by omega, by go_num, hpH.out, hI.out, hfin.out, hbf.out⟩
            case measure => simp [intOf]; omega
    · have hS' : SrI 0 KN z n := fun p q h1 h2 => hS p q h1 (by omega)
      have hSH := Lib.hid hS'; have hownH := Lib.hid hown; have hbH := Lib.hid hb; have hpH := Lib.hid hp
      clear hS hS' hown hb hp
      go_wp2
      go_end0
      exact ⟨rfl, z, hpH.out, hSH.out, hownH.out, hbH.out⟩
set_option maxRecDepth 100000 in
theorem pdqI_any (A : Option Addr) (n c B : Nat) (y : List Int) (v : Int) (w : World) (hown : w.ownsRow B 3 1 (.slice A n c) n (ints .i64 y)) (hn : n ≤ 10) :
    Calls Try.prog 28 #[.slice A n c, .int .i64 0, .int .i64 (n : Int), .int .i64 v] w (SPost A n c B y w) := by
  have H := Lib.hid (insertionI_any A n c B y w hown (by omega))
  have hn12 : (n : Int) ≤ 12 := by omega
  clear hown
  go_enter Try.func28, Try.ntmps28
  go_wp2
  go_loopw [1, 2] (fun a b wr => a = .int .i64 0 ∧ b = .int .i64 (n : Int) ∧ wr = w) (fun _ _ _ => 0)
  case atStart => exact ⟨rfl, rfl, rfl⟩
  case round =>
    obtain ⟨rfl, rfl, rfl⟩ := hrel
    go_wp2_with fail
    refine H.out.mono ?_
    rintro _ w1 ⟨rfl, h⟩
    have hH := Lib.hid h
    clear h
    go_wp2_with fail
    go_end0
    exact ⟨rfl, hH.out⟩
theorem sortI_any (A : Option Addr) (n c B : Nat) (y : List Int) (w : World) (hown : w.ownsRow B 3 1 (.slice A n c) n (ints .i64 y)) (hn : n ≤ 10) :
    Calls Try.prog 17 #[.slice A n c] w (SPost A n c B y w) := by
  have HL := Lib.hid (len_small n hn w)
  have H := Lib.hid (fun v => pdqI_any A n c B y v w hown hn)
  clear hown
  go_enter Try.func17, Try.ntmps17
  go_wp2_with fail
  refine HL.out.mono ?_
  rintro _ _ ⟨⟨v, rfl⟩, rfl⟩
  go_wp2_with fail
  refine (H.out v).mono ?_
  rintro _ w1 ⟨rfl, h⟩
  have hH := Lib.hid h
  clear h
  go_wp2_with fail
  go_end0
  exact ⟨rfl, hH.out⟩
end Go.Proofs.Ytdmbbddkbfknlaa
