/- Jobs one after the other: the checks (for seats without Worth and Two: split off XWeighA and XTwoA). -/
import Derived.Test.YtnpmmmicgpngpaaJobs
import Derived.Test.YtnpmmmicgpngpaaEachL
import Derived.Test.YtnpmmmicgpngpaaBlk
namespace Go.Proofs.Ytnpmmmicgpngpaa
open Go.RowKit

def badT (x : Int) : Bool := decide (x < 0) || decide (1048576 < x)
theorem out_any (x : Int) (w : World) : Calls Try.prog 23 #[.int .i64 x] w fun e w' => e = .returned (.bool (badT x)) ∧ w = w' := by
  by_cases h : x < 0
  · go_enter Try.func23, Try.ntmps23
    go_wp2
    go_ret
    exact ⟨by simp [badT, h], rfl⟩
  · go_enter Try.func23, Try.ntmps23
    go_wp2
    go_ret
    exact ⟨by simp [badT]; omega, rfl⟩
theorem entOut (args : Array Value) (w : World) : (callFunc 23 args).run Try.prog w = .ok (.enter 23 args) w := by go_simp
/-- what else is looked at: 1: due; else worth -/
def fld (what : Nat) (j : Jb) : Int := if what = 1 then j.due else j.worth
def badJ (what : Nat) (j : Jb) : Bool := badT j.time || badT (fld what j)
def qchk (what : Nat) (l : List Jb) : Int := if 7 < l.length then 1 else if l.any (badJ what) = true then 4 else 0
theorem due1_any (j : Jb) (w : World) : Calls Try.prog 9 #[jagg j] w fun e w' => e = .returned (.int .i64 (fld 1 j)) ∧ Below w.heap.size w w' := by
  obtain ⟨t, A', l', c', du, wo, af⟩ := j
  unfold jagg fld
  have hb := (Below.refl _ w).alloc (Nat.le_refl _) (.cells #[.int .i64 t, .slice A' l' c', .int .i64 du, .int .i64 wo] 31)
  go_enter Try.func9, Try.ntmps9
  go_wp2
  go_ret
  exact ⟨rfl, hb⟩
theorem entD1 (args : Array Value) (w : World) : (callFunc 9 args).run Try.prog w = .ok (.enter 9 args) w := by go_simp
theorem entWr1 (args : Array Value) (w : World) : (callFunc 22 args).run Try.prog w = .ok (.enter 22 args) w := by go_simp
set_option maxHeartbeats 800000 in
theorem wrong1_any (what : Nat) (gof : Nat) (eg : ∀ args w, (callFunc gof args).run Try.prog w = .ok (.enter gof args) w)
    (hof : ∀ j w, Calls Try.prog gof #[jagg j] w fun e w' => e = .returned (.int .i64 (fld what j)) ∧ Below w.heap.size w w') (b : Nat) (j : Jb) (w : World) (hb : b < w.heap.size) (hc : w.cell? ⟨b, 0, none⟩ = some (.func (.func gof) #[] #[])) :
    Calls Try.prog 22 #[jagg j, .pointer (some ⟨b, 0, none⟩)] w fun e w' => e = .returned (.bool (badJ what j)) ∧ Below w.heap.size w w' := by
  have hofH := Lib.hid (hof j)
  have hbj := Lib.hid (show badJ what j = (badT j.time || badT (fld what j)) from rfl)
  clear hof
  generalize fld what j = x at *
  generalize badJ what j = y at *
  obtain ⟨t, A', l', c', du, wo, af⟩ := j
  unfold jagg at *
  dsimp only at *
  have hbB := (Below.refl _ w).alloc (Nat.le_refl _) (.cells #[.int .i64 t, .slice A' l' c', .int .i64 du, .int .i64 wo] 31)
  have hcb : (w.alloc (.cells #[.int .i64 t, .slice A' l' c', .int .i64 du, .int .i64 wo] 31)).cell? ⟨b, 0, none⟩ = some (.func (.func gof) #[] #[]) := by
    rw [((Below.refl w.heap.size w).alloc (Nat.le_refl _) _).cell (p := ⟨b, 0, none⟩) hb]; exact hc
  have HO := Lib.hid (out_any t (w.alloc (.cells #[.int .i64 t, .slice A' l' c', .int .i64 du, .int .i64 wo] 31)))
  cases hbt : badT t
  · rw [hbt] at HO
    have hyH := Lib.hid (show y = badT x by rw [hbj.out, hbt]; rfl)
    clear hbj hbt
    have HG := Lib.hid (hofH.out (w.alloc (.cells #[.int .i64 t, .slice A' l' c', .int .i64 du, .int .i64 wo] 31)))
    go_enter Try.func22, Try.ntmps22
    go_wp2_with fail
    refine HO.out.mono ?_
    rintro _ w1 ⟨rfl, rfl⟩
    go_wp2_with fail
    refine HG.out.mono ?_
    rintro _ w2 ⟨rfl, hb2⟩
    have HO2 := Lib.hid (out_any x w2)
    go_wp2_with fail
    refine HO2.out.mono ?_
    rintro _ w3 ⟨rfl, rfl⟩
    go_wp2
    go_ret
    exact ⟨by rw [hyH.out]; rfl, hbB.trans (hb2.mono (by simp))⟩
  · rw [hbt] at HO
    have hyH := Lib.hid (show y = true by rw [hbj.out, hbt]; rfl)
    clear hbj hbt
    go_enter Try.func22, Try.ntmps22
    go_wp2_with fail
    refine HO.out.mono ?_
    rintro _ w1 ⟨rfl, rfl⟩
    go_wp2
    go_ret
    exact ⟨by rw [hyH.out]; rfl, hbB⟩
theorem wrong_any (what : Nat) (gof : Nat) (eg : ∀ args w, (callFunc gof args).run Try.prog w = .ok (.enter gof args) w)
    (hof : ∀ j w, Calls Try.prog gof #[jagg j] w fun e w' => e = .returned (.int .i64 (fld what j)) ∧ Below w.heap.size w w') (A : Option Addr) (len cap : Nat) (l : List Jb) (w : World) (hr : RdJ w A len l) (hl : len ≤ 9223372036854775807) :
    Calls Try.prog 8 #[.slice A len cap, .func (.func gof) #[] #[]] w fun e w' => e = .returned (.int .i64 (qchk what l)) ∧ Below w.heap.size w w' := by
  have hel := hr.1
  have hbx := Boxed.new w 34 (.func (.func gof) #[] #[])
  have hbB := (Below.refl _ w).alloc (Nat.le_refl _) (.cells #[.func (.func gof) #[] #[]] 34)
  have HC := Lib.hid (containsFuncJ A len cap l 22 #[.pointer (some ⟨w.heap.size, 0, none⟩)] (badJ what) _ (hr.later hbB) hl entWr1 (fun a w' _ hb' => by
    refine wrong1_any what gof eg hof w.heap.size a w' (by have := hb'.size; simp at this; omega) (Boxed.cell ((hb'.block _ (by simp)).trans hbx))))
  by_cases h7 : 7 < len
  · have hv := Lib.hid (show qchk what l = 1 by rw [qchk, if_pos (by omega)])
    clear hr HC hof eg
    go_enter Try.func8, Try.ntmps8
    go_wp2
    go_ret
    exact ⟨by rw [hv.out]; rfl, hbB⟩
  · have hv0 : qchk what l = if l.any (badJ what) = true then 4 else 0 := by rw [qchk, if_neg (by omega)]
    clear hr hof eg
    cases hb : l.any (badJ what)
    · rw [hb] at hv0 HC
      have hv := Lib.hid (show qchk what l = 0 from hv0)
      clear hv0 hb
      go_enter Try.func8, Try.ntmps8
      go_wp2_with fail
      refine HC.out.mono ?_
      rintro _ w1 ⟨rfl, hb1⟩
      go_wp2
      go_ret
      exact ⟨by rw [hv.out]; rfl, hbB.trans (hb1.mono (by simp))⟩
    · rw [hb] at hv0 HC
      have hv := Lib.hid (show qchk what l = 4 from hv0)
      clear hv0 hb
      go_enter Try.func8, Try.ntmps8
      go_wp2_with fail
      refine HC.out.mono ?_
      rintro _ w1 ⟨rfl, hb1⟩
      go_wp2
      go_ret
      exact ⟨by rw [hv.out]; rfl, hbB.trans (hb1.mono (by simp))⟩
set_option maxHeartbeats 800000 in
theorem qCheckG (what : Nat) (wi : Int) (hw : (what = 0 ∧ (wi == 1) = false) ∨ (what = 1 ∧ (wi == 1) = true)) (A : Option Addr) (len cap : Nat) (l : List Jb) (w : World) (hr : RdJ w A len l) (hl : len ≤ 9223372036854775807) :
    Calls Try.prog 16 #[.slice A len cap, .int .i64 wi] w fun e w' => e = .returned (.int .i64 (qchk what l)) ∧ Below w.heap.size w w' := by
  have hel := hr.1
  have hwH := Lib.hid hw; clear hw
  by_cases h7 : 7 < len
  · have hv := Lib.hid (show qchk what l = 1 by rw [qchk, if_pos (by omega)])
    clear hr
    go_enter Try.func16, Try.ntmps16
    go_wp2
    go_ret
    exact ⟨by rw [hv.out]; rfl, Below.refl _ _⟩
  · have hv := Lib.hid (show qchk what l = if l.any (badJ what) = true then 4 else 0 by rw [qchk, if_neg (by omega)])
    have hrH := Lib.hid hr; have helH := Lib.hid hel
    clear hr hel
    go_enter Try.func16, Try.ntmps16
    go_wp2
    go_loopw [6, 7, 13] (fun _ _ i wr => ∃ k : Nat, k ≤ len ∧ i = .int .i64 k ∧ (l.take k).any (badJ what) = false ∧ Below w.heap.size w wr) (fun _ _ i _ => len - (intOf i).toNat)
    case atStart => exact ⟨0, Nat.zero_le _, rfl, rfl, Below.refl _ _⟩
    case round =>
      obtain ⟨k, hk, rfl, hn, hb⟩ := hrel
      have hnH := Lib.hid hn; clear hn
      by_cases hlt : k < len
      · obtain ⟨b, o, rfl, hab, hc0, hc1, hc2, hc3, _⟩ := (hrH.out.later hb).at hlt
        have hsome := Lib.hid (any_at (p := badJ what) (l := l) (k := k) (by rw [helH.out]; exact hlt))
        have hnext := Lib.hid (any_take_at (p := badJ what) (l := l) (k := k) (by rw [helH.out]; exact hlt) hnH.out)
        have hbe := hb.alloc hb.size (.cells #[.int .i64 (jat l k).time, .slice (jat l k).A (jat l k).len (jat l k).cap, .int .i64 (jat l k).due, .int .i64 (jat l k).worth] 31)
        have hbeH := Lib.hid hbe
        have hbd := Lib.hid (show badJ what (jat l k) = (badT (jat l k).time || badT (fld what (jat l k))) from rfl)
        clear hbe
        generalize jat l k = a at *
        obtain ⟨t, A', l', c', du, wo, af⟩ := a
        dsimp only at *
        obtain ⟨x, hx⟩ : ∃ x, fld what ⟨t, A', l', c', du, wo, af⟩ = x := ⟨_, rfl⟩
        have hok : ∀ z : Int, 0 ≤ z → z ≤ 1048576 → badT z = false := fun z h1 h2 => by simp [badT]; omega
        have hno : ∀ z : Int, z < 0 ∨ 1048576 < z → badT z = true := fun z h1 => by simp [badT]; omega
        have hokH := Lib.hid hok; have hnoH := Lib.hid hno; clear hok hno
        rw [hx] at hbd
        rcases hwH.out with ⟨rfl, hwi⟩ | ⟨rfl, hwi⟩
        all_goals
          simp only [fld] at hx
          simp at hx
          subst hx
        · by_cases h0 : 0 ≤ t ∧ t ≤ 1048576
          · obtain ⟨h1, h2⟩ := h0
            by_cases h3 : 0 ≤ wo ∧ wo ≤ 1048576
            · obtain ⟨h3, h4⟩ := h3
              have hq := Lib.hid (hnext.out (by rw [hbd.out, hokH.out t h1 h2, hokH.out wo h3 h4]; rfl))
              go_wp2
              go_roundw
              case rel => exact ⟨k + 1, by omega, by go_num, hq.out, hbeH.out⟩
              case measure => simp [intOf]; omega
            · have hres := Lib.hid (show qchk 0 l = 4 by rw [hv.out, if_pos (hsome.out (by rw [hbd.out, hnoH.out wo (by omega)]; simp))])
              by_cases h5 : wo < 0
              · go_wp2
                go_ret
                exact ⟨by rw [hres.out]; rfl, hbeH.out⟩
              · have h6 : 1048576 < wo := by omega
                go_wp2
                go_ret
                exact ⟨by rw [hres.out]; rfl, hbeH.out⟩
          · have hres := Lib.hid (show qchk 0 l = 4 by rw [hv.out, if_pos (hsome.out (by rw [hbd.out, hnoH.out t (by omega)]; rfl))])
            by_cases h5 : t < 0
            · go_wp2
              go_ret
              exact ⟨by rw [hres.out]; rfl, hbeH.out⟩
            · have h6 : 1048576 < t := by omega
              go_wp2
              go_ret
              exact ⟨by rw [hres.out]; rfl, hbeH.out⟩
        · by_cases h0 : 0 ≤ t ∧ t ≤ 1048576
          · obtain ⟨h1, h2⟩ := h0
            by_cases h3 : 0 ≤ du ∧ du ≤ 1048576
            · obtain ⟨h3, h4⟩ := h3
              have hq := Lib.hid (hnext.out (by rw [hbd.out, hokH.out t h1 h2, hokH.out du h3 h4]; rfl))
              go_wp2
              go_roundw
              case rel => exact ⟨k + 1, by omega, by go_num, hq.out, hbeH.out⟩
              case measure => simp [intOf]; omega
            · have hres := Lib.hid (show qchk 1 l = 4 by rw [hv.out, if_pos (hsome.out (by rw [hbd.out, hnoH.out du (by omega)]; simp))])
              by_cases h5 : du < 0
              · go_wp2
                go_ret
                exact ⟨by rw [hres.out]; rfl, hbeH.out⟩
              · have h6 : 1048576 < du := by omega
                go_wp2
                go_ret
                exact ⟨by rw [hres.out]; rfl, hbeH.out⟩
          · have hres := Lib.hid (show qchk 1 l = 4 by rw [hv.out, if_pos (hsome.out (by rw [hbd.out, hnoH.out t (by omega)]; rfl))])
            by_cases h5 : t < 0
            · go_wp2
              go_ret
              exact ⟨by rw [hres.out]; rfl, hbeH.out⟩
            · have h6 : 1048576 < t := by omega
              go_wp2
              go_ret
              exact ⟨by rw [hres.out]; rfl, hbeH.out⟩
      · have hz := Lib.hid (show qchk what l = 0 by
          have h1 := hnH.out
          rw [List.take_of_length_le (by rw [helH.out]; omega)] at h1
          rw [hv.out, h1]; rfl)
        go_wp2
        go_ret
        exact ⟨by rw [hz.out]; rfl, hb⟩
theorem qCheck_any (what : Nat) (hw : what < 2) (A : Option Addr) (len cap : Nat) (l : List Jb) (w : World) (hr : RdJ w A len l) (hl : len ≤ 9223372036854775807) :
    Calls Try.prog 16 #[.slice A len cap, .int .i64 what] w fun e w' => e = .returned (.int .i64 (qchk what l)) ∧ Below w.heap.size w w' :=
  qCheckG what what (by obtain rfl | rfl : what = 0 ∨ what = 1 := by omega
                        · exact .inl ⟨rfl, rfl⟩
                        · exact .inr ⟨rfl, rfl⟩) A len cap l w hr hl
theorem jobsOk_any (what : Nat) (hw : what < 2) (A : Option Addr) (len cap : Nat) (l : List Jb) (w : World) (hr : RdJ w A len l) (hl : len ≤ 9223372036854775807) :
    Calls Try.prog 5 #[.slice A len cap, .int .i64 what] w fun e w' => e = .returned (.bool (qchk what l == 0)) ∧ Below w.heap.size w w' := by
  have HQ := Lib.hid (qCheck_any what hw A len cap l w hr hl)
  clear hr
  generalize qchk what l = z at *
  go_enter Try.func5, Try.ntmps5
  go_wp2_with fail
  refine HQ.out.mono ?_
  rintro _ w1 ⟨rfl, hb⟩
  go_wp2
  go_ret
  exact ⟨rfl, hb⟩
theorem qchk_zero {what : Nat} {l : List Jb} (h : qchk what l = 0) : l.length ≤ 7 ∧ (∀ i, 0 ≤ (jat l i).time ∧ (jat l i).time ≤ 1048576) ∧ ∀ i, 0 ≤ fld what (jat l i) ∧ fld what (jat l i) ≤ 1048576 := by
  unfold qchk at h
  split at h
  · simp at h
  · split at h
    · simp at h
    · rename_i h1 h2
      have hb : ∀ i, badJ what (jat l i) = false := fun i => by
        by_cases hi : i < l.length
        · cases hb : badJ what (jat l i)
          · rfl
          · exact absurd (any_at hi hb) h2
        · have : jat l i = default := by simp [jat, List.getD, hi]
          rw [this]
          show (badT 0 || badT (fld what default)) = false
          unfold fld; split <;> rfl
      refine ⟨by omega, fun i => ?_, fun i => ?_⟩
      · have := hb i
        simp only [badJ, badT, Bool.or_eq_false_iff, decide_eq_false_iff_not] at this
        omega
      · have := hb i
        simp only [badJ, badT, Bool.or_eq_false_iff, decide_eq_false_iff_not] at this
        omega
end Go.Proofs.Ytnpmmmicgpngpaa
