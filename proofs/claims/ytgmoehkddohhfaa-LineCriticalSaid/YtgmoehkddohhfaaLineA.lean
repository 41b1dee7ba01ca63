/- The checks of package line and its reference; Each; next. -/
import Derived.Test.YtgmoehkddohhfaaJobs
import Derived.Test.YtgmoehkddohhfaaHas
import Derived.Test.YtgmoehkddohhfaaContainsInt
import Derived.Test.YtgmoehkddohhfaaIntMap
namespace Go.Proofs.Ytgmoehkddohhfaa
open Go.RowKit

def outK (n : Nat) (k : Int) : Bool := decide (k < 0) || decide ((n : Int) ≤ k)
def jbad (n : Nat) (j : Jb) : Int := if j.time < 0 ∨ 1048576 < j.time then 4 else if j.after.any (outK n) then 2 else 0
def jfst (n : Nat) : List Jb → Int
  | [] => 0
  | j :: r => if jbad n j = 0 then jfst n r else jbad n j
def longJ (j : Jb) : Bool := decide (10 < j.len)
def jchk (l : List Jb) : Int := if 10 < l.length then 1 else if l.any longJ then 1 else jfst l.length l
theorem drop_at {l : List Jb} {k : Nat} (hk : k < l.length) : l.drop k = jat l k :: l.drop (k + 1) := by
  rw [List.drop_eq_getElem_cons hk]; simp [jat, List.getD, hk]
theorem jfst_step {n : Nat} {l : List Jb} {k : Nat} (hk : k < l.length) (h : jfst n l = jfst n (l.drop k)) (h' : jbad n (jat l k) = 0) : jfst n l = jfst n (l.drop (k + 1)) := by
  rw [h, drop_at hk, jfst, if_pos h']
theorem jfst_stop {n : Nat} {l : List Jb} {k : Nat} (hk : k < l.length) (h : jfst n l = jfst n (l.drop k)) (c : Int) (h' : jbad n (jat l k) = c) (hc : c ≠ 0) : jfst n l = c := by
  rw [h, drop_at hk, jfst, if_neg (by rw [h']; exact hc), h']

theorem cell_alloc_lt {w : World} (o : Obj) {b i : Nat} (h : b < w.heap.size) : (w.alloc o).cell? ⟨b, i, none⟩ = w.cell? ⟨b, i, none⟩ :=
  ((Below.refl w.heap.size w).alloc (Nat.le_refl _) o).cell (p := ⟨b, i, none⟩) h
theorem cell_of_alloc {w w' : World} {v : Value} {t : TypeId} (h : Below (w.alloc (.cells #[v] t)).heap.size (w.alloc (.cells #[v] t)) w') : w'.cell? ⟨w.heap.size, 0, none⟩ = some v := by
  rw [h.cell (p := ⟨w.heap.size, 0, none⟩) (by simp)]
  go_simp

theorem chk1_any (a : Jb) (w : World) : Calls Try.prog 15 #[jagg a] w fun e w' => e = .returned (.bool (longJ a)) ∧ Below w.heap.size w w' := by
  obtain ⟨t, A', l', c', du, wo, af⟩ := a
  unfold jagg longJ
  go_enter Try.func15, Try.ntmps15
  go_wp2
  go_ret
  exact ⟨by congr 2; simp; omega, (Below.refl _ _).alloc (Nat.le_refl _) _⟩
theorem entC1 (args : Array Value) (w : World) : (callFunc 15 args).run Try.prog w = .ok (.enter 15 args) w := by go_simp
theorem entC2 (args : Array Value) (w : World) : (callFunc 17 args).run Try.prog w = .ok (.enter 17 args) w := by go_simp
theorem entN1 (args : Array Value) (w : World) : (callFunc 18 args).run Try.prog w = .ok (.enter 18 args) w := by go_simp
theorem chk2_any (k : Int) (p : Addr) (B : Option Addr) (len cap : Nat) (w : World) (hc : w.cell? p = some (.slice B len cap)) :
    Calls Try.prog 17 #[.int .i64 k, .pointer (some p)] w fun e w' => e = .returned (.bool (outK len k)) ∧ w = w' := by
  by_cases h : k < 0
  · go_enter Try.func17, Try.ntmps17
    go_wp2
    go_ret
    exact ⟨by simp [outK, h], rfl⟩
  · go_enter Try.func17, Try.ntmps17
    go_wp2
    go_ret
    exact ⟨by simp [outK]; omega, rfl⟩
theorem contains_long (A : Option Addr) (len cap : Nat) (l : List Jb) (w : World) (hr : RdJ w A len l) (hl : len ≤ 9223372036854775807) :
    Calls Try.prog 14 #[.slice A len cap, .func (.func 15) #[] #[]] w fun e w' => e = .returned (.bool (l.any longJ)) ∧ Below w.heap.size w w' :=
  containsFuncJ A len cap l 15 #[] longJ w hr hl entC1 fun a w' _ _ => chk1_any a w'
theorem contains_out (A : Option Addr) (len cap : Nat) (zs : List Int) (p : Addr) (B : Option Addr) (n c : Nat) (w : World) (hr : Rd w A len 1 (ints .i64 zs)) (hl : len ≤ 9223372036854775807) (hp : p.block < w.heap.size) (hc : w.cell? p = some (.slice B n c)) :
    Calls Try.prog 16 #[.slice A len cap, .func (.func 17) #[] #[.pointer (some p)]] w fun e w' => e = .returned (.bool (zs.any (outK n))) ∧ Below w.heap.size w w' := by
  refine containsFuncI A len cap zs 17 #[.pointer (some p)] (outK n) w hr hl entC2 ?_
  intro a w' _ hb
  exact (chk2_any a p B n c w' ((hb.cell hp).trans hc)).mono fun e w'' ⟨h1, h2⟩ => ⟨h1, h2 ▸ Below.refl _ _⟩
set_option maxHeartbeats 800000 in
theorem lineCheck_any (A : Option Addr) (len cap : Nat) (l : List Jb) (w : World) (hr : RdJ w A len l) (hl : len ≤ 9223372036854775807) :
    Calls Try.prog 11 #[.slice A len cap] w fun e w' => e = .returned (.int .i64 (jchk l)) ∧ Below w.heap.size w w' := by
  have hel := hr.1
  by_cases h10 : 10 < len
  · have hv := Lib.hid (show jchk l = 1 by rw [jchk, if_pos (by omega)])
    clear hr hel
    go_enter Try.func11, Try.ntmps11
    go_wp2
    go_ret
    exact ⟨by rw [hv.out]; rfl, (Below.refl _ _).alloc (Nat.le_refl _) _⟩
  · have hv0 : jchk l = if l.any longJ then 1 else jfst l.length l := by rw [jchk, if_neg (by omega)]
    have HC := Lib.hid (contains_long A len cap l _ (hr.alloc (.cells #[.slice A len cap] 22)) hl)
    have hrH := Lib.hid hr; have helH := Lib.hid hel
    have hlen : len ≤ 10 := by omega
    clear hr hel
    cases hb : l.any longJ
    · rw [hb] at hv0 HC
      have hv := Lib.hid (show jchk l = jfst l.length l by rw [hv0]; rfl)
      clear hv0 hb h10
      go_enter Try.func11, Try.ntmps11
      go_wp2_with fail
      refine HC.out.mono ?_
      rintro e w' ⟨rfl, hbw⟩
      have hb0 := ((Below.refl w.heap.size w).alloc (Nat.le_refl _) (.cells #[.slice A len cap] 22)).trans (hbw.mono (by simp))
      have hbx := cell_of_alloc hbw
      have hs0 := hbw.size
      simp at hs0
      clear HC
      go_wp2
      go_loopw [14] (fun i wr => ∃ k : Nat, k ≤ len ∧ i = .int .i64 k ∧ jfst l.length l = jfst l.length (l.drop k) ∧ Below w.heap.size w wr ∧ wr.cell? ⟨w.heap.size, 0, none⟩ = some (.slice A len cap) ∧ w.heap.size < wr.heap.size) (fun i _ => len - (intOf i).toNat)
      case atStart => exact ⟨0, Nat.zero_le _, rfl, rfl, hb0, hbx, by omega⟩
      case round =>
        obtain ⟨k, hk, rfl, hj, hbr, hcx, hsx⟩ := hrel
        have hjH := Lib.hid hj
        clear hj
        by_cases hlt : k < len
        · obtain ⟨b, o, rfl, hab, hc0, hc1, hc2, hc3, hfit⟩ := (hrH.out.later hbr).at hlt
          have hstep := Lib.hid (jfst_step (n := l.length) (l := l) (k := k) (by rw [helH.out]; exact hlt) hjH.out)
          have hstop := Lib.hid (@jfst_stop l.length l k (by rw [helH.out]; exact hlt) hjH.out)
          have hbad := Lib.hid (show jbad l.length (jat l k) = if (jat l k).time < 0 ∨ 1048576 < (jat l k).time then 4 else if (jat l k).after.any (outK len) then 2 else 0 by rw [jbad, helH.out])
          generalize jat l k = a at *
          obtain ⟨t, A', l', c', du, wo, af⟩ := a
          have hfH := Lib.hid hfit.1
          have hl' := hfit.2.1
          unfold maxLen at hl'
          clear hfit
          simp only at hl'
          by_cases ht : t < 0 ∨ 1048576 < t
          · have hres := Lib.hid (show jchk l = 4 by rw [hv.out]; exact hstop.out 4 (by rw [hbad.out, if_pos ht]) (by omega))
            rcases ht with ht | ht
            all_goals
              go_wp2
              go_ret
              exact ⟨by rw [hres.out]; rfl, hbr.alloc (Nat.le_of_lt hsx) _⟩
          · have HO := Lib.hid (contains_out A' l' c' af ⟨w.heap.size, 0, none⟩ (some ⟨b, o, none⟩) len cap _ (hfH.out.alloc (.cells #[.int .i64 t, .slice A' l' c', .int .i64 du, .int .i64 wo] 32)) (by omega) (by simp; omega) ((cell_alloc_lt _ hsx).trans hcx))
            have hb4 := hbr.alloc (Nat.le_of_lt hsx) (.cells #[.int .i64 t, .slice A' l' c', .int .i64 du, .int .i64 wo] 32)
            have ht0 : 0 ≤ t := by omega
            have ht1 : t ≤ 1048576 := by omega
            have hbad2 := Lib.hid (show jbad l.length ⟨t, A', l', c', du, wo, af⟩ = if af.any (outK len) then 2 else 0 by rw [hbad.out]; exact if_neg ht)
            clear hbad ht
            go_wp2_with fail
            refine HO.out.mono ?_
            rintro e w2 ⟨rfl, hb2⟩
            have hbe := hb4.trans (hb2.mono (by simp; omega))
            have hce := (hb2.cell (p := ⟨w.heap.size, 0, none⟩) (by simp; omega)).trans ((cell_alloc_lt _ hsx).trans hcx)
            have hse := hb2.size
            simp at hse
            cases hq : af.any (outK len)
            · have hz := Lib.hid (hstep.out (by rw [hbad2.out, hq]; rfl))
              go_wp2
              go_roundw
              case rel => exact ⟨k + 1, by omega, by go_num, hz.out, hbe, hce, by omega⟩
              case measure => simp [intOf]; omega
            · have hres := Lib.hid (show jchk l = 2 by rw [hv.out]; exact hstop.out 2 (by rw [hbad2.out, hq]; rfl) (by omega))
              go_wp2
              go_ret
              exact ⟨by rw [hres.out]; rfl, hbe⟩
        · have hz := Lib.hid (show jchk l = 0 by rw [hv.out, hjH.out, List.drop_of_length_le (by rw [helH.out]; omega)]; rfl)
          go_wp2
          go_ret
          exact ⟨by rw [hz.out]; rfl, hbr⟩
    · rw [hb] at hv0 HC
      have hv := Lib.hid (show jchk l = 1 by rw [hv0]; rfl)
      clear hv0 hb h10
      go_enter Try.func11, Try.ntmps11
      go_wp2_with fail
      refine HC.out.mono ?_
      rintro e w' ⟨rfl, hbw⟩
      go_wp2
      go_ret
      exact ⟨by rw [hv.out]; rfl, ((Below.refl _ _).alloc (Nat.le_refl _) _).trans (hbw.mono (by simp))⟩
end Go.Proofs.Ytgmoehkddohhfaa
