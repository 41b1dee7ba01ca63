/- Jobs one after the other: what an order costs. -/
import Derived.Test.YtednlnlppedkiaaWeighA
namespace Go.Proofs.Ytednlnlppedkiaa
open Go.RowKit

def wstep (l : List Jb) (p : Int × Int) (i : Int) : Int × Int := (p.1 + (jat l i.toNat).time, p.2 + (jat l i.toNat).worth * (p.1 + (jat l i.toNat).time))
def wfold (l : List Jb) (o : List Int) : Int × Int := o.foldl (wstep l) (0, 0)
def lstep (l : List Jb) (p : Int × Int) (i : Int) : Int × Int := (p.1 + (jat l i.toNat).time, if p.2 < p.1 + (jat l i.toNat).time - (jat l i.toNat).due then p.1 + (jat l i.toNat).time - (jat l i.toNat).due else p.2)
def lfold (l : List Jb) (o : List Int) : Int × Int := o.foldl (lstep l) (0, -1048576)
theorem wfold_succ (l : List Jb) (o : List Int) {k : Nat} (hk : k < o.length) : wfold l (o.take (k + 1)) = wstep l (wfold l (o.take k)) (o.getD k 0) := by
  rw [take_succ_getD' o 0 k hk, wfold, List.foldl_append]; rfl
theorem lfold_succ (l : List Jb) (o : List Int) {k : Nat} (hk : k < o.length) : lfold l (o.take (k + 1)) = lstep l (lfold l (o.take k)) (o.getD k 0) := by
  rw [take_succ_getD' o 0 k hk, lfold, List.foldl_append]; rfl
def BdT (l : List Jb) : Prop := ∀ i, 0 ≤ (jat l i).time ∧ (jat l i).time ≤ 1048576
def BdF (what : Nat) (l : List Jb) : Prop := ∀ i, 0 ≤ fld what (jat l i) ∧ fld what (jat l i) ≤ 1048576
theorem mul_bd {x y N : Int} (h1 : 0 ≤ x) (h2 : x ≤ 1048576) (h3 : 0 ≤ y) (h4 : y ≤ N) : 0 ≤ x * y ∧ x * y ≤ 1048576 * N :=
  ⟨Int.mul_nonneg h1 h3, Int.le_trans (Int.mul_le_mul_of_nonneg_right h2 h3) (Int.mul_le_mul_of_nonneg_left h4 (by omega))⟩
theorem wfold_bd {l : List Jb} (h1 : BdT l) (h2 : BdF 0 l) (o : List Int) (h7 : o.length ≤ 7) : ∀ k, 0 ≤ (wfold l (o.take k)).1 ∧ (wfold l (o.take k)).1 ≤ 1048576 * k ∧ 0 ≤ (wfold l (o.take k)).2 ∧ (wfold l (o.take k)).2 ≤ 7696581394432 * k
  | 0 => by simp [wfold]
  | k + 1 => by
    obtain ⟨a1, a2, a3, a4⟩ := wfold_bd h1 h2 o h7 k
    by_cases hk : k < o.length
    · rw [wfold_succ l o hk]
      have b1 := h1 (o.getD k 0).toNat
      have b2 := h2 (o.getD k 0).toNat
      simp only [fld, reduceIte, show ¬ (0 = 1) by omega] at b2
      generalize wfold l (o.take k) = p at *
      simp only [wstep]
      generalize jat l (o.getD k 0).toNat = j at *
      have hm := mul_bd b2.1 b2.2 (show 0 ≤ p.1 + j.time by omega) (show p.1 + j.time ≤ 7340032 by omega)
      generalize j.worth * (p.1 + j.time) = m at *
      omega
    · rw [List.take_of_length_le (by omega)] at *
      omega
theorem lfold_bd {l : List Jb} (h1 : BdT l) (h2 : BdF 1 l) (o : List Int) : ∀ k, 0 ≤ (lfold l (o.take k)).1 ∧ (lfold l (o.take k)).1 ≤ 1048576 * k ∧ -1048576 ≤ (lfold l (o.take k)).2 ∧ (lfold l (o.take k)).2 ≤ 1048576 * k
  | 0 => by simp [lfold]
  | k + 1 => by
    obtain ⟨a1, a2, a3, a4⟩ := lfold_bd h1 h2 o k
    by_cases hk : k < o.length
    · rw [lfold_succ l o hk]
      have b1 := h1 (o.getD k 0).toNat
      have b2 := h2 (o.getD k 0).toNat
      simp only [fld, reduceIte] at b2
      generalize lfold l (o.take k) = p at *
      simp only [lstep]
      generalize jat l (o.getD k 0).toNat = j at *
      split <;> omega
    · rw [List.take_of_length_le (by omega)] at *
      omega
/-- what the reference holds -/
def lw (l : List Jb) (o : List Int) (k : Nat) : Int := if k = 0 then 0 else (lfold l (o.take k)).2
set_option maxHeartbeats 800000 in
theorem weighs0_any (A A3 : Option Addr) (len cap len3 cap3 : Nat) (l : List Jb) (o : List Int) (w : World) (hr : RdJ w A len l) (hr3 : Rd w A3 len3 1 (ints .i64 o))
    (_hl : len ≤ 7) (hl3 : len3 ≤ 7) (h1 : BdT l) (h2 : BdF 0 l) (hin : ∀ k, k < len3 → 0 ≤ o.getD k 0 ∧ o.getD k 0 < len) :
    Calls Try.prog 14 #[.slice A len cap, .int .i64 0, .slice A3 len3 cap3] w fun e w' => e = .returned (.int .i64 ((wfold l o).2)) ∧ w = w' := by
  have hel3 : o.length = len3 := by simpa [ints] using hr3.1
  have hrH := Lib.hid hr; have hr3H := Lib.hid hr3; have h1H := Lib.hid h1; have h2H := Lib.hid h2; have hinH := Lib.hid hin; have hel3H := Lib.hid hel3
  clear hr hr3 h1 h2 hin hel3
  go_enter Try.func14, Try.ntmps14
  go_wp2
  go_loop [7, 8, 9, 10, 13] (fun a b _ _ i => ∃ k : Nat, k ≤ len3 ∧ i = .int .i64 k ∧ a = .int .i64 (wfold l (o.take k)).1 ∧ b = .int .i64 (wfold l (o.take k)).2) (fun _ _ _ _ i => len3 - (intOf i).toNat)
  case atStart => exact ⟨0, Nat.zero_le _, rfl, rfl, rfl⟩
  case round =>
    obtain ⟨k, hk, rfl, rfl, rfl⟩ := hrel
    by_cases hlt : k < len3
    · obtain ⟨b3, o3, rfl, hab3, hc3⟩ := hr3H.out.int hlt
      obtain ⟨m, hm⟩ := Int.eq_ofNat_of_zero_le (hinH.out k hlt).1
      have hml : m < len := by have := (hinH.out k hlt).2; omega
      rw [hm] at hc3
      obtain ⟨b, oo, rfl, hab, hc0, hc1, hc2, hd3, _⟩ := hrH.out.at hml
      have hmi : (m : Int) < len := by omega
      have hsc := Lib.hid (wfold_succ l o (k := k) (by rw [hel3H.out]; exact hlt))
      rw [hm] at hsc
      obtain ⟨q1, q2, q3, q4⟩ := wfold_bd h1H.out h2H.out o (by rw [hel3H.out]; exact hl3) k
      obtain ⟨g1, g2⟩ := h1H.out m
      have g3 := h2H.out m
      simp only [fld, reduceIte, show ¬ (0 = 1) by omega] at g3
      obtain ⟨g3, g4⟩ := g3
      clear hm
      generalize wfold l (o.take k) = p at *
      obtain ⟨pa, pb⟩ := p
      dsimp only at q1 q2 q3 q4 ⊢
      have hsc2 := Lib.hid (show wfold l (o.take (k + 1)) = (pa + (jat l m).time, pb + (jat l m).worth * (pa + (jat l m).time)) from hsc.out)
      clear hsc
      generalize jat l m = j at *
      obtain ⟨t, A', l', c', du, wo, af⟩ := j
      dsimp only at *
      have hm2 := mul_bd g3 g4 (show 0 ≤ pa + t by omega) (show pa + t ≤ 7340032 by omega)
      obtain ⟨x, hx⟩ : ∃ x, wo * (pa + t) = x := ⟨_, rfl⟩
      rw [hx] at hsc2 hm2
      obtain ⟨hm3, hm4⟩ := hm2
      go_wp2
      go_round
      case rel => exact ⟨k + 1, by omega, by go_num, by rw [hsc2.out], by rw [hsc2.out]⟩
      case measure => simp [intOf]; omega
    · have hv := Lib.hid (show (wfold l (o.take k)).2 = (wfold l o).2 by rw [List.take_of_length_le (by rw [hel3H.out]; omega)])
      go_wp2
      go_ret
      exact ⟨by rw [← hv.out]; rfl, rfl⟩
set_option maxHeartbeats 800000 in
theorem worth2_any (A A3 : Option Addr) (len cap len3 cap3 p1 : Nat) (l : List Jb) (o : List Int) (w : World) (hc1 : w.cell? ⟨p1, 0, none⟩ = some (.slice A len cap)) (hr : RdJ w A len l) (hr3 : Rd w A3 len3 1 (ints .i64 o))
    (_hl : len ≤ 7) (hl3 : len3 ≤ 7) (h1 : BdT l) (h2 : BdF 0 l) (hin : ∀ k, k < len3 → 0 ≤ o.getD k 0 ∧ o.getD k 0 < len) :
    Calls Try.prog 23 #[.slice A3 len3 cap3, .pointer (some ⟨p1, 0, none⟩)] w fun e w' => e = .returned (.int .i64 ((wfold l o).2)) ∧ w = w' := by
  have hel3 : o.length = len3 := by simpa [ints] using hr3.1
  have hrH := Lib.hid hr; have hr3H := Lib.hid hr3; have h1H := Lib.hid h1; have h2H := Lib.hid h2; have hinH := Lib.hid hin; have hel3H := Lib.hid hel3
  clear hr hr3 h1 h2 hin hel3
  go_enter Try.func23, Try.ntmps23
  go_wp2
  go_loop [4, 5, 7, 10] (fun a b _ i => ∃ k : Nat, k ≤ len3 ∧ i = .int .i64 k ∧ a = .int .i64 (wfold l (o.take k)).1 ∧ b = .int .i64 (wfold l (o.take k)).2) (fun _ _ _ i => len3 - (intOf i).toNat)
  case atStart => exact ⟨0, Nat.zero_le _, rfl, rfl, rfl⟩
  case round =>
    obtain ⟨k, hk, rfl, rfl, rfl⟩ := hrel
    by_cases hlt : k < len3
    · obtain ⟨b3, o3, rfl, hab3, hc3⟩ := hr3H.out.int hlt
      obtain ⟨m, hm⟩ := Int.eq_ofNat_of_zero_le (hinH.out k hlt).1
      have hml : m < len := by have := (hinH.out k hlt).2; omega
      rw [hm] at hc3
      obtain ⟨b, oo, rfl, hab, hc0, hc1, hc2, hd3, _⟩ := hrH.out.at hml
      have hmi : (m : Int) < len := by omega
      have hsc := Lib.hid (wfold_succ l o (k := k) (by rw [hel3H.out]; exact hlt))
      rw [hm] at hsc
      obtain ⟨q1, q2, q3, q4⟩ := wfold_bd h1H.out h2H.out o (by rw [hel3H.out]; exact hl3) k
      obtain ⟨g1, g2⟩ := h1H.out m
      have g3 := h2H.out m
      simp only [fld, reduceIte, show ¬ (0 = 1) by omega] at g3
      obtain ⟨g3, g4⟩ := g3
      clear hm
      generalize wfold l (o.take k) = p at *
      obtain ⟨pa, pb⟩ := p
      dsimp only at q1 q2 q3 q4 ⊢
      have hsc2 := Lib.hid (show wfold l (o.take (k + 1)) = (pa + (jat l m).time, pb + (jat l m).worth * (pa + (jat l m).time)) from hsc.out)
      clear hsc
      generalize jat l m = j at *
      obtain ⟨t, A', l', c', du, wo, af⟩ := j
      dsimp only at *
      have hm2 := mul_bd g3 g4 (show 0 ≤ pa + t by omega) (show pa + t ≤ 7340032 by omega)
      obtain ⟨x, hx⟩ : ∃ x, wo * (pa + t) = x := ⟨_, rfl⟩
      rw [hx] at hsc2 hm2
      obtain ⟨hm3, hm4⟩ := hm2
      go_wp2
      go_round
      case rel => exact ⟨k + 1, by omega, by go_num, by rw [hsc2.out], by rw [hsc2.out]⟩
      case measure => simp [intOf]; omega
    · have hv := Lib.hid (show (wfold l (o.take k)).2 = (wfold l o).2 by rw [List.take_of_length_le (by rw [hel3H.out]; omega)])
      go_wp2
      go_ret
      exact ⟨by rw [← hv.out]; rfl, rfl⟩
set_option maxHeartbeats 800000 in
theorem late1_any (A A3 : Option Addr) (len cap len3 cap3 p1 : Nat) (l : List Jb) (o : List Int) (w : World) (hc1 : w.cell? ⟨p1, 0, none⟩ = some (.slice A len cap)) (hr : RdJ w A len l) (hr3 : Rd w A3 len3 1 (ints .i64 o))
    (_hl : len ≤ 7) (hl3 : len3 ≤ 7) (h1 : BdT l) (h2 : BdF 1 l) (hin : ∀ k, k < len3 → 0 ≤ o.getD k 0 ∧ o.getD k 0 < len) :
    Calls Try.prog 26 #[.slice A3 len3 cap3, .pointer (some ⟨p1, 0, none⟩)] w fun e w' => e = .returned (.int .i64 ((lfold l o).2)) ∧ w = w' := by
  have hel3 : o.length = len3 := by simpa [ints] using hr3.1
  have hrH := Lib.hid hr; have hr3H := Lib.hid hr3; have h1H := Lib.hid h1; have h2H := Lib.hid h2; have hinH := Lib.hid hin; have hel3H := Lib.hid hel3
  clear hr hr3 h1 h2 hin hel3
  go_enter Try.func26, Try.ntmps26
  go_wp2
  go_loop [4, 5, 7, 10] (fun a b _ i => ∃ k : Nat, k ≤ len3 ∧ i = .int .i64 k ∧ a = .int .i64 (lfold l (o.take k)).1 ∧ b = .int .i64 (lfold l (o.take k)).2) (fun _ _ _ i => len3 - (intOf i).toNat)
  case atStart => exact ⟨0, Nat.zero_le _, rfl, rfl, rfl⟩
  case round =>
    obtain ⟨k, hk, rfl, rfl, rfl⟩ := hrel
    by_cases hlt : k < len3
    · obtain ⟨b3, o3, rfl, hab3, hc3⟩ := hr3H.out.int hlt
      obtain ⟨m, hm⟩ := Int.eq_ofNat_of_zero_le (hinH.out k hlt).1
      have hml : m < len := by have := (hinH.out k hlt).2; omega
      rw [hm] at hc3
      obtain ⟨b, oo, rfl, hab, hc0, hc1, hc2, hd3, _⟩ := hrH.out.at hml
      have hmi : (m : Int) < len := by omega
      have hsc := Lib.hid (lfold_succ l o (k := k) (by rw [hel3H.out]; exact hlt))
      rw [hm] at hsc
      obtain ⟨q1, q2, q3, q4⟩ := lfold_bd h1H.out h2H.out o k
      obtain ⟨g1, g2⟩ := h1H.out m
      have g3 := h2H.out m
      simp only [fld, reduceIte] at g3
      obtain ⟨g3, g4⟩ := g3
      clear hm
      obtain ⟨⟨pa, pb⟩, hlf0⟩ : ∃ p, lfold l (o.take k) = p := ⟨_, rfl⟩
      rw [hlf0] at hsc q1 q2 q3 q4
      simp only [hlf0]
      have hlf := Lib.hid (congrArg Prod.snd hlf0)
      clear hlf0
      dsimp only at q1 q2 q3 q4 hlf
      have hsc2 := Lib.hid (show lfold l (o.take (k + 1)) = (pa + (jat l m).time, if pb < pa + (jat l m).time - (jat l m).due then pa + (jat l m).time - (jat l m).due else pb) from hsc.out)
      clear hsc
      generalize jat l m = j at *
      obtain ⟨t, A', l', c', du, wo, af⟩ := j
      dsimp only at *
      by_cases hgt : pb < pa + t - du
      · go_wp2
        go_round
        case rel => exact ⟨k + 1, by omega, by go_num, by rw [hsc2.out], by rw [hsc2.out, if_pos hgt]⟩
        case measure => simp [intOf]; omega
      · go_wp2
        go_round
        case rel => exact ⟨k + 1, by omega, by go_num, by rw [hsc2.out], by rw [hsc2.out, if_neg hgt]⟩
        case measure => simp [intOf]; omega
    · have hv := Lib.hid (show (lfold l (o.take k)).2 = (lfold l o).2 by rw [List.take_of_length_le (by rw [hel3H.out]; omega)])
      go_wp2
      go_ret
      exact ⟨by rw [← hv.out]; rfl, rfl⟩
set_option maxHeartbeats 800000 in
theorem weighs1_any (A A3 : Option Addr) (len cap len3 cap3 : Nat) (l : List Jb) (o : List Int) (w : World) (hr : RdJ w A len l) (hr3 : Rd w A3 len3 1 (ints .i64 o))
    (_hl : len ≤ 7) (hl3 : len3 ≤ 7) (h1 : BdT l) (h2 : BdF 1 l) (hin : ∀ k, k < len3 → 0 ≤ o.getD k 0 ∧ o.getD k 0 < len) :
    Calls Try.prog 14 #[.slice A len cap, .int .i64 1, .slice A3 len3 cap3] w fun e w' => e = .returned (.int .i64 (lw l o o.length)) ∧ w = w' := by
  have hel3 : o.length = len3 := by simpa [ints] using hr3.1
  have hrH := Lib.hid hr; have hr3H := Lib.hid hr3; have h1H := Lib.hid h1; have h2H := Lib.hid h2; have hinH := Lib.hid hin; have hel3H := Lib.hid hel3
  clear hr hr3 h1 h2 hin hel3
  go_enter Try.func14, Try.ntmps14
  go_wp2
  go_loop [7, 8, 9, 10, 13] (fun a b _ _ i => ∃ k : Nat, k ≤ len3 ∧ i = .int .i64 k ∧ a = .int .i64 (lfold l (o.take k)).1 ∧ b = .int .i64 (lw l o k)) (fun _ _ _ _ i => len3 - (intOf i).toNat)
  case atStart => exact ⟨0, Nat.zero_le _, rfl, rfl, rfl⟩
  case round =>
    obtain ⟨k, hk, rfl, rfl, rfl⟩ := hrel
    by_cases hlt : k < len3
    · obtain ⟨b3, o3, rfl, hab3, hc3⟩ := hr3H.out.int hlt
      obtain ⟨m, hm⟩ := Int.eq_ofNat_of_zero_le (hinH.out k hlt).1
      have hml : m < len := by have := (hinH.out k hlt).2; omega
      rw [hm] at hc3
      obtain ⟨b, oo, rfl, hab, hc0, hc1, hc2, hd3, _⟩ := hrH.out.at hml
      have hmi : (m : Int) < len := by omega
      have hsc := Lib.hid (lfold_succ l o (k := k) (by rw [hel3H.out]; exact hlt))
      rw [hm] at hsc
      obtain ⟨q1, q2, q3, q4⟩ := lfold_bd h1H.out h2H.out o k
      obtain ⟨g1, g2⟩ := h1H.out m
      have g3 := h2H.out m
      simp only [fld, reduceIte] at g3
      obtain ⟨g3, g4⟩ := g3
      clear hm
      obtain ⟨pz, hpz⟩ : ∃ pz, lw l o k = pz := ⟨_, rfl⟩
      rw [hpz]
      have hpzH := Lib.hid hpz; clear hpz
      have hz00 := Lib.hid (show k = 0 → lfold l (o.take k) = (0, -1048576) from fun e => by subst e; rfl)
      obtain ⟨⟨pa, pb⟩, hlf0⟩ : ∃ p, lfold l (o.take k) = p := ⟨_, rfl⟩
      rw [hlf0] at hsc q1 q2 q3 q4
      simp only [hlf0]
      have hlf := Lib.hid (congrArg Prod.snd hlf0)
      have hlf1 := hlf0
      clear hlf0
      dsimp only at q1 q2 q3 q4 hlf
      have hsc2 := Lib.hid (show lfold l (o.take (k + 1)) = (pa + (jat l m).time, if pb < pa + (jat l m).time - (jat l m).due then pa + (jat l m).time - (jat l m).due else pb) from hsc.out)
      clear hsc
      generalize jat l m = j at *
      obtain ⟨t, A', l', c', du, wo, af⟩ := j
      dsimp only at *
      have hz0 := Lib.hid (show k = 0 → (pa, pb) = (0, -1048576) from fun e => hlf1.symm.trans (hz00.out e))
      clear hz00 hlf1
      by_cases hk0 : k = 0
      · have hz := hz0.out hk0
        obtain ⟨rfl, rfl⟩ := Prod.mk.inj hz
        have hk1 : ((k : Int) == 0) = true := by simp; omega
        have hsc3 := Lib.hid (show lfold l (o.take (k + 1)) = (0 + t, 0 + t - du) by rw [hsc2.out]; split <;> first | rfl | (congr 1; omega))
        clear hz hz0 hsc2 hk0
        go_wp2
        go_round
        case rel => exact ⟨k + 1, by omega, by go_num, by rw [hsc3.out]; simp, by rw [lw, if_neg (by omega), hsc3.out]; simp⟩
        case measure => simp [intOf]; omega
      · have hk1 : ((k : Int) == 0) = false := by simp; omega
        have hpz2 : pz = pb := by rw [← hpzH.out, lw, if_neg hk0, hlf.out]
        subst hpz2
        clear hz0 hk0 hpzH hlf
        by_cases hgt : pz < pa + t - du
        · go_wp2
          go_round
          case rel => exact ⟨k + 1, by omega, by go_num, by rw [hsc2.out], by rw [lw, if_neg (by omega), hsc2.out, if_pos hgt]⟩
          case measure => simp [intOf]; omega
        · go_wp2
          go_round
          case rel => exact ⟨k + 1, by omega, by go_num, by rw [hsc2.out], by rw [lw, if_neg (by omega), hsc2.out, if_neg hgt]⟩
          case measure => simp [intOf]; omega
    · have hv := Lib.hid (show lw l o k = lw l o o.length by rw [hel3H.out, show k = len3 by omega])
      go_wp2
      go_ret
      exact ⟨by rw [← hv.out]; rfl, rfl⟩
end Go.Proofs.Ytednlnlppedkiaa
