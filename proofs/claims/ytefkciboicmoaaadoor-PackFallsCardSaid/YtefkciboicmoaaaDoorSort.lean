/- slices.SortStableFunc at ints, of twenty at most: the insertion sort. -/
import Derived.Test.YtefkciboicmoaaaDoorNatI
import Derived.Test.YtefkciboicmoaaaDoorRow
import Derived.Test.YtefkciboicmoaaaDoorRows
import Derived.BigQuiet
namespace Go.Proofs.YtefkciboicmoaaaDoor
open Go.RowKit

/-- the first i by a key, the greatest first; but the one at j may stand too far back -/
def SrJ (K : Nat → Int) (y : List Nat) (i j : Nat) : Prop := ∀ p q, p < q → q ≤ i → q ≠ j → K (y.getD q 0) ≤ K (y.getD p 0)
def SrI (K : Nat → Int) (y : List Nat) (i : Nat) : Prop := ∀ p q, p < q → q < i → K (y.getD q 0) ≤ K (y.getD p 0)
def swpL (y : List Nat) (j : Nat) : List Nat := (y.set j (y.getD (j - 1) 0)).set (j - 1) (y.getD j 0)
section
variable {K : Nat → Int} {y : List Nat} {i j : Nat}
theorem swpL_len : (swpL y j).length = y.length := by simp [swpL]
theorem swpL_get (hj : j < y.length) (h1 : 1 ≤ j) (k : Nat) : (swpL y j).getD k 0 = if k = j - 1 then y.getD j 0 else if k = j then y.getD (j - 1) 0 else y.getD k 0 := by
  unfold swpL
  rw [List.getD, List.getElem?_set, List.getElem?_set, List.length_set]
  by_cases h2 : k = j - 1
  · subst h2
    rw [if_pos rfl, if_pos rfl, if_pos (by omega)]; rfl
  · rw [if_neg (fun h => h2 h.symm), if_neg h2]
    by_cases h3 : k = j
    · subst h3
      rw [if_pos rfl, if_pos rfl, if_pos hj]; rfl
    · rw [if_neg (fun h => h3 h.symm), if_neg h3]; rfl
theorem swpL_perm (hj : j < y.length) : (swpL y j).Perm y := by
  have := @List.set_set_perm Nat y j (j - 1) hj (by omega)
  unfold swpL
  rwa [List.getD, List.getD, List.getElem?_eq_getElem hj, List.getElem?_eq_getElem (by omega)]
theorem SrJ.start (h : SrI K y i) : SrJ K y i i := fun p q h1 h2 h3 => h p q h1 (by omega)
theorem SrJ.done (h : SrJ K y i j) (hno : 0 < j → K (y.getD j 0) ≤ K (y.getD (j - 1) 0)) : SrI K y (i + 1) := fun p q h1 h2 => by
  by_cases hq : q = j
  · subst hq
    have := hno (by omega)
    by_cases hp : p = q - 1
    · subst hp; exact this
    · have := h p (q - 1) (by omega) (by omega) (by omega); omega
  · exact h p q h1 (by omega) hq
theorem SrJ.swap (h : SrJ K y i j) (hj : j < y.length) (h1 : 1 ≤ j) (hlt : K (y.getD (j - 1) 0) < K (y.getD j 0)) : SrJ K (swpL y j) i (j - 1) := fun p q hpq hq hne => by
  rw [swpL_get hj h1, swpL_get hj h1, if_neg hne]
  by_cases hqj : q = j
  · rw [if_pos hqj]
    by_cases hp : p = j - 1
    · rw [if_pos hp]; omega
    · rw [if_neg hp, if_neg (by omega)]; exact h p (j - 1) (by omega) (by omega) (by omega)
  · rw [if_neg hqj]
    by_cases hp : p = j - 1
    · rw [if_pos hp]; exact h j q (by omega) hq hqj
    · rw [if_neg hp]
      by_cases hpj : p = j
      · rw [if_pos hpj]; exact h (j - 1) q (by omega) hq hqj
      · rw [if_neg hpj]; exact h p q hpq hq hqj
theorem SrI.one : SrI K y 1 := fun p q h1 h2 => absurd h1 (by omega)
theorem natI_set (y : List Nat) (j v : Nat) : (natI y).set j (v : Int) = natI (y.set j v) := by simp [natI, List.map_set]
theorem ints_set (l : List Int) (j : Nat) (v : Int) : (ints .i64 l).set j (.int .i64 v) = ints .i64 (l.set j v) := by simp [ints, List.map_set]
end
theorem own_at {w : World} {b e n c : Nat} {A : Option Addr} {y : List Nat} (h : w.ownsRow b e 1 (.slice A n c) n (ints .i64 (natI y))) {j : Nat} (hj : j < n) : ∃ g, A = some ⟨g, 0, none⟩ ∧ b ≤ g ∧ g < w.heap.size ∧ w.cell? ⟨g, j, none⟩ = some (.int .i64 (y.getD j 0 : Nat)) := by
  have hl : y.length = n := by simpa [ints, natI] using h.1
  rcases h.2 with ⟨h1, h2⟩ | ⟨g, cap, cur, h1, h2, h3, h4⟩
  · omega
  · injection h1 with h1 _ _
    subst h1
    have hr := Rd.of_own h
    obtain ⟨b', o', hA, hlt, hc⟩ := hr.int hj
    injection hA with hA; injection hA with hA hA2 _
    subst hA; subst hA2
    rw [natI_at (by omega), Nat.zero_add] at hc
    exact ⟨g, rfl, h2, hlt, hc⟩
/-- what is asked of the comparing function -/
structure CmpOk (P : Program) (f : FuncId) (env : Array Value) (C : Nat → Nat → Int) (K : Nat → Int) (N B : Nat) (w : World) : Prop where
  run : ∀ (x y : Nat) (W : World), x < N → y < N → Below B w W → Calls P f (#[.int .i64 (x : Int), .int .i64 (y : Int)] ++ env) W fun e W' => e = .returned (.int .i64 (C x y)) ∧ ∃ m, W' = W.drewN m
  lt : ∀ x y, C x y < 0 ↔ K y < K x
set_option maxHeartbeats 1600000 in
theorem insertion_any (f : FuncId) (env : Array Value) (C : Nat → Nat → Int) (K : Nat → Int) (A : Option Addr) (n c B : Nat) (y : List Nat) (w : World) (hown : w.ownsRow B 3 1 (.slice A n c) n (ints .i64 (natI y))) (hp : y.Perm (List.range n)) (hn : n ≤ 20)
    (hent : ∀ args w, (callFunc f args).run Tryd.prog w = .ok (.enter f args) w) (hcmp : CmpOk Tryd.prog f env C K n B w) :
    Calls Tryd.prog 30 #[.slice A n c, .int .i64 0, .int .i64 (n : Int), .func (.func f) #[] env] w fun e w' => e = .returned (.tuple #[]) ∧ ∃ y', y'.Perm (List.range n) ∧ SrI K y' n ∧ w'.ownsRow B 3 1 (.slice A n c) n (ints .i64 (natI y')) ∧ Below B w w' := by
  have hcmpH := Lib.hid hcmp
  clear hcmp
  go_enter Tryd.func30, Tryd.ntmps30
  go_wp2
  go_loopw [8, 9] (fun q _ wr => ∃ (i : Nat) (z : List Nat), 1 ≤ i ∧ (i ≤ n ∨ n = 0) ∧ i ≤ n + 1 ∧ q = .int .i64 i ∧ z.Perm (List.range n) ∧ SrI K z i ∧ wr.ownsRow B 3 1 (.slice A n c) n (ints .i64 (natI z)) ∧ Below B w wr) (fun q _ _ => n + 1 - (intOf q).toNat)
  case atStart => exact ⟨1, y, by omega, by omega, by omega, rfl, hp, SrI.one, hown, Below.refl _ _⟩
  case round =>
    clear hown hp
    obtain ⟨i, z, hi1, hin, hin1, rfl, hp, hS, hown, hb⟩ := hrel
    by_cases hlt : i < n
    · have hSH := Lib.hid (SrJ.start hS); have hownH := Lib.hid hown; have hbH := Lib.hid hb; have hpH := Lib.hid hp
      clear hS hown hb hp hin
      go_wp2
      go_loopw [9] (fun q wx => ∃ (j : Nat) (z : List Nat), j ≤ i ∧ q = .int .i64 j ∧ z.Perm (List.range n) ∧ SrJ K z i j ∧ wx.ownsRow B 3 1 (.slice A n c) n (ints .i64 (natI z)) ∧ Below B w wx) (fun q _ => (intOf q).toNat)
      case atStart => exact ⟨i, z, Nat.le_refl _, rfl, hpH.out, hSH.out, hownH.out, hbH.out⟩
      case round =>
        clear hSH hownH hbH hpH
        obtain ⟨j, z, hji, rfl, hp, hJ, hown, hb⟩ := hrel
        have hzl : z.length = n := by simpa using hp.length_eq
        by_cases hj0 : j = 0
        · subst hj0
          have hI := Lib.hid (hJ.done fun h => absurd h (by omega))
          have hownH := Lib.hid hown; have hbH := Lib.hid hb; have hpH := Lib.hid hp
          clear hJ hown hb hp
          go_wp2
          go_quiet (fail)
          go_wp2
          go_roundw
          case rel => exact ⟨i + 1, z, by omega, by omega, by omega, by go_num, hpH.out, hI.out, own_drewN hownH.out _, below_drewN hbH.out _⟩
          case measure => simp [intOf]; omega
        · obtain ⟨g, rfl, hBg, hgl, hcj⟩ := own_at hown (show j < n by omega)
          obtain ⟨_, hA, _, _, hcp⟩ := own_at hown (show j - 1 < n by omega)
          cases hA
          have hxN : z.getD j 0 < n := List.mem_range.1 (hp.mem_iff.1 (by rw [List.getD, List.getElem?_eq_getElem (by omega)]; exact List.getElem_mem _))
          have hyN : z.getD (j - 1) 0 < n := List.mem_range.1 (hp.mem_iff.1 (by rw [List.getD, List.getElem?_eq_getElem (by omega)]; exact List.getElem_mem _))
          have hw1 : IntKind.i64.wrap ((j : Int) - 1) = ((j - 1 : Nat) : Int) := by rw [IntWalk.i64_in _ (by omega)]; omega
          have hC := Lib.hid (hcmpH.out.lt (z.getD j 0) (z.getD (j - 1) 0))
          have HQ := Lib.hid (fun k => hcmpH.out.run (z.getD j 0) (z.getD (j - 1) 0) (wr.drewN k) hxN hyN (below_drewN hb k))
          have hsw := Lib.hid (fun h => hJ.swap (j := j) (by omega) (by omega) h)
          have hdn := Lib.hid (fun h => hJ.done (j := j) h)
          have hownH := Lib.hid hown; have hbH := Lib.hid hb; have hpH := Lib.hid hp; have hzlH := Lib.hid hzl
          have hdj : decide (0 < j) = true := decide_eq_true (by omega)
          clear hJ hown hb hp hzl
          generalize hX : z.getD j 0 = X at *
          generalize hY : z.getD (j - 1) 0 = Y at *
          have hXH := Lib.hid hX; have hYH := Lib.hid hY
          obtain ⟨cc, hcc⟩ : ∃ cc, C X Y = cc := ⟨_, rfl⟩
          rw [hcc] at HQ hC
          have Q1 := Lib.hid (fun k => (HQ.out k).mono fun (e : Ending) w'' ⟨h1, m, h2⟩ => show e = Ending.returned (.int .i64 cc) ∧ ∃ m, w'' = wr.drewN m from ⟨h1, k + m, by rw [h2, World.drewN_drewN]⟩)
          clear hX hY HQ hcc
          by_cases hlt2 : cc < 0
          · have hd : decide (cc < 0) = true := decide_eq_true hlt2
            clear hlt2
            go_wp2
            go_quiet ((with_reducible exact (Q1.out _)))
            have hown1 := own_drewN hownH.out nq
            have hb1 := below_drewN hbH.out nq
            have hcj1 : (wr.drewN nq).cell? ⟨g, j, none⟩ = some (.int .i64 (X : Int)) := hcj
            have hcp1 : (wr.drewN nq).cell? ⟨g, j - 1, none⟩ = some (.int .i64 (Y : Int)) := hcp
            have hgl1 : g < (wr.drewN nq).heap.size := hgl
            generalize wr.drewN nq = W1 at *
            have hf1 := hown1.frozenAt j
            have hf2 := hown1.frozenAt (j - 1)
            have hst := (hown1.stored j (.int .i64 (Y : Int))).1
            have hst2 := (hst.stored (j - 1) (.int .i64 (X : Int))).1
            have hbs := (hb1.setCell (p := ⟨g, j, none⟩) hBg (.int .i64 (Y : Int))).setCell (p := ⟨g, j - 1, none⟩) hBg (.int .i64 (X : Int))
            rw [ints_set, ints_set, natI_set, natI_set] at hst2
            have hpz : (swpL z j).Perm (List.range n) := (swpL_perm (by rw [hzlH.out]; omega)).trans hpH.out
            have hs1 := Lib.hid (hsw.out (hC.out.1 (of_decide_eq_true hd)))
            have hst2H := Lib.hid hst2; have hbsH := Lib.hid hbs; have hpzH := Lib.hid hpz
            clear hst hst2 hbs hpz hown1 hb1 hcj hcp hgl hsw hdn
            go_wp2
            go_region
            go_wp2
            go_roundw
            case rel => exact ⟨j - 1, swpL z j, by omega, by go_num, hpzH.out, hs1.out, by unfold swpL; rw [hXH.out, hYH.out]; exact hst2H.out, below_drewN hbsH.out 1⟩
            case measure => simp [intOf]; omega
          · have hd : decide (cc < 0) = false := decide_eq_false hlt2
            have hI := Lib.hid (hdn.out fun _ => by
              have := hC.out
              refine Int.not_lt.1 fun h => hlt2 (this.2 h))
            clear hlt2 hsw hdn
            go_wp2
            go_quiet ((with_reducible exact (Q1.out _)))
            go_wp2
            go_roundw
            case rel => exact ⟨i + 1, z, by omega, by omega, by omega, by go_num, hpH.out, hI.out, own_drewN hownH.out _, below_drewN hbH.out _⟩
            case measure => simp [intOf]; omega
    · have hS' : SrI K z n := fun p q h1 h2 => hS p q h1 (by omega)
      have hSH := Lib.hid hS'; have hownH := Lib.hid hown; have hbH := Lib.hid hb; have hpH := Lib.hid hp
      clear hS hS' hown hb hp
      go_wp2
      go_end0
      exact ⟨rfl, z, hpH.out, hSH.out, hownH.out, hbH.out⟩
theorem stable_any (f : FuncId) (env : Array Value) (C : Nat → Nat → Int) (K : Nat → Int) (A : Option Addr) (n c B : Nat) (y : List Nat) (w : World) (hown : w.ownsRow B 3 1 (.slice A n c) n (ints .i64 (natI y))) (hp : y.Perm (List.range n)) (hn : n < 20)
    (hent : ∀ args w, (callFunc f args).run Tryd.prog w = .ok (.enter f args) w) (hcmp : CmpOk Tryd.prog f env C K n B w) :
    Calls Tryd.prog 29 #[.slice A n c, .int .i64 (n : Int), .func (.func f) #[] env] w fun e w' => e = .returned (.tuple #[]) ∧ ∃ y', y'.Perm (List.range n) ∧ SrI K y' n ∧ w'.ownsRow B 3 1 (.slice A n c) n (ints .i64 (natI y')) ∧ Below B w w' := by
  have H := Lib.hid (insertion_any f env C K A n c B y w hown hp (by omega) hent hcmp)
  clear hown hp hcmp hent
  go_enter Tryd.func29, Tryd.ntmps29
  have h1 : (n : Int) < 20 := by omega
  go_wp2
  go_loopw [7, 8] (fun q r wr => q = .int .i64 0 ∧ r = .int .i64 20 ∧ wr = w) (fun _ _ _ => 0)
  case atStart => exact ⟨rfl, rfl, rfl⟩
  case round =>
    obtain ⟨rfl, rfl, rfl⟩ := hrel
    go_wp2_with fail
    refine H.out.mono ?_
    rintro _ w1 ⟨rfl, y', hp', hS', hown', hb'⟩
    have hSH := Lib.hid hS'; have hownH := Lib.hid hown'; have hbH := Lib.hid hb'; have hpH := Lib.hid hp'
    clear hS' hown' hb' hp'
    go_wp2
    go_loopw [6, 7, 8, 9] (fun p _ _ _ wx => p = .int .i64 20 ∧ wx = w1) (fun _ _ _ _ _ => 0)
    case atStart => exact ⟨rfl, rfl⟩
    case round =>
      obtain ⟨rfl, rfl⟩ := hrel
      go_wp2
      go_end0
      exact ⟨rfl, y', hpH.out, hSH.out, hownH.out, hbH.out⟩
theorem sort_any (f : FuncId) (env : Array Value) (C : Nat → Nat → Int) (K : Nat → Int) (A : Option Addr) (n c B : Nat) (y : List Nat) (w : World) (hown : w.ownsRow B 3 1 (.slice A n c) n (ints .i64 (natI y))) (hp : y.Perm (List.range n)) (hn : n < 20)
    (hent : ∀ args w, (callFunc f args).run Tryd.prog w = .ok (.enter f args) w) (hcmp : CmpOk Tryd.prog f env C K n B w) :
    Calls Tryd.prog 19 #[.slice A n c, .func (.func f) #[] env] w fun e w' => e = .returned (.tuple #[]) ∧ ∃ y', y'.Perm (List.range n) ∧ SrI K y' n ∧ w'.ownsRow B 3 1 (.slice A n c) n (ints .i64 (natI y')) ∧ Below B w w' := by
  have H := Lib.hid (stable_any f env C K A n c B y w hown hp hn hent hcmp)
  clear hown hp hcmp hent
  go_enter Tryd.func19, Tryd.ntmps19
  go_wp2_with fail
  refine H.out.mono ?_
  rintro _ w1 ⟨rfl, h⟩
  have hH := Lib.hid h
  clear h
  go_wp2
  go_end0
  exact ⟨rfl, hH.out⟩
end Go.Proofs.YtefkciboicmoaaaDoor
