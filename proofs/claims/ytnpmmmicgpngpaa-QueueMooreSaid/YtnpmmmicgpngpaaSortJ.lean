/- slices.SortStableFunc at jobs, of fewer than twenty: the insertion sort, by when they are due. (The plain part is XSort's.) -/
import Derived.Test.YtnpmmmicgpngpaaWeighJ
import Derived.Test.YtnpmmmicgpngpaaNatI
import Derived.Test.YtnpmmmicgpngpaaRow
import Derived.Test.YtnpmmmicgpngpaaBlk
import Derived.Test.YtnpmmmicgpngpaaBel
import Derived.BigQuiet
namespace Go.Proofs.Ytnpmmmicgpngpaa
open Go.RowKit

/-- the first i by a key, the greatest first; but the one at j may stand too far back -/
def SrJ (K : Nat → Int) (y : List Nat) (i j : Nat) : Prop := ∀ p q, p < q → q ≤ i → q ≠ j → K (y.getD q 0) ≤ K (y.getD p 0)
def SrI (K : Nat → Int) (y : List Nat) (i : Nat) : Prop := ∀ p q, p < q → q < i → K (y.getD q 0) ≤ K (y.getD p 0)
def swpL (y : List Nat) (j : Nat) : List Nat := (y.set j (y.getD (j - 1) 0)).set (j - 1) (y.getD j 0)
section
variable {K : Nat → Int} {y : List Nat} {i j : Nat}
theorem swpL_len : (swpL y j).length = y.length := by simp [swpL]
theorem swpL_get (hj : j < y.length) (h1 : 1 ≤ j) (k : Nat) : (swpL y j).getD k 0 = if k = j - 1 then y.getD j 0 else if k = j then y.getD (j - 1) 0 else y.getD k 0 := by
  unfold swpL
  rw [List.getD, List.getElem?_set, List.getElem?_set, List.length_set]
  by_cases h2 : k = j - 1
  · subst h2
    rw [if_pos rfl, if_pos rfl, if_pos (by omega)]; rfl
  · rw [if_neg (fun h => h2 h.symm), if_neg h2]
    by_cases h3 : k = j
    · subst h3
      rw [if_pos rfl, if_pos rfl, if_pos hj]; rfl
    · rw [if_neg (fun h => h3 h.symm), if_neg h3]; rfl
theorem swpL_perm (hj : j < y.length) : (swpL y j).Perm y := by
  have := @List.set_set_perm Nat y j (j - 1) hj (by omega)
  unfold swpL
  rwa [List.getD, List.getD, List.getElem?_eq_getElem hj, List.getElem?_eq_getElem (by omega)]
theorem SrJ.start (h : SrI K y i) : SrJ K y i i := fun p q h1 h2 h3 => h p q h1 (by omega)
theorem SrJ.done (h : SrJ K y i j) (hno : 0 < j → K (y.getD j 0) ≤ K (y.getD (j - 1) 0)) : SrI K y (i + 1) := fun p q h1 h2 => by
  by_cases hq : q = j
  · subst hq
    have := hno (by omega)
    by_cases hp : p = q - 1
    · subst hp; exact this
    · have := h p (q - 1) (by omega) (by omega) (by omega); omega
  · exact h p q h1 (by omega) hq
theorem SrJ.swap (h : SrJ K y i j) (hj : j < y.length) (h1 : 1 ≤ j) (hlt : K (y.getD (j - 1) 0) < K (y.getD j 0)) : SrJ K (swpL y j) i (j - 1) := fun p q hpq hq hne => by
  rw [swpL_get hj h1, swpL_get hj h1, if_neg hne]
  by_cases hqj : q = j
  · rw [if_pos hqj]
    by_cases hp : p = j - 1
    · rw [if_pos hp]; omega
    · rw [if_neg hp, if_neg (by omega)]; exact h p (j - 1) (by omega) (by omega) (by omega)
  · rw [if_neg hqj]
    by_cases hp : p = j - 1
    · rw [if_pos hp]; exact h j q (by omega) hq hqj
    · rw [if_neg hp]
      by_cases hpj : p = j
      · rw [if_pos hpj]; exact h (j - 1) q (by omega) hq hqj
      · rw [if_neg hpj]; exact h p q hpq hq hqj
theorem SrI.one : SrI K y 1 := fun p q h1 h2 => absurd h1 (by omega)
end
/-- the cells of the jobs in an order -/
def JR (l : List Jb) (y : List Nat) : List Value := y.flatMap fun i => jv (jat l i)
theorem JR_len (l : List Jb) (y : List Nat) : (JR l y).length = y.length * 4 := flat_length (s := 4) (fun _ => rfl) y
theorem JR_get {l : List Jb} {y : List Nat} {k : Nat} (hk : k < y.length) {j : Nat} (hj : j < 4) : (JR l y)[k * 4 + j]? = (jv (jat l (y.getD k 0)))[j]? := by
  unfold JR
  rw [flat_get (s := 4) (fun _ => rfl) y k j hj]
  simp [List.getD, hk]
theorem JR_set (l : List Jb) (v : Nat) : ∀ (y : List Nat) (k : Nat), k < y.length → ((((JR l y).set (k * 4) (.int .i64 (jat l v).time)).set (k * 4 + 1) (.slice (jat l v).A (jat l v).len (jat l v).cap)).set (k * 4 + 2) (.int .i64 (jat l v).due)).set (k * 4 + 3) (.int .i64 (jat l v).worth) = JR l (y.set k v)
  | [], k, h => by simp at h
  | a :: y, 0, _ => by simp [JR, jv]
  | a :: y, k + 1, h => by
    have ih := JR_set l v y k (by simpa using h)
    have hs : ∀ (r : List Value) (i : Nat) (u : Value), (jv (jat l a) ++ r).set ((k + 1) * 4 + i) u = jv (jat l a) ++ r.set (k * 4 + i) u := fun r i u => by
      rw [List.set_append_right _ _ (by simp [jv]; omega)]
      congr 2
      simp [jv]; omega
    have hs0 : ∀ (r : List Value) (u : Value), (jv (jat l a) ++ r).set ((k + 1) * 4) u = jv (jat l a) ++ r.set (k * 4) u := fun r u => hs r 0 u
    have e : JR l (a :: y) = jv (jat l a) ++ JR l y := by simp [JR]
    have e2 : JR l ((a :: y).set (k + 1) v) = jv (jat l a) ++ JR l (y.set k v) := by simp [JR]
    rw [e, hs0, hs, hs, hs, ih, e2]
def setJ (w : World) (g k : Nat) (j : Jb) : World := (((w.setCell ⟨g, k * 4, none⟩ (.int .i64 j.time)).setCell ⟨g, k * 4 + 1, none⟩ (.slice j.A j.len j.cap)).setCell ⟨g, k * 4 + 2, none⟩ (.int .i64 j.due)).setCell ⟨g, k * 4 + 3, none⟩ (.int .i64 j.worth)
theorem own_setJ {w : World} {b e n c g : Nat} {l : List Jb} {y : List Nat} (h : w.ownsRow b e 4 (.slice (some ⟨g, 0, none⟩) n c) n (JR l y)) {k : Nat} (hk : k < n) (v : Nat) : (setJ w g k (jat l v)).ownsRow b e 4 (.slice (some ⟨g, 0, none⟩) n c) n (JR l (y.set k v)) := by
  have hl : y.length = n := by have := h.1; rw [JR_len] at this; omega
  have h1 := (((h.stored (k * 4) (.int .i64 (jat l v).time)).1.stored (k * 4 + 1) (.slice (jat l v).A (jat l v).len (jat l v).cap)).1.stored (k * 4 + 2) (.int .i64 (jat l v).due)).1.stored (k * 4 + 3) (.int .i64 (jat l v).worth)
  have h2 := h1.1
  rw [JR_set l v y k (by omega)] at h2
  exact h2
theorem below_setJ {B g k : Nat} {a w : World} {j : Jb} (h : Below B a w) (hg : B ≤ g) : Below B a (setJ w g k j) :=
  (((h.setCell (p := ⟨g, k * 4, none⟩) hg _).setCell (p := ⟨g, k * 4 + 1, none⟩) hg _).setCell (p := ⟨g, k * 4 + 2, none⟩) hg _).setCell (p := ⟨g, k * 4 + 3, none⟩) hg _
theorem own_atJ {w : World} {b e n c : Nat} {A : Option Addr} {l : List Jb} {y : List Nat} (h : w.ownsRow b e 4 (.slice A n c) n (JR l y)) {j : Nat} (hj : j < n) : ∃ g, A = some ⟨g, 0, none⟩ ∧ b ≤ g ∧ g < w.heap.size ∧
    w.cell? ⟨g, j * 4, none⟩ = some (.int .i64 (jat l (y.getD j 0)).time) ∧ w.cell? ⟨g, j * 4 + 1, none⟩ = some (.slice (jat l (y.getD j 0)).A (jat l (y.getD j 0)).len (jat l (y.getD j 0)).cap) ∧ w.cell? ⟨g, j * 4 + 2, none⟩ = some (.int .i64 (jat l (y.getD j 0)).due) ∧ w.cell? ⟨g, j * 4 + 3, none⟩ = some (.int .i64 (jat l (y.getD j 0)).worth) := by
  have hl : y.length = n := by have := h.1; rw [JR_len] at this; omega
  obtain ⟨g, hA, hbg, hlt⟩ : ∃ g, A = some ⟨g, 0, none⟩ ∧ b ≤ g ∧ g < w.heap.size := by
    rcases h.2 with ⟨h1, h2⟩ | ⟨g, cap, cur, h1, h2, h3, h4⟩
    · omega
    · injection h1 with h1 _ _
      exact ⟨g, h1, h2, (Array.getElem?_eq_some_iff.1 h3).1⟩
  subst hA
  have hc : ∀ i, i < 4 → w.cell? ⟨g, j * 4 + i, none⟩ = (jv (jat l (y.getD j 0)))[i]? := fun i hi => by
    rw [h.cellAt _ (by omega), JR_get (by omega) hi]
  exact ⟨g, rfl, hbg, hlt, hc 0 (by omega), hc 1 (by omega), hc 2 (by omega), hc 3 (by omega)⟩
theorem entM1 (args : Array Value) (w : World) : (callFunc 12 args).run Try.prog w = .ok (.enter 12 args) w := by go_simp
theorem many1_any (a b : Jb) (w : World) (ha : 0 ≤ a.due ∧ a.due ≤ 1048576) (hb : 0 ≤ b.due ∧ b.due ≤ 1048576) : Calls Try.prog 12 #[jagg a, jagg b] w fun e w' => e = .returned (.int .i64 (a.due - b.due)) ∧ Below w.heap.size w w' := by
  obtain ⟨t, A', l', c', du, wo, af⟩ := a
  obtain ⟨t2, A2, l2, c2, du2, wo2, af2⟩ := b
  unfold jagg
  dsimp only at *
  have hw := IntWalk.i64_in (du - du2) (by omega)
  have hb1 := (Below.refl _ w).alloc (Nat.le_refl _) (.cells #[.int .i64 t, .slice A' l' c', .int .i64 du, .int .i64 wo] 31)
  have hb2 := hb1.alloc (by simp) (.cells #[.int .i64 t2, .slice A2 l2 c2, .int .i64 du2, .int .i64 wo2] 31)
  have k1 := ((Blk.new w 31 #[.int .i64 t, .slice A' l' c', .int .i64 du, .int .i64 wo]).alloc (.cells #[.int .i64 t2, .slice A2 l2 c2, .int .i64 du2, .int .i64 wo2] 31)).cell (j := 2) (v := .int .i64 du) rfl
  clear ha hb hb1
  go_enter Try.func12, Try.ntmps12
  go_wp2
  go_ret
  exact ⟨rfl, hb2⟩
/-- all jobs fall due in time -/
def DueB (l : List Jb) : Prop := ∀ i, 0 ≤ (jat l i).due ∧ (jat l i).due ≤ 1048576
def KD (l : List Jb) (i : Nat) : Int := - (jat l i).due
set_option maxHeartbeats 1600000 in
theorem insertion_any (l : List Jb) (A : Option Addr) (n c B : Nat) (y : List Nat) (w : World) (hown : w.ownsRow B 31 4 (.slice A n c) n (JR l y)) (hp : y.Perm (List.range n)) (hn : n ≤ 20) (hd : DueB l) :
    Calls Try.prog 26 #[.slice A n c, .int .i64 0, .int .i64 (n : Int), .func (.func 12) #[] #[]] w fun e w' => e = .returned (.tuple #[]) ∧ ∃ y', y'.Perm (List.range n) ∧ SrI (KD l) y' n ∧ w'.ownsRow B 31 4 (.slice A n c) n (JR l y') ∧ Below B w w' := by
  have hdH := Lib.hid hd
  clear hd
  have hent := entM1
  go_enter Try.func26, Try.ntmps26
  go_wp2
  go_loopw [8, 9] (fun q _ wr => ∃ (i : Nat) (z : List Nat), 1 ≤ i ∧ (i ≤ n ∨ n = 0) ∧ i ≤ n + 1 ∧ q = .int .i64 i ∧ z.Perm (List.range n) ∧ SrI (KD l) z i ∧ wr.ownsRow B 31 4 (.slice A n c) n (JR l z) ∧ Below B w wr) (fun q _ _ => n + 1 - (intOf q).toNat)
  case atStart => exact ⟨1, y, by omega, by omega, by omega, rfl, hp, SrI.one, hown, Below.refl _ _⟩
  case round =>
    clear hown hp
    obtain ⟨i, z, hi1, hin, hin1, rfl, hp, hS, hown, hb⟩ := hrel
    by_cases hlt : i < n
    · have hSH := Lib.hid (SrJ.start hS); have hownH := Lib.hid hown; have hbH := Lib.hid hb; have hpH := Lib.hid hp
      clear hS hown hb hp hin
      go_wp2
      go_loopw [9] (fun q wx => ∃ (j : Nat) (z : List Nat), j ≤ i ∧ q = .int .i64 j ∧ z.Perm (List.range n) ∧ SrJ (KD l) z i j ∧ wx.ownsRow B 31 4 (.slice A n c) n (JR l z) ∧ Below B w wx) (fun q _ => (intOf q).toNat)
      case atStart => exact ⟨i, z, Nat.le_refl _, rfl, hpH.out, hSH.out, hownH.out, hbH.out⟩
      case round =>
        clear hSH hownH hbH hpH
        obtain ⟨j, z, hji, rfl, hp, hJ, hown, hb⟩ := hrel
        have hzl : z.length = n := by simpa using hp.length_eq
        by_cases hj0 : j = 0
        · subst hj0
          have hI := Lib.hid (hJ.done fun h => absurd h (by omega))
          have hownH := Lib.hid hown; have hbH := Lib.hid hb; have hpH := Lib.hid hp
          clear hJ hown hb hp
          go_wp2
          go_quiet (fail)
          go_wp2
          go_roundw
          case rel => exact ⟨i + 1, z, by omega, by omega, by omega, by go_num, hpH.out, hI.out, own_drewN hownH.out _, below_drewN hbH.out _⟩
          case measure => simp [intOf]; omega
        · obtain ⟨g, rfl, hBg, hgl, a0, a1, a2, a3⟩ := own_atJ hown (show j < n by omega)
          obtain ⟨_, hA, _, _, b0, b1, b2, b3⟩ := own_atJ hown (show j - 1 < n by omega)
          cases hA
          have hw1 : IntKind.i64.wrap ((j : Int) - 1) = ((j - 1 : Nat) : Int) := by rw [IntWalk.i64_in _ (by omega)]; omega
          have hsw := Lib.hid (fun h => hJ.swap (j := j) (by omega) (by omega) h)
          have hdn := Lib.hid (fun h => hJ.done (j := j) h)
          have HQ := Lib.hid (fun (W : World) => many1_any (jat l (z.getD j 0)) (jat l (z.getD (j - 1) 0)) W (hdH.out _) (hdH.out _))
          have hKX := Lib.hid (show KD l (z.getD j 0) = - (jat l (z.getD j 0)).due from rfl)
          have hKY := Lib.hid (show KD l (z.getD (j - 1) 0) = - (jat l (z.getD (j - 1) 0)).due from rfl)
          have hownH := Lib.hid hown; have hbH := Lib.hid hb; have hpH := Lib.hid hp; have hzlH := Lib.hid hzl
          have hdj : decide (0 < j) = true := decide_eq_true (by omega)
          obtain ⟨X, hX⟩ : ∃ X, z.getD j 0 = X := ⟨_, rfl⟩
          obtain ⟨Y, hY⟩ : ∃ Y, z.getD (j - 1) 0 = Y := ⟨_, rfl⟩
          have hXH := Lib.hid hX; have hYH := Lib.hid hY
          rw [hX] at a0 a1 a2 a3 HQ hKX
          rw [hY] at b0 b1 b2 b3 HQ hKY
          clear hJ hown hb hp hzl hX hY
          obtain ⟨JX, hJX⟩ : ∃ J, jat l X = J := ⟨_, rfl⟩
          obtain ⟨JY, hJY⟩ : ∃ J, jat l Y = J := ⟨_, rfl⟩
          have hJXH := Lib.hid hJX; have hJYH := Lib.hid hJY
          rw [hJX] at a0 a1 a2 a3 HQ hKX
          rw [hJY] at b0 b1 b2 b3 HQ hKY
          clear hJX hJY
          obtain ⟨t, A', l', c', du, wo, af⟩ := JX
          obtain ⟨t2, A2, l2, c2, du2, wo2, af2⟩ := JY
          unfold jagg at HQ
          dsimp only at a0 a1 a2 a3 b0 b1 b2 b3 HQ hKX hKY
          obtain ⟨wi, rfl⟩ : ∃ wi : World, wi = wr := ⟨_, rfl⟩
          have x0 := BW.cell (w := wi) a0; have x1 := BW.cell (w := wi) a1; have x2 := BW.cell (w := wi) a2; have x3 := BW.cell (w := wi) a3
          have y0 := BW.cell (w := wi) b0; have y1 := BW.cell (w := wi) b1; have y2 := BW.cell (w := wi) b2; have y3 := BW.cell (w := wi) b3
          have HQ2 : Hid (∀ p : BW wi, Calls Try.prog 12 #[.agg #[.int .i64 t, .slice A' l' c', .int .i64 du, .int .i64 wo], .agg #[.int .i64 t2, .slice A2 l2 c2, .int .i64 du2, .int .i64 wo2]] p.w' fun e w' => e = .returned (.int .i64 (du - du2)) ∧ Below p.w'.heap.size p.w' w') := Lib.hid (fun p => HQ.out p.w')
          obtain ⟨cc, hcc⟩ : ∃ cc, du - du2 = cc := ⟨_, rfl⟩
          rw [hcc] at HQ2
          have hccH := Lib.hid hcc
          clear HQ hcc
          by_cases hlt2 : cc < 0
          · have hd : decide (cc < 0) = true := decide_eq_true hlt2
            have hs1 := Lib.hid (hsw.out (by rw [hXH.out, hYH.out, hKX.out, hKY.out]; have := hccH.out; omega))
            clear hlt2 hsw hdn
            go_wp2
            refine wp_region_below (by kernel_rfl) (by kernel_rfl) ?_
            repeat (go_big_quiet_step (first | rfl | (with_reducible refine Calls.bel (HQ2.out _))))
            refine wpQuiet_nil ?_
            rintro _ ⟨p, rfl⟩
            have z0 := x0 p; have z1 := x1 p; have z2 := x2 p; have z3 := x3 p
            have u0 := y0 p; have u1 := y1 p; have u2 := y2 p; have u3 := y3 p
            have hown1 := own_below hownH.out p.hb
            have hb1 := hbH.out.trans (p.hb.mono (by omega))
            have hgl1 : g < p.w'.heap.size := Nat.lt_of_lt_of_le hgl p.hb.size
            generalize p.w' = W1 at *
            have f0 := hown1.frozenAt (j * 4); have f1 := hown1.frozenAt (j * 4 + 1); have f2 := hown1.frozenAt (j * 4 + 2); have f3 := hown1.frozenAt (j * 4 + 3)
            have e0 := hown1.frozenAt ((j - 1) * 4); have e1 := hown1.frozenAt ((j - 1) * 4 + 1); have e2 := hown1.frozenAt ((j - 1) * 4 + 2); have e3 := hown1.frozenAt ((j - 1) * 4 + 3)
            have hst := own_setJ (own_setJ hown1 (show j < n by omega) Y) (show j - 1 < n by omega) X
            have hbs := below_setJ (k := j - 1) (j := jat l X) (below_setJ (k := j) (j := jat l Y) hb1 hBg) hBg
            rw [hJXH.out, hJYH.out] at hst hbs
            unfold setJ at hst hbs
            dsimp only at hst hbs
            have hpz : (swpL z j).Perm (List.range n) := (swpL_perm (by rw [hzlH.out]; omega)).trans hpH.out
            have hstH := Lib.hid hst; have hbsH := Lib.hid hbs; have hpzH := Lib.hid hpz
            clear hst hbs hpz hown1 hb1 x0 x1 x2 x3 y0 y1 y2 y3 a0 a1 a2 a3 b0 b1 b2 b3 hgl HQ2
            go_wp2
            go_region
            go_wp2
            go_roundw
            case rel => exact ⟨j - 1, swpL z j, by omega, by go_num, hpzH.out, hs1.out, by unfold swpL; rw [hXH.out, hYH.out]; exact own_drew hstH.out, hbsH.out.drew⟩
            case measure => simp [intOf]; omega
          · have hd : decide (cc < 0) = false := decide_eq_false hlt2
            have hI := Lib.hid (hdn.out fun _ => by
              rw [hXH.out, hYH.out, hKX.out, hKY.out]; have := hccH.out; omega)
            clear hlt2 hsw hdn
            go_wp2
            refine wp_region_below (by kernel_rfl) (by kernel_rfl) ?_
            repeat (go_big_quiet_step (first | rfl | (with_reducible refine Calls.bel (HQ2.out _))))
            refine wpQuiet_nil ?_
            rintro _ ⟨p, rfl⟩
            have hfin := Lib.hid (own_below hownH.out p.hb)
            have hbf := Lib.hid (hbH.out.trans (p.hb.mono (by omega)))
            clear x0 x1 x2 x3 y0 y1 y2 y3 a0 a1 a2 a3 b0 b1 b2 b3 HQ2
            go_wp2
            go_roundw
            case rel => exact ⟨i + 1, z, by omega, by omega, by omega, by go_num, hpH.out, hI.out, hfin.out, hbf.out⟩
            case measure => simp [intOf]; omega
    · have hS' : SrI (KD l) z n := fun p q h1 h2 => hS p q h1 (by omega)
      have hSH := Lib.hid hS'; have hownH := Lib.hid hown; have hbH := Lib.hid hb; have hpH := Lib.hid hp
      clear hS hS' hown hb hp
      go_wp2
      go_end0
      exact ⟨rfl, z, hpH.out, hSH.out, hownH.out, hbH.out⟩
theorem stable_any (l : List Jb) (A : Option Addr) (n c B : Nat) (y : List Nat) (w : World) (hown : w.ownsRow B 31 4 (.slice A n c) n (JR l y)) (hp : y.Perm (List.range n)) (hn : n < 20) (hd : DueB l) :
    Calls Try.prog 24 #[.slice A n c, .int .i64 (n : Int), .func (.func 12) #[] #[]] w fun e w' => e = .returned (.tuple #[]) ∧ ∃ y', y'.Perm (List.range n) ∧ SrI (KD l) y' n ∧ w'.ownsRow B 31 4 (.slice A n c) n (JR l y') ∧ Below B w w' := by
  have H := Lib.hid (insertion_any l A n c B y w hown hp (by omega) hd)
  clear hown hp hd
  go_enter Try.func24, Try.ntmps24
  have h1 : (n : Int) < 20 := by omega
  go_wp2
  go_loopw [7, 8] (fun q r wr => q = .int .i64 0 ∧ r = .int .i64 20 ∧ wr = w) (fun _ _ _ => 0)
  case atStart => exact ⟨rfl, rfl, rfl⟩
  case round =>
    obtain ⟨rfl, rfl, rfl⟩ := hrel
    go_wp2_with fail
    refine H.out.mono ?_
    rintro _ w1 ⟨rfl, y', hp', hS', hown', hb'⟩
    have hSH := Lib.hid hS'; have hownH := Lib.hid hown'; have hbH := Lib.hid hb'; have hpH := Lib.hid hp'
    clear hS' hown' hb' hp'
    go_wp2
    go_loopw [6, 7, 8, 9] (fun p _ _ _ wx => p = .int .i64 20 ∧ wx = w1) (fun _ _ _ _ _ => 0)
    case atStart => exact ⟨rfl, rfl⟩
    case round =>
      obtain ⟨rfl, rfl⟩ := hrel
      go_wp2
      go_end0
      exact ⟨rfl, y', hpH.out, hSH.out, hownH.out, hbH.out⟩
theorem sort_any (l : List Jb) (A : Option Addr) (n c B : Nat) (y : List Nat) (w : World) (hown : w.ownsRow B 31 4 (.slice A n c) n (JR l y)) (hp : y.Perm (List.range n)) (hn : n < 20) (hd : DueB l) :
    Calls Try.prog 11 #[.slice A n c, .func (.func 12) #[] #[]] w fun e w' => e = .returned (.tuple #[]) ∧ ∃ y', y'.Perm (List.range n) ∧ SrI (KD l) y' n ∧ w'.ownsRow B 31 4 (.slice A n c) n (JR l y') ∧ Below B w w' := by
  have H := Lib.hid (stable_any l A n c B y w hown hp hn hd)
  clear hown hp hd
  go_enter Try.func11, Try.ntmps11
  go_wp2_with fail
  refine H.out.mono ?_
  rintro _ w1 ⟨rfl, h⟩
  have hH := Lib.hid h
  clear h
  go_wp2
  go_end0
  exact ⟨rfl, hH.out⟩
end Go.Proofs.Ytnpmmmicgpngpaa
