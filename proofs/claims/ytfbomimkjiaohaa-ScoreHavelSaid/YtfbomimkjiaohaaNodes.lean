/- score: nodes in memory (the end of a row that the call owns), and slices.SortFunc at them, of no more than ten. -/
import Derived.Test.YtfbomimkjiaohaaNodeOrder
import Derived.Test.YtfbomimkjiaohaaSrt
import Derived.Test.YtfbomimkjiaohaaRow
namespace Go.Proofs.Ytfbomimkjiaohaa
open Go.RowKit

theorem ps2_setN {k₁ k₂ : IntKind} : ∀ (l : List (Int × Int)) (i : Nat) (a b : Int), i < l.length → ((ps2 k₁ k₂ l).set (i * 2) (.int k₁ a)).set (i * 2 + 1) (.int k₂ b) = ps2 k₁ k₂ (l.set i (a, b))
  | [], i, a, b, h => by simp at h
  | c :: l, 0, a, b, _ => by simp [ps2]
  | c :: l, i + 1, a, b, h => by
    have ih := ps2_setN (k₁ := k₁) (k₂ := k₂) l i a b (by simpa using h)
    have e : ps2 k₁ k₂ (c :: l) = .int k₁ c.1 :: .int k₂ c.2 :: ps2 k₁ k₂ l := rfl
    rw [e, show (i + 1) * 2 = i * 2 + 1 + 1 by omega]
    simp only [List.set_cons_succ]
    rw [ih]
    rfl
/-- the nodes z: the end of a row of the call's own, behind pre -/
structure NS (W : World) (B N : Nat) (V : Value) (pre z : List (Int × Int)) (A : Option Addr) (m : Nat) : Prop where
  own : W.ownsRow B 43 2 V N (ps2 .i64 .i64 (pre ++ z))
  ml : z.length = m
  hat : 0 < m → ∃ g C, V = .slice (some ⟨g, 0, none⟩) N C ∧ A = some ⟨g, pre.length * 2, none⟩
def setN (w : World) (g o : Nat) (p : Int × Int) : World := (w.setCell ⟨g, o, none⟩ (.int .i64 p.1)).setCell ⟨g, o + 1, none⟩ (.int .i64 p.2)
section
variable {W W' : World} {B N m : Nat} {V : Value} {pre z : List (Int × Int)} {A : Option Addr}
theorem NS.len (h : NS W B N V pre z A m) : N = pre.length + m := by
  have := h.own.1
  rw [ps2_length, List.length_append, h.ml] at this
  omega
theorem NS.below (h : NS W B N V pre z A m) (hb : Below W.heap.size W W') : NS W' B N V pre z A m := ⟨own_below h.own hb, h.ml, h.hat⟩
theorem NS.drew (h : NS W B N V pre z A m) : NS W.drew B N V pre z A m := ⟨h.own.drew, h.ml, h.hat⟩
theorem NS.drewN (h : NS W B N V pre z A m) (k : Nat) : NS (W.drewN k) B N V pre z A m := ⟨own_drewN h.own k, h.ml, h.hat⟩
theorem NS.at_ (h : NS W B N V pre z A m) {j : Nat} (hj : j < m) : ∃ g C, V = .slice (some ⟨g, 0, none⟩) N C ∧ A = some ⟨g, pre.length * 2, none⟩ ∧ B ≤ g ∧ g < W.heap.size ∧
    W.cell? ⟨g, pre.length * 2 + j * 2, none⟩ = some (.int .i64 (z.getD j (0, 0)).1) ∧ W.cell? ⟨g, pre.length * 2 + j * 2 + 1, none⟩ = some (.int .i64 (z.getD j (0, 0)).2) := by
  obtain ⟨g, C, rfl, rfl⟩ := h.hat (by omega)
  have hl := h.own.lt g rfl
  have hN := h.len
  have hz := h.ml
  have hg : (pre ++ z).getD (pre.length + j) (0, 0) = z.getD j (0, 0) := by
    rw [List.getD, List.getElem?_append_right (by omega), Nat.add_sub_cancel_left]; rfl
  have hp := ps2_get (k₁ := .i64) (k₂ := .i64) (l := pre ++ z) (j := pre.length + j) (by rw [List.length_append]; omega)
  rw [hg] at hp
  refine ⟨g, C, rfl, rfl, hl.1, hl.2, ?_, ?_⟩
  · rw [← hp.1, ← h.own.cellAt _ (by omega)]
    congr 2; omega
  · rw [← hp.2, ← h.own.cellAt _ (by omega)]
    congr 2; omega
theorem NS.set {g C : Nat} (h : NS W B N (.slice (some ⟨g, 0, none⟩) N C) pre z A m) {j : Nat} (hj : j < m) (p : Int × Int) : NS (setN W g (pre.length * 2 + j * 2) p) B N (.slice (some ⟨g, 0, none⟩) N C) pre (z.set j p) A m := by
  have hz := h.ml
  refine ⟨?_, by rw [List.length_set]; exact hz, h.hat⟩
  have h1 := ((h.own.stored (pre.length * 2 + j * 2) (.int .i64 p.1)).1.stored (pre.length * 2 + j * 2 + 1) (.int .i64 p.2)).1
  rw [show pre.length * 2 + j * 2 = (pre.length + j) * 2 by omega, ps2_setN _ _ _ _ (by rw [List.length_append]; omega), List.set_append_right _ _ (by omega), Nat.add_sub_cancel_left] at h1
  unfold setN
  rw [show pre.length * 2 + j * 2 = (pre.length + j) * 2 by omega]
  exact h1
end
theorem grown_trN {a b c : World} {r : Option Nat} (h : a.grownBy b r) (h' : b.grownBy c r) : a.grownBy c r :=
  ⟨h'.os.trans h.os, h'.tape.trans h.tape, h'.output.trans h.output, Nat.le_trans h.size h'.size, fun k hk hr => (h'.block k (Nat.lt_of_lt_of_le hk h.size) hr).trans (h.block k hk hr)⟩
theorem grown_drN {a b : World} {r : Option Nat} (h : a.grownBy b r) (k : Nat) : a.grownBy (b.drewN k) r := ⟨h.os, h.tape, h.output, h.size, h.block⟩
theorem grown_drN1 {a b : World} {r : Option Nat} (h : a.grownBy b r) : a.grownBy b.drew r := ⟨h.os, h.tape, h.output, h.size, h.block⟩
theorem grown_beN {a b : World} (r : Option Nat) (h : Below a.heap.size a b) : a.grownBy b r := ⟨h.os, h.tape, h.output, h.size, fun k hk _ => h.block k hk⟩
theorem grown_stN (a : World) (g i : Nat) (v : Value) : a.grownBy (a.setCell ⟨g, i, none⟩ v) (some g) :=
  ⟨rfl, rfl, rfl, by simp, fun k _ hk => heap_setCell_other a ⟨g, i, none⟩ k v (fun e => hk (by simp [e]))⟩
theorem grown_setN {a w : World} {g o : Nat} {p : Int × Int} (h : a.grownBy w (some g)) : a.grownBy (setN w g o p) (some g) := grown_trN (grown_trN h (grown_stN _ _ _ _)) (grown_stN _ _ _ _)
theorem entO (args : Array Value) (w : World) : (callFunc 15 args).run Try.prog w = .ok (.enter 15 args) w := by go_simp
/-- the places are small -/
def SmP (z : List (Int × Int)) : Prop := ∀ j, 0 ≤ (z.getD j (0, 0)).1 ∧ (z.getD j (0, 0)).1 < 10
theorem SmP.of_mem {z : List (Int × Int)} (h : ∀ p ∈ z, 0 ≤ p.1 ∧ p.1 < 10) : SmP z := fun j => by
  by_cases hj : j < z.length
  · exact h _ (by simp [List.getD, hj])
  · simp [List.getD, hj]
theorem SmP.mem {z : List (Int × Int)} (h : SmP z) : ∀ p ∈ z, 0 ≤ p.1 ∧ p.1 < 10 := fun p hp => by
  obtain ⟨j, hj, rfl⟩ := List.mem_iff_getElem.1 hp
  have := h j
  rwa [show z.getD j (0, 0) = z[j] by simp [List.getD, hj]] at this
def NPost (B N : Nat) (V : Value) (pre y : List (Int × Int)) (A : Option Addr) (m : Nat) (w : World) (e : Ending) (w' : World) : Prop :=
  e = .returned (.tuple #[]) ∧ ∃ z, z.Perm y ∧ SrI (0, 0) KO z m ∧ NS w' B N V pre z A m ∧ w.grownBy w' V.ownBlock
set_option maxHeartbeats 3200000 in
theorem insertionN_any (B N : Nat) (V : Value) (pre y : List (Int × Int)) (A : Option Addr) (m c : Nat) (w : World) (hown : NS w B N V pre y A m) (hn : m ≤ 20) (hN : N ≤ 20) (hsm : SmP y) :
    Calls Try.prog 33 #[.slice A m c, .int .i64 0, .int .i64 (m : Int), .func (.func 15) #[] #[]] w (NPost B N V pre y A m w) := by
  have hylH := Lib.hid hown.ml
  have hsmH := Lib.hid hsm
  have hent := entO
  have hBN := hown.len
  have hpre : pre.length ≤ 20 := by omega
  obtain ⟨o, ho⟩ : ∃ o, pre.length * 2 = o := ⟨_, rfl⟩
  have hoH := Lib.hid ho
  have ho40 : o ≤ 40 := by omega
  clear hsm hBN ho
  go_enter Try.func33, Try.ntmps33
  go_wp2
  go_loopw [8, 9] (fun q _ wr => ∃ (i : Nat) (z : List (Int × Int)), 1 ≤ i ∧ (i ≤ m ∨ m = 0) ∧ i ≤ m + 1 ∧ q = .int .i64 i ∧ z.Perm y ∧ SrI (0, 0) KO z i ∧ NS wr B N V pre z A m ∧ w.grownBy wr V.ownBlock) (fun q _ _ => m + 1 - (intOf q).toNat)
  case atStart => exact ⟨1, y, by omega, by omega, by omega, rfl, .refl _, SrI.one, hown, World.grownBy.refl _ _⟩
  case round =>
    clear hown
    obtain ⟨i, z, hi1, hin, hin1, rfl, hp, hS, hown, hb⟩ := hrel
    by_cases hlt : i < m
    · have hSH := Lib.hid (SrJ.start hS); have hownH := Lib.hid hown; have hbH := Lib.hid hb; have hpH := Lib.hid hp
      clear hS hown hb hp hin
      go_wp2
      go_loopw [9] (fun q wx => ∃ (j : Nat) (z : List (Int × Int)), j ≤ i ∧ q = .int .i64 j ∧ z.Perm y ∧ SrJ (0, 0) KO z i j ∧ NS wx B N V pre z A m ∧ w.grownBy wx V.ownBlock) (fun q _ => (intOf q).toNat)
      case atStart => exact ⟨i, z, Nat.le_refl _, rfl, hpH.out, hSH.out, hownH.out, hbH.out⟩
      case round =>
        clear hSH hownH hbH hpH
        obtain ⟨j, z, hji, rfl, hp, hJ, hown, hb⟩ := hrel
        have hzl : z.length = m := hown.ml
        by_cases hj0 : j = 0
        · subst hj0
          have hI := Lib.hid (hJ.done fun h => absurd h (by omega))
          have hownH := Lib.hid hown; have hbH := Lib.hid hb; have hpH := Lib.hid hp
          clear hJ hown hb hp hzl
          go_wp2
          go_quiet (fail)
          go_wp2
          go_roundw
          case rel => exact ⟨i + 1, z, by omega, by omega, by omega, by go_num, hpH.out, hI.out, hownH.out.drewN _, grown_drN hbH.out _⟩
          case measure => simp [intOf]; omega
        · have hat1 := hown.at_ (show j < m by omega)
          have hat2 := hown.at_ (show j - 1 < m by omega)
          rw [hoH.out] at hat1 hat2
          obtain ⟨g, C, rfl, rfl, hBg, hgl, a0, a1⟩ := hat1
          obtain ⟨_, _, hV, hA, _, _, b0, b1⟩ := hat2
          cases hV; cases hA
          have hw1 : IntKind.i64.wrap ((j : Int) - 1) = ((j - 1 : Nat) : Int) := by rw [IntWalk.i64_in _ (by omega)]; omega
          have hsw := Lib.hid (fun h => hJ.swap (j := j) (by omega) (by omega) h)
          have hdn := Lib.hid (fun h => hJ.done (j := j) h)
          have hsmz : SmP z := SmP.of_mem fun p hp' => hsmH.out.mem p (hp.mem_iff.1 hp')
          obtain ⟨X, hX⟩ : ∃ X, z.getD j (0, 0) = X := ⟨_, rfl⟩
          obtain ⟨Y, hY⟩ : ∃ Y, z.getD (j - 1) (0, 0) = Y := ⟨_, rfl⟩
          have hord := Lib.hid (ordV_lt (a := X) (b := Y) (hX ▸ hsmz j) (hY ▸ hsmz (j - 1)))
          have hXH := Lib.hid hX; have hYH := Lib.hid hY
          rw [hX] at a0 a1
          rw [hY] at b0 b1
          have hownH := Lib.hid hown; have hbH := Lib.hid hb; have hpH := Lib.hid hp; have hzlH := Lib.hid hzl
          have hdj : decide (0 < j) = true := decide_eq_true (by omega)
          clear hJ hown hb hp hzl hX hY hsmz
          obtain ⟨wi, rfl⟩ : ∃ wi : World, wi = wr := ⟨_, rfl⟩
          have HQ := Lib.hid (fun (p : BW wi) => order_any X Y p.w')
          obtain ⟨X1, X2⟩ := X
          obtain ⟨Y1, Y2⟩ := Y
          dsimp only at a0 a1 b0 b1 HQ
          have x0 := BW.cell (w := wi) a0; have x1 := BW.cell (w := wi) a1; have y0 := BW.cell (w := wi) b0; have y1 := BW.cell (w := wi) b1
          obtain ⟨cc, hcc⟩ : ∃ cc, ordV (X1, X2) (Y1, Y2) = cc := ⟨_, rfl⟩
          rw [hcc] at HQ hord
          clear hcc
          by_cases hlt2 : cc < 0
          · have hd : decide (cc < 0) = true := decide_eq_true hlt2
            have hs1 := Lib.hid (hsw.out (by rw [hXH.out, hYH.out]; exact hord.out.1 hlt2))
            clear hlt2 hsw hdn
            go_wp2
            refine wp_region_below (by kernel_rfl) (by kernel_rfl) ?_
            repeat (go_big_quiet_step (first | rfl | (with_reducible refine Calls.bel (HQ.out _))))
            refine wpQuiet_nil ?_
            rintro _ ⟨p, rfl⟩
            have z0 := x0 p; have z1 := x1 p; have u0 := y0 p; have u1 := y1 p
            have hown1 := hownH.out.below p.hb
            have hb1 := grown_trN hbH.out (grown_beN _ p.hb)
            have hgl1 : g < p.w'.heap.size := Nat.lt_of_lt_of_le hgl p.hb.size
            generalize p.w' = W1 at *
            have f0 := hown1.own.frozenAt (o + j * 2); have f1 := hown1.own.frozenAt (o + j * 2 + 1)
            have e0 := hown1.own.frozenAt (o + (j - 1) * 2); have e1 := hown1.own.frozenAt (o + (j - 1) * 2 + 1)
            have hst := (hown1.set (show j < m by omega) (Y1, Y2)).set (show j - 1 < m by omega) (X1, X2)
            have hbs := grown_setN (o := pre.length * 2 + (j - 1) * 2) (p := (X1, X2)) (grown_setN (o := pre.length * 2 + j * 2) (p := (Y1, Y2)) hb1)
            rw [hoH.out] at hst hbs
            unfold setN at hst hbs
            dsimp only at hst hbs
            have hpz : (swpL (0, 0) z j).Perm y := (swpL_perm (by rw [hzlH.out]; omega)).trans hpH.out
            have hstH := Lib.hid hst; have hbsH := Lib.hid hbs; have hpzH := Lib.hid hpz
            clear hst hbs hpz hown1 hb1 x0 x1 y0 y1 a0 a1 b0 b1 hgl HQ
            go_wp2
            go_region
            go_wp2
            go_roundw
            case rel => exact ⟨j - 1, swpL (0, 0) z j, by omega, by go_num, hpzH.out, hs1.out, by unfold swpL; rw [hXH.out, hYH.out]; exact hstH.out.drew, grown_drN1 hbsH.out⟩
            case measure => simp [intOf]; omega
          · have hd : decide (cc < 0) = false := decide_eq_false hlt2
            have hI := Lib.hid (hdn.out fun _ => by
              rw [hXH.out, hYH.out]
              have := hord.out
              omega)
            clear hlt2 hsw hdn
            go_wp2
            refine wp_region_below (by kernel_rfl) (by kernel_rfl) ?_
            repeat (go_big_quiet_step (first | rfl | (with_reducible refine Calls.bel (HQ.out _))))
            refine wpQuiet_nil ?_
            rintro _ ⟨p, rfl⟩
            have hfin := Lib.hid (hownH.out.below p.hb)
            have hbf := Lib.hid (grown_trN hbH.out (grown_beN _ p.hb))
            clear x0 x1 y0 y1 a0 a1 b0 b1 HQ
            go_wp2
            go_roundw
            case rel => exact ⟨i + 1, z, by omega, by omega, by omega, by go_num, hpH.out, hI.out, hfin.out, hbf.out⟩
            case measure => simp [intOf]; omega
    · have hS' : SrI (0, 0) KO z m := fun p q h1 h2 => hS p q h1 (by omega)
      have hSH := Lib.hid hS'; have hownH := Lib.hid hown; have hbH := Lib.hid hb; have hpH := Lib.hid hp
      clear hS hS' hown hb hp
      go_wp2
      go_end0
      exact ⟨rfl, z, hpH.out, hSH.out, hownH.out, hbH.out⟩
set_option maxRecDepth 100000 in
theorem pdqN_any (B N : Nat) (V : Value) (pre y : List (Int × Int)) (A : Option Addr) (m c : Nat) (v : Int) (w : World) (hown : NS w B N V pre y A m) (hn : m ≤ 10) (hN : N ≤ 20) (hsm : SmP y) :
    Calls Try.prog 19 #[.slice A m c, .int .i64 0, .int .i64 (m : Int), .int .i64 v, .func (.func 15) #[] #[]] w (NPost B N V pre y A m w) := by
  have H := Lib.hid (insertionN_any B N V pre y A m c w hown (by omega) hN hsm)
  have hn12 : (m : Int) ≤ 12 := by omega
  clear hown hsm
  go_enter Try.func19, Try.ntmps19
  go_wp2
  go_loopw [1, 2] (fun a b wr => a = .int .i64 0 ∧ b = .int .i64 (m : Int) ∧ wr = w) (fun _ _ _ => 0)
  case atStart => exact ⟨rfl, rfl, rfl⟩
  case round =>
    obtain ⟨rfl, rfl, rfl⟩ := hrel
    go_wp2_with fail
    refine H.out.mono ?_
    rintro _ w1 ⟨rfl, h⟩
    have hH := Lib.hid h
    clear h
    go_wp2_with fail
    go_end0
    exact ⟨rfl, hH.out⟩
theorem sortN_any (B N : Nat) (V : Value) (pre y : List (Int × Int)) (A : Option Addr) (m c : Nat) (w : World) (hown : NS w B N V pre y A m) (hn : m ≤ 10) (hN : N ≤ 20) (hsm : SmP y) :
    Calls Try.prog 14 #[.slice A m c, .func (.func 15) #[] #[]] w (NPost B N V pre y A m w) := by
  have HL := Lib.hid (len_small m hn w)
  have H := Lib.hid (fun v => pdqN_any B N V pre y A m c v w hown hn hN hsm)
  clear hown hsm
  go_enter Try.func14, Try.ntmps14
  go_wp2_with fail
  refine HL.out.mono ?_
  rintro _ _ ⟨⟨v, rfl⟩, rfl⟩
  go_wp2_with fail
  refine (H.out v).mono ?_
  rintro _ w1 ⟨rfl, h⟩
  have hH := Lib.hid h
  clear h
  go_wp2_with fail
  go_end0
  exact ⟨rfl, hH.out⟩
end Go.Proofs.Ytfbomimkjiaohaa
