/- queue.Worth and queue.Late: the best orders. -/
import Derived.Test.YtednlnlppedkiaaWeighB
import Derived.Test.YtednlnlppedkiaaTwo
import Derived.Test.YtednlnlppedkiaaQueueAny
import Derived.Test.YtednlnlppedkiaaQueueLaw
namespace Go.Proofs.Ytednlnlppedkiaa
open Go.RowKit

theorem entWorth2 (args : Array Value) (w : World) : (callFunc 23 args).run Try.prog w = .ok (.enter 23 args) w := by go_simp
theorem entLate1 (args : Array Value) (w : World) : (callFunc 26 args).run Try.prog w = .ok (.enter 26 args) w := by go_simp
/-- the answer of both: an order of all that costs the least -/
def WPost (n : Nat) (F : List Nat → Int) (w : World) (e : Ending) (w' : World) : Prop :=
  ∃ x g c, e = .returned (.tuple #[.slice (some ⟨g, 0, none⟩) n c, .int .i64 (F x), .int .i64 0]) ∧ x.Perm (List.range n) ∧
      w'.ownsRow w.heap.size 3 1 (.slice (some ⟨g, 0, none⟩) n c) n (ints .i64 (natI x)) ∧ (∀ y, y.Perm (List.range n) → F x ≤ F y) ∧ Below w.heap.size w w'
def WBad (w : World) (e : Ending) (w' : World) : Prop := ∃ z, e = .returned (.tuple #[.slice none 0 0, .int .i64 0, .int .i64 z]) ∧ (z != 0) = true ∧ Below w.heap.size w w'
theorem worth_bad (A : Option Addr) (len cap : Nat) (l : List Jb) (w : World) (hr : RdJ w A len l) (hl : len ≤ 9223372036854775807) (hbad : (qchk 0 l == 0) = false) :
    Calls Try.prog 12 #[.slice A len cap] w (WBad w) := by
  have hbx := Boxed.new w 33 (.slice A len cap)
  have hbB := (Below.refl _ w).alloc (Nat.le_refl _) (.cells #[.slice A len cap] 33)
  have HC := Lib.hid (wrong_any 0 22 entW1 worth1_any A len cap l _ (hr.later hbB) hl)
  have hne : (qchk 0 l != 0) = true := by simpa using hbad
  clear hr hbad
  generalize qchk 0 l = z at *
  go_enter Try.func12, Try.ntmps12
  go_wp2_with fail
  refine HC.out.mono ?_
  rintro _ w1 ⟨rfl, hb1⟩
  go_wp2
  go_ret3
  exact ⟨z, rfl, hne, hbB.trans (hb1.mono (by simp))⟩
theorem late_bad (A : Option Addr) (len cap : Nat) (l : List Jb) (w : World) (hr : RdJ w A len l) (hl : len ≤ 9223372036854775807) (hbad : (qchk 1 l == 0) = false) :
    Calls Try.prog 15 #[.slice A len cap] w (WBad w) := by
  have hbx := Boxed.new w 33 (.slice A len cap)
  have hbB := (Below.refl _ w).alloc (Nat.le_refl _) (.cells #[.slice A len cap] 33)
  have HC := Lib.hid (wrong_any 1 25 entD1 due1_any A len cap l _ (hr.later hbB) hl)
  have hne : (qchk 1 l != 0) = true := by simpa using hbad
  clear hr hbad
  generalize qchk 1 l = z at *
  go_enter Try.func15, Try.ntmps15
  go_wp2_with fail
  refine HC.out.mono ?_
  rintro _ w1 ⟨rfl, hb1⟩
  go_wp2
  go_ret3
  exact ⟨z, rfl, hne, hbB.trans (hb1.mono (by simp))⟩
theorem worth_ok (A : Option Addr) (n cap : Nat) (l : List Jb) (w : World) (hr : RdJ w A n l) (hok : qchk 0 l = 0) :
    Calls Try.prog 12 #[.slice A n cap] w (WPost n (fun x => (wfold l (natI x)).2) w) := by
  obtain ⟨h7, hbt, hbf⟩ := qchk_zero hok
  have hel := hr.1
  rw [hel] at h7
  have hbx := Boxed.new w 33 (.slice A n cap)
  have hbB := (Below.refl _ w).alloc (Nat.le_refl _) (.cells #[.slice A n cap] 33)
  have HC := Lib.hid (wrong_any 0 22 entW1 worth1_any A n cap l _ (hr.later hbB) (by omega))
  rw [hok] at HC
  have hrH := Lib.hid hr; have hbtH := Lib.hid hbt; have hbfH := Lib.hid hbf
  have hc0 := hbx.cell
  have hbxH := Lib.hid hbx
  clear hr hbx hok hel hbt hbf
  go_enter Try.func12, Try.ntmps12
  go_wp2_with fail
  refine HC.out.mono ?_
  rintro _ w1 ⟨rfl, hb1⟩
  have hs1 := hb1.size
  have e1 := (hb1.block _ hbxH.out.lt).trans hbxH.out
  have hb2 := hbB.trans (hb1.mono (by simp))
  simp only [World.size_alloc] at hs1
  have c1 := Boxed.cell e1
  have HB := Lib.hid (best_any n h7 23 #[.pointer (some ⟨w.heap.size, 0, none⟩)] (fun x => (wfold l (natI x)).2) w1 entWorth2 (fun x g c W hW hp hR => by
    refine (worth2_any A (some ⟨g, 0, none⟩) n cap n c w.heap.size l (natI x) W (Boxed.cell ((hW.block _ (Boxed.lt e1)).trans e1)) (hrH.out.later (hb2.trans (hW.mono hb2.size))) hR h7 h7 hbtH.out hbfH.out (natI_getD hp)).mono ?_
    rintro e W' ⟨rfl, rfl⟩
    exact ⟨rfl, Below.refl _ _⟩))
  have hb2H := Lib.hid hb2
  clear e1 hb1 hbB hb2
  go_wp2_with fail
  refine HB.out.mono ?_
  rintro _ w3 ⟨x, g, c, rfl, hp, hown, hmin, hb5⟩
  have hpH := Lib.hid hp; have hownH := Lib.hid hown; have hminH := Lib.hid hmin
  clear hp hown hmin
  go_wp2
  go_ret3
  exact ⟨x, g, c, rfl, hpH.out, own_base (by have := hb2H.out.size; omega) hownH.out, hminH.out, hb2H.out.trans (hb5.mono hb2H.out.size)⟩
theorem late_none (A : Option Addr) (cap : Nat) (l : List Jb) (w : World) (hr : RdJ w A 0 l) (hok : qchk 1 l = 0) :
    Calls Try.prog 15 #[.slice A 0 cap] w fun e w' => e = .returned (.tuple #[.slice none 0 0, .int .i64 0, .int .i64 0]) ∧ Below w.heap.size w w' := by
  have hbx := Boxed.new w 33 (.slice A 0 cap)
  have hbB := (Below.refl _ w).alloc (Nat.le_refl _) (.cells #[.slice A 0 cap] 33)
  have HC := Lib.hid (wrong_any 1 25 entD1 due1_any A 0 cap l _ (hr.later hbB) (by omega))
  rw [hok] at HC
  have hbxH := Lib.hid hbx
  have hc0 := hbx.cell
  clear hr hok hbx
  go_enter Try.func15, Try.ntmps15
  go_wp2_with fail
  refine HC.out.mono ?_
  rintro _ w1 ⟨rfl, hb1⟩
  have c1 := Boxed.cell ((hb1.block _ hbxH.out.lt).trans hbxH.out)
  go_wp2
  go_ret3
  exact ⟨rfl, hbB.trans (hb1.mono (by simp))⟩
theorem late_ok (A : Option Addr) (n cap : Nat) (l : List Jb) (w : World) (hn : (n == 0) = false) (hr : RdJ w A n l) (hok : qchk 1 l = 0) :
    Calls Try.prog 15 #[.slice A n cap] w (WPost n (fun x => (lfold l (natI x)).2) w) := by
  obtain ⟨h7, hbt, hbf⟩ := qchk_zero hok
  have hel := hr.1
  rw [hel] at h7
  have hbx := Boxed.new w 33 (.slice A n cap)
  have hbB := (Below.refl _ w).alloc (Nat.le_refl _) (.cells #[.slice A n cap] 33)
  have HC := Lib.hid (wrong_any 1 25 entD1 due1_any A n cap l _ (hr.later hbB) (by omega))
  rw [hok] at HC
  have hrH := Lib.hid hr; have hbtH := Lib.hid hbt; have hbfH := Lib.hid hbf
  have hc0 := hbx.cell
  have hbxH := Lib.hid hbx
  have hn2 : ((n : Int) == 0) = false := by simp at hn ⊢; omega
  clear hr hbx hok hel hbt hbf hn
  go_enter Try.func15, Try.ntmps15
  go_wp2_with fail
  refine HC.out.mono ?_
  rintro _ w1 ⟨rfl, hb1⟩
  have hs1 := hb1.size
  have e1 := (hb1.block _ hbxH.out.lt).trans hbxH.out
  have hb2 := hbB.trans (hb1.mono (by simp))
  simp only [World.size_alloc] at hs1
  have c1 := Boxed.cell e1
  have HB := Lib.hid (best_any n h7 26 #[.pointer (some ⟨w.heap.size, 0, none⟩)] (fun x => (lfold l (natI x)).2) w1 entLate1 (fun x g c W hW hp hR => by
    refine (late1_any A (some ⟨g, 0, none⟩) n cap n c w.heap.size l (natI x) W (Boxed.cell ((hW.block _ (Boxed.lt e1)).trans e1)) (hrH.out.later (hb2.trans (hW.mono hb2.size))) hR h7 h7 hbtH.out hbfH.out (natI_getD hp)).mono ?_
    rintro e W' ⟨rfl, rfl⟩
    exact ⟨rfl, Below.refl _ _⟩))
  have hb2H := Lib.hid hb2
  clear e1 hb1 hbB hb2
  go_wp2_with fail
  refine HB.out.mono ?_
  rintro _ w3 ⟨x, g, c, rfl, hp, hown, hmin, hb5⟩
  have hpH := Lib.hid hp; have hownH := Lib.hid hown; have hminH := Lib.hid hmin
  clear hp hown hmin
  go_wp2
  go_ret3
  exact ⟨x, g, c, rfl, hpH.out, own_base (by have := hb2H.out.size; omega) hownH.out, hminH.out, hb2H.out.trans (hb5.mono hb2H.out.size)⟩
/- the laws -/
def SR (l : List Jb) (i j : Nat) : Prop := (jat l i).time * (jat l j).worth ≤ (jat l j).time * (jat l i).worth
theorem smith_best {l : List Jb} {x y : List Nat} (hx : x.Pairwise (SR l)) (hp : y.Perm x) : (wfold l (natI x)).2 ≤ (wfold l (natI y)).2 := by
  have h := exch (step := fun p (i : Nat) => wstep l p i) (le := fun s t => s.1 = t.1 ∧ s.2 ≤ t.2) (R := SR l) (fun _ => ⟨rfl, Int.le_refl _⟩) (fun h h' => ⟨h.1.trans h'.1, Int.le_trans h.2 h'.2⟩)
    (fun {s t} z h => by
      obtain ⟨h1, h2⟩ := h
      simp only [wstep, h1, true_and]
      omega)
    (fun i j hR s => by
      unfold SR at hR
      simp only [wstep, Int.toNat_natCast]
      generalize jat l i = a at *
      generalize jat l j = b at *
      refine ⟨by omega, ?_⟩
      have e1 : b.worth * (s.1 + a.time + b.time) = b.worth * (s.1 + b.time) + a.time * b.worth := by rw [Int.mul_comm a.time, ← Int.mul_add]; congr 1; omega
      have e2 : a.worth * (s.1 + b.time + a.time) = a.worth * (s.1 + a.time) + b.time * a.worth := by rw [Int.mul_comm b.time, ← Int.mul_add]; congr 1; omega
      rw [e1, e2]
      generalize b.worth * (s.1 + b.time) = q1 at *
      generalize a.worth * (s.1 + a.time) = q2 at *
      omega) x y (0, 0) hx hp
  unfold wfold natI
  rw [List.foldl_map, List.foldl_map]
  exact h.2
theorem jackson_best {l : List Jb} (hb : BdT l) {x y : List Nat} (hx : x.Pairwise fun i j => (jat l i).due ≤ (jat l j).due) (hp : y.Perm x) : (lfold l (natI x)).2 ≤ (lfold l (natI y)).2 := by
  have h := exch (step := fun p (i : Nat) => lstep l p i) (le := fun s t => s.1 = t.1 ∧ s.2 ≤ t.2) (R := fun i j => (jat l i).due ≤ (jat l j).due) (fun _ => ⟨rfl, Int.le_refl _⟩) (fun h h' => ⟨h.1.trans h'.1, Int.le_trans h.2 h'.2⟩)
    (fun {s t} z h => by
      obtain ⟨h1, h2⟩ := h
      simp only [lstep, h1, true_and]
      split <;> split <;> omega)
    (fun i j hR s => by
      simp only [lstep, Int.toNat_natCast]
      have b1 := hb i
      have b2 := hb j
      generalize jat l i = a at *
      generalize jat l j = b at *
      refine ⟨by omega, ?_⟩
      split <;> split <;> split <;> split <;> omega) x y (0, -1048576) hx hp
  unfold lfold natI
  rw [List.foldl_map, List.foldl_map]
  exact h.2
end Go.Proofs.Ytednlnlppedkiaa
