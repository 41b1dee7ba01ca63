/- Rows of rows of numbers of the call's own: a square of int64. -/
import Derived.Test.YtnkmfnnkophccaaDoorRows
import Derived.Test.YtnkmfnnkophccaaDoorRow
import Derived.Test.YtnkmfnnkophccaaDoorBase
namespace Go.Proofs.YtnkmfnnkophccaaDoor
open Go.RowKit

theorem tiM1 : TI Tryd.prog 38 2 (.int .i64 0) 1 8 := TI.mk' Tryd.underlying38 (by kernel_rfl) rfl (by decide)
theorem tiM2 : TI Tryd.prog 37 38 (.slice none 0 0) 1 24 := TI.mk' Tryd.underlying37 (by kernel_rfl) rfl (by decide)
theorem own_two {W : World} {b b' e e' sz sz' n n' : Nat} {v v' : Value} {xs xs' : List Value} (h : W.ownsRow b e sz v n xs) (h' : W.ownsRow b' e' sz' v' n' xs') (hne : e ≠ e') {g : Nat} (hg : v.ownBlock = some g) : v'.ownBlock ≠ some g := by
  rcases h.2 with ⟨rfl, _⟩ | ⟨g1, c1, cur1, rfl, _, h1, _⟩
  · cases hg
  · cases hg
    rcases h'.2 with ⟨rfl, _⟩ | ⟨g2, c2, cur2, rfl, _, h2, _⟩
    · simp [Value.ownBlock]
    · intro e2
      cases e2
      rw [h1] at h2
      cases h2
      exact hne rfl
/-- the outer row: m of the rows are there -/
def orow (n m : Nat) (r : Nat → Nat) : List Value := (List.range n).map fun i => if i < m then .slice (some ⟨r i, 0, none⟩) n n else .slice none 0 0
theorem orow_get {n m i : Nat} {r : Nat → Nat} (h : i < n) : (orow n m r)[i]? = some (if i < m then .slice (some ⟨r i, 0, none⟩) n n else .slice none 0 0) := by simp [orow, h]
theorem orow_zero (n : Nat) (r : Nat → Nat) : List.replicate n (Value.slice none 0 0) = orow n 0 r := (List.eq_replicate_iff.2 ⟨by simp [orow], by simp [orow]⟩).symm
theorem orow_set (n m : Nat) (r : Nat → Nat) (k : Nat) : (orow n m r).set m (.slice (some ⟨k, 0, none⟩) n n) = orow n (m + 1) (fun i => if i = m then k else r i) := by
  refine List.ext_getElem? fun i => ?_
  rw [List.getElem?_set]
  by_cases hi : i < n
  · rw [orow_get (m := m + 1) hi]
    by_cases e : m = i
    · subst e
      rw [if_pos rfl, if_pos (by simpa [orow] using hi), if_pos (by omega)]
      simp
    · rw [if_neg e, orow_get hi]
      by_cases h2 : i < m
      · rw [if_pos h2, if_pos (by omega), if_neg (by omega)]
      · rw [if_neg h2, if_neg (by omega)]
  · rw [List.getElem?_eq_none (l := orow n (m + 1) _) (by simp [orow]; omega)]
    by_cases e : m = i
    · rw [if_pos e, if_neg (by simp [orow]; omega)]
    · rw [if_neg e, List.getElem?_eq_none (by simp [orow]; omega)]
structure Mat (W : World) (B n g : Nat) (r : Nat → Nat) (m : Nat) (F : Nat → Nat → Int) : Prop where
  outer : W.ownsRow B 38 1 (.slice (some ⟨g, 0, none⟩) n n) n (orow n m r)
  rows : ∀ i, i < m → W.ownsRow B 2 1 (.slice (some ⟨r i, 0, none⟩) n n) n (row n (F i))
  inj : ∀ i j, i < m → j < m → r i = r j → i = j
  mn : m ≤ n
section
variable {W W' : World} {B n g m : Nat} {r : Nat → Nat} {F : Nat → Nat → Int}
theorem Mat.glt (h : Mat W B n g r m F) : B ≤ g ∧ g < W.heap.size := h.outer.lt g rfl
theorem Mat.rlt (h : Mat W B n g r m F) {i : Nat} (hi : i < m) : B ≤ r i ∧ r i < W.heap.size := (h.rows i hi).lt (r i) rfl
theorem Mat.ne (h : Mat W B n g r m F) {i : Nat} (hi : i < m) : r i ≠ g := fun e => own_two h.outer (h.rows i hi) (by decide) (g := g) rfl (by simp [Value.ownBlock, e])
theorem Mat.out (h : Mat W B n g r m F) {i : Nat} (hi : i < m) : W.cell? ⟨g, i, none⟩ = some (.slice (some ⟨r i, 0, none⟩) n n) := by
  have := h.mn
  rw [h.outer.cellAt i (by omega), orow_get (by omega), if_pos hi]
theorem Mat.outNil (h : Mat W B n g r m F) (hm : m < n) : W.cell? ⟨g, m, none⟩ = some (.slice none 0 0) := by
  rw [h.outer.cellAt m (by omega), orow_get (by omega), if_neg (by omega)]
theorem Mat.start (h : W.ownsRow B 38 1 (.slice (some ⟨g, 0, none⟩) n n) n (List.replicate n (.slice none 0 0))) (r : Nat → Nat) (F : Nat → Nat → Int) : Mat W B n g r 0 F :=
  ⟨by rw [orow_zero n r] at h; exact h, fun i hi => absurd hi (by omega), fun i j hi => absurd hi (by omega), by omega⟩
theorem Mat.cell (h : Mat W B n g r m F) {i j : Nat} (hi : i < m) (hj : j < n) : W.cell? ⟨r i, j, none⟩ = some (.int .i64 (F i j)) :=
  ((h.rows i hi).cellAt j (by omega)).trans (row_get hj)
theorem Mat.frz (h : Mat W B n g r m F) {i : Nat} (hi : i < m) (j : Nat) : W.frozen? ⟨r i, j, none⟩ = false := (h.rows i hi).frozenAt j
theorem Mat.ofrz (h : Mat W B n g r m F) (j : Nat) : W.frozen? ⟨g, j, none⟩ = false := h.outer.frozenAt j
theorem Mat.drew (h : Mat W B n g r m F) : Mat W.drew B n g r m F := ⟨h.outer, h.rows, h.inj, h.mn⟩
theorem Mat.drewN (h : Mat W B n g r m F) (k : Nat) : Mat (W.drewN k) B n g r m F := ⟨h.outer, h.rows, h.inj, h.mn⟩
theorem Mat.grown {row : Option Nat} (h : Mat W B n g r m F) (hg : W.grownBy W' row) (h1 : some g ≠ row) (h2 : ∀ i, i < m → some (r i) ≠ row) : Mat W' B n g r m F :=
  ⟨h.outer.kept hg (.inr h1), fun i hi => (h.rows i hi).kept hg (.inr (h2 i hi)), h.inj, h.mn⟩
theorem Mat.below {C : Nat} (h : Mat W B n g r m F) (hb : Below C W W') (hC : W.heap.size ≤ C) : Mat W' B n g r m F :=
  h.grown (row := none) ⟨hb.os, hb.tape, hb.output, hb.size, fun k hk _ => hb.block k (by omega)⟩ (by simp) (fun _ _ => by simp)
theorem Mat.alloc (h : Mat W B n g r m F) (o : Obj) : Mat (W.alloc o) B n g r m F := h.grown (World.grownBy_alloc W o none) (by simp) (fun _ _ => by simp)
theorem Mat.congr {F' : Nat → Nat → Int} (h : Mat W B n g r m F) (he : ∀ i j, i < m → j < n → F i j = F' i j) : Mat W B n g r m F' :=
  ⟨h.outer, fun i hi => by rw [← row_congr fun j hj => he i j hi hj]; exact h.rows i hi, h.inj, h.mn⟩
theorem Mat.set (h : Mat W B n g r m F) {i : Nat} (hi : i < m) (j : Nat) (v : Int) : Mat (W.setCell ⟨r i, j, none⟩ (.int .i64 v)) B n g r m (fun a b => if a = i ∧ b = j then v else F a b) := by
  refine ⟨own_set_other h.outer (by simpa [Value.ownBlock] using fun e => h.ne hi e.symm) _, fun a ha => ?_, h.inj, h.mn⟩
  by_cases e : a = i
  · subst e
    have := ((h.rows a ha).stored j (.int .i64 v)).1
    rw [row_set] at this
    rw [row_congr (G := fun b => if b = j then v else F a b) (fun b _ => by simp)]
    exact this
  · rw [row_congr (G := F a) (fun b _ => by simp [e])]
    exact own_set_other (h.rows a ha) (by simpa [Value.ownBlock] using fun e2 => e (h.inj a i ha hi e2)) _
/-- a cell of another's -/
theorem Mat.setOther (h : Mat W B n g r m F) {a : Addr} (h1 : g ≠ a.block) (h2 : ∀ i, i < m → r i ≠ a.block) (v : Value) : Mat (W.setCell a v) B n g r m F :=
  ⟨own_set_other h.outer (by simpa [Value.ownBlock] using h1) _, fun i hi => own_set_other (h.rows i hi) (by simpa [Value.ownBlock] using h2 i hi) _, h.inj, h.mn⟩
/-- one more row, that was laid just now -/
theorem Mat.more (h : Mat W B n g r m F) (hm : m < n) (hg : W.grownBy W' none) {k : Nat} {G : Nat → Int} (hk : W.heap.size ≤ k) (hrow : W'.ownsRow B 2 1 (.slice (some ⟨k, 0, none⟩) n n) n (row n G)) :
    Mat (W'.setCell ⟨g, m, none⟩ (.slice (some ⟨k, 0, none⟩) n n)) B n g (fun i => if i = m then k else r i) (m + 1) (fun a b => if a = m then G b else F a b) := by
  have h' := h.grown hg (by simp) (fun _ _ => by simp)
  have hgl := h.glt
  have ho := (h'.outer.stored m (.slice (some ⟨k, 0, none⟩) n n)).1
  rw [orow_set] at ho
  refine ⟨ho, fun i hi => ?_, fun i j hi hj e => ?_, by omega⟩
  · by_cases e : i = m
    · subst e
      simp only [if_true]
      exact own_set_other hrow (by simp [Value.ownBlock]; omega) _
    · simp only [if_neg e]
      exact own_set_other (h'.rows i (by omega)) (by simpa [Value.ownBlock] using h'.ne (show i < m by omega)) _
  · by_cases e1 : i = m
    · by_cases e2 : j = m
      · omega
      · have := h.rlt (show j < m by omega)
        simp [e1, e2] at e; omega
    · by_cases e2 : j = m
      · have := h.rlt (show i < m by omega)
        simp [e1, e2] at e; omega
      · simp only [if_neg e1, if_neg e2] at e
        exact h.inj i j (by omega) (by omega) e
end
end Go.Proofs.YtnkmfnnkophccaaDoor
