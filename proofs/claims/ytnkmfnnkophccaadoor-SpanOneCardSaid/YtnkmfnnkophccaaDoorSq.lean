/- Rows of rows of int of the call's own, made by append: a square. -/
import Derived.Test.YtnkmfnnkophccaaDoorRows
import Derived.Test.YtnkmfnnkophccaaDoorRow
import Derived.Test.YtnkmfnnkophccaaDoorBase
namespace Go.Proofs.YtnkmfnnkophccaaDoor
open Go.RowKit

theorem tiQ1 : TI Tryd.prog 32 3 (.int .i64 0) 1 8 := TI.mk' Tryd.underlying32 (by kernel_rfl) rfl (by decide)
theorem tiQ2 : TI Tryd.prog 51 32 (.slice none 0 0) 1 24 := TI.mk' Tryd.underlying51 (by kernel_rfl) rfl (by decide)
theorem own_twoQ {W : World} {b b' e e' sz sz' n n' : Nat} {v v' : Value} {xs xs' : List Value} (h : W.ownsRow b e sz v n xs) (h' : W.ownsRow b' e' sz' v' n' xs') (hne : e ≠ e') {g : Nat} (hg : v.ownBlock = some g) : v'.ownBlock ≠ some g := by
  rcases h.2 with ⟨rfl, _⟩ | ⟨g1, c1, cur1, rfl, _, h1, _⟩
  · cases hg
  · cases hg
    rcases h'.2 with ⟨rfl, _⟩ | ⟨g2, c2, cur2, rfl, _, h2, _⟩
    · simp [Value.ownBlock]
    · intro e2
      cases e2
      rw [h1] at h2
      cases h2
      exact hne rfl
def rowsQ (n m : Nat) (r c : Nat → Nat) : List Value := (List.range m).map fun i => .slice (some ⟨r i, 0, none⟩) n (c i)
theorem rowsQ_get {n m i : Nat} {r c : Nat → Nat} (h : i < m) : (rowsQ n m r c)[i]? = some (.slice (some ⟨r i, 0, none⟩) n (c i)) := by simp [rowsQ, h]
theorem rowsQ_snoc (n m : Nat) (r c : Nat → Nat) : rowsQ n (m + 1) r c = rowsQ n m r c ++ [.slice (some ⟨r m, 0, none⟩) n (c m)] := by simp [rowsQ, List.range_succ]
theorem rowsQ_congr {n m : Nat} {r r' c c' : Nat → Nat} (h : ∀ i, i < m → r i = r' i ∧ c i = c' i) : rowsQ n m r c = rowsQ n m r' c' := List.map_congr_left fun i hi => by
  have := h i (by simpa using hi)
  rw [this.1, this.2]
structure Sq (W : World) (B n : Nat) (v : Value) (r c : Nat → Nat) (m : Nat) (F : Nat → Nat → Int) : Prop where
  outer : W.ownsRow B 32 1 v m (rowsQ n m r c)
  rows : ∀ i, i < m → W.ownsRow B 3 1 (.slice (some ⟨r i, 0, none⟩) n (c i)) n (row n (F i))
  inj : ∀ i j, i < m → j < m → r i = r j → i = j
section
variable {W W' : World} {B n m : Nat} {v : Value} {r c : Nat → Nat} {F : Nat → Nat → Int}
theorem Sq.nil (W : World) (B n : Nat) (r c : Nat → Nat) (F : Nat → Nat → Int) : Sq W B n (.slice none 0 0) r c 0 F :=
  ⟨World.ownsRow_nil _ _ _ _, fun i hi => absurd hi (by omega), fun i j hi => absurd hi (by omega)⟩
theorem Sq.rlt (h : Sq W B n v r c m F) {i : Nat} (hi : i < m) : B ≤ r i ∧ r i < W.heap.size := (h.rows i hi).lt (r i) rfl
theorem Sq.ne (h : Sq W B n v r c m F) {i : Nat} (hi : i < m) : v.ownBlock ≠ some (r i) := own_twoQ (h.rows i hi) h.outer (by decide) rfl
theorem Sq.out (h : Sq W B n v r c m F) {i : Nat} (hi : i < m) : ∃ g cap, v = .slice (some ⟨g, 0, none⟩) m cap ∧ B ≤ g ∧ g < W.heap.size ∧ W.cell? ⟨g, i, none⟩ = some (.slice (some ⟨r i, 0, none⟩) n (c i)) := by
  rcases h.outer.2 with ⟨rfl, e⟩ | ⟨g, cap, cur, rfl, hb, hg, _⟩
  · omega
  · have := h.outer.lt g rfl
    exact ⟨g, cap, rfl, this.1, this.2, (h.outer.cellAt i (by omega)).trans (rowsQ_get hi)⟩
theorem Sq.cell (h : Sq W B n v r c m F) {i j : Nat} (hi : i < m) (hj : j < n) : W.cell? ⟨r i, j, none⟩ = some (.int .i64 (F i j)) :=
  ((h.rows i hi).cellAt j (by omega)).trans (row_get hj)
theorem Sq.frz (h : Sq W B n v r c m F) {i : Nat} (hi : i < m) (j : Nat) : W.frozen? ⟨r i, j, none⟩ = false := (h.rows i hi).frozenAt j
theorem Sq.drew (h : Sq W B n v r c m F) : Sq W.drew B n v r c m F := ⟨h.outer, h.rows, h.inj⟩
theorem Sq.drewN (h : Sq W B n v r c m F) (k : Nat) : Sq (W.drewN k) B n v r c m F := ⟨h.outer, h.rows, h.inj⟩
theorem Sq.grown {row : Option Nat} (h : Sq W B n v r c m F) (hg : W.grownBy W' row) (h1 : v.ownBlock = none ∨ v.ownBlock ≠ row) (h2 : ∀ i, i < m → some (r i) ≠ row) : Sq W' B n v r c m F :=
  ⟨h.outer.kept hg h1, fun i hi => (h.rows i hi).kept hg (.inr (h2 i hi)), h.inj⟩
theorem Sq.below {C : Nat} (h : Sq W B n v r c m F) (hb : Below C W W') (hC : W.heap.size ≤ C) : Sq W' B n v r c m F :=
  h.grown (row := none) ⟨hb.os, hb.tape, hb.output, hb.size, fun k hk _ => hb.block k (by omega)⟩ (by cases v.ownBlock <;> simp) (fun _ _ => by simp)
theorem Sq.alloc (h : Sq W B n v r c m F) (o : Obj) : Sq (W.alloc o) B n v r c m F := h.grown (World.grownBy_alloc W o none) (by cases v.ownBlock <;> simp) (fun _ _ => by simp)
theorem Sq.congr {F' : Nat → Nat → Int} (h : Sq W B n v r c m F) (he : ∀ i j, i < m → j < n → F i j = F' i j) : Sq W B n v r c m F' :=
  ⟨h.outer, fun i hi => by rw [← row_congr fun j hj => he i j hi hj]; exact h.rows i hi, h.inj⟩
theorem Sq.set (h : Sq W B n v r c m F) {i : Nat} (hi : i < m) (j : Nat) (x : Int) : Sq (W.setCell ⟨r i, j, none⟩ (.int .i64 x)) B n v r c m (fun a b => if a = i ∧ b = j then x else F a b) := by
  refine ⟨own_set_other h.outer (h.ne hi) _, fun a ha => ?_, h.inj⟩
  by_cases e : a = i
  · subst e
    have := ((h.rows a ha).stored j (.int .i64 x)).1
    rw [row_set] at this
    rw [row_congr (G := fun b => if b = j then x else F a b) (fun b _ => by simp)]
    exact this
  · rw [row_congr (G := F a) (fun b _ => by simp [e])]
    exact own_set_other (h.rows a ha) (by simpa [Value.ownBlock] using fun e2 => e (h.inj a i ha hi e2)) _
/-- one more row -/
theorem Sq.more {v' : Value} {k cap : Nat} {G : Nat → Int} (h : Sq W B n v r c m F) (hrow : W.ownsRow B 3 1 (.slice (some ⟨k, 0, none⟩) n cap) n (row n G)) (hk : ∀ i, i < m → r i ≠ k)
    (ho : W'.ownsRow B 32 1 v' (m + 1) (rowsQ n m r c ++ [.slice (some ⟨k, 0, none⟩) n cap])) (hg : W.grownBy W' v.ownBlock) :
    Sq W' B n v' (fun i => if i = m then k else r i) (fun i => if i = m then cap else c i) (m + 1) (fun a b => if a = m then G b else F a b) := by
  refine ⟨?_, fun i hi => ?_, fun i j hi hj e => ?_⟩
  · rw [rowsQ_snoc, rowsQ_congr (r' := r) (c' := c) (fun i hi => by simp [show i ≠ m by omega])]
    simpa using ho
  · by_cases e : i = m
    · subst e
      simp only [if_true]
      exact hrow.kept hg (.inr fun e => own_twoQ hrow h.outer (by decide) (g := k) rfl e.symm)
    · simp only [if_neg e]
      exact (h.rows i (by omega)).kept hg (.inr fun e2 => h.ne (show i < m by omega) e2.symm)
  · by_cases e1 : i = m
    · by_cases e2 : j = m
      · omega
      · simp [e1, e2] at e
        exact absurd e.symm (hk j (by omega))
    · by_cases e2 : j = m
      · simp [e1, e2] at e
        exact absurd e (hk i (by omega))
      · simp only [if_neg e1, if_neg e2] at e
        exact h.inj i j (by omega) (by omega) e
end
end Go.Proofs.YtnkmfnnkophccaaDoor
