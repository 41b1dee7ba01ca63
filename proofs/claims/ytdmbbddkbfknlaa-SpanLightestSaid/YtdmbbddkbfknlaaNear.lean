/- XNear's plain half: for seats without graph.Near (fillall with OV=span takes it in XNear's place). -/
import Derived.Test.YtdmbbddkbfknlaaCheck
namespace Go.Proofs.Ytdmbbddkbfknlaa
open Go.RowKit

def orAt (l : List Nat) (i j : Nat) : List Nat := l.set i (l.getD i 0 ||| 2 ^ j)
def nstep (l : List Nat) (e : E) : List Nat := orAt (orAt l e.1.toNat e.2.1.toNat) e.2.1.toNat e.1.toNat
def nearW (n : Nat) (es : List E) : List Nat := es.foldl nstep (List.replicate n 0)
theorem orAt_length (l : List Nat) (i j : Nat) : (orAt l i j).length = l.length := by simp [orAt]
theorem nearW_length (n : Nat) (es : List E) : (nearW n es).length = n := by
  have : ∀ l : List Nat, (es.foldl nstep l).length = l.length := by
    induction es with
    | nil => simp
    | cons e es ih => intro l; simp [ih, nstep, orAt_length]
  simp [nearW, this]
theorem nearW_snoc (n : Nat) (es : List E) (e : E) : nearW n (es ++ [e]) = nstep (nearW n es) e := by simp [nearW]
theorem orAt_lt {l : List Nat} {i j : Nat} (h : ∀ x ∈ l, x < 1024) (hj : j < 10) : ∀ x ∈ orAt l i j, x < 1024 := by
  intro x hx
  rcases List.mem_or_eq_of_mem_set hx with hx | rfl
  · exact h x hx
  · have hg : l.getD i 0 < 1024 := by
      by_cases hi : i < l.length
      · simpa [List.getD, hi] using h _ (List.getElem_mem hi)
      · simp [List.getD, hi]
    exact Nat.or_lt_two_pow (n := 10) hg (Nat.pow_lt_pow_right (by omega) hj)
theorem getD_lt1024 {l : List Nat} (h : ∀ x ∈ l, x < 1024) (i : Nat) : l.getD i 0 < 1024 := by
  by_cases hi : i < l.length
  · simpa [List.getD, hi] using h _ (List.getElem_mem hi)
  · simp [List.getD, hi]
/-- an edge between two of n nodes -/
def okE (n : Nat) (e : E) : Prop := ∃ (x y : Nat), e.1 = (x : Int) ∧ e.2.1 = (y : Int) ∧ x < n ∧ y < n ∧ x ≠ y
theorem nearW_lt {n : Nat} (hn : n ≤ 10) {es : List E} (h : ∀ e ∈ es, okE n e) : ∀ x ∈ nearW n es, x < 1024 := by
  have : ∀ l : List Nat, (∀ x ∈ l, x < 1024) → ∀ x ∈ es.foldl nstep l, x < 1024 := by
    induction es with
    | nil => intro l h; simpa using h
    | cons e es ih =>
      intro l hl
      obtain ⟨x, y, hx, hy, hx', hy', _⟩ := h e (by simp)
      refine ih (fun e' he' => h e' (List.mem_cons_of_mem _ he')) _ ?_
      unfold nstep
      rw [hx, hy, Int.toNat_natCast, Int.toNat_natCast]
      exact orAt_lt (orAt_lt hl (by omega)) (by omega)
  exact this _ (fun x hx => by rw [List.mem_replicate] at hx; omega)
/-- what a graph with nothing wrong is -/
theorem gchk_ok {N : Int} {es : List E} (h : gchk N es = 0) : 0 ≤ N ∧ N ≤ 10 ∧ es.length ≤ 45 ∧ (∀ e ∈ es, okE N.toNat e) ∧ (∀ j, j < es.length → echkAt N es j = 0) := by
  have hL : glarge N es.length = false := by
    cases hl : glarge N es.length
    · rfl
    · rw [gchk_large hl] at h; omega
  have h1 := glarge_false hL
  rw [gchk_small hL] at h
  have h2 := gscan_zero h
  refine ⟨h1.1, h1.2.1, h1.2.2, fun e he => ?_, h2⟩
  obtain ⟨j, hj, rfl⟩ := List.mem_iff_getElem.1 he
  have := h2 j hj
  rw [echkAt, show es.getD j (0, 0, 0) = es[j] by simp [List.getD, hj]] at this
  generalize es[j] = e at this
  obtain ⟨a, b, c⟩ := e
  unfold echk at this
  split at this
  · omega
  · rename_i ho
    split at this
    · omega
    · rename_i hne
      simp [outE] at ho
      simp at hne
      refine ⟨a.toNat, b.toNat, ?_, ?_, by omega, by omega, by omega⟩ <;> simp only <;> omega

end Go.Proofs.Ytdmbbddkbfknlaa
