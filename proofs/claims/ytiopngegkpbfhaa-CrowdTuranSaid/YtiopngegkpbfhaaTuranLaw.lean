/- TURAN, of CARO and WEI: no program in sight. -/
import Derived.Test.YtiopngegkpbfhaaCrowdLaw
namespace Go.Proofs.Ytiopngegkpbfhaa
open Go.RowKit

theorem one_two {q x S N : Int} (hq : 0 ≤ q) (hx : q * x = 2520) : 2 * 2520 * (N * S) ≤ q * (S * S) + 2520 * (N * N) * x := by
  have h : 0 ≤ q * ((S - N * x) * (S - N * x)) := Int.mul_nonneg hq (by
    rcases Int.le_total 0 (S - N * x) with h | h
    · exact Int.mul_nonneg h h
    · have := Int.mul_nonneg (Int.neg_nonneg_of_nonpos h) (Int.neg_nonneg_of_nonpos h)
      rwa [Int.neg_mul_neg] at this)
  have e : q * ((S - N * x) * (S - N * x)) = q * (S * S) - 2 * ((q * x) * (N * S)) + (q * x) * (N * N) * x := by grind
  rw [e, hx] at h
  grind
theorem lsum_add (U : List Nat) (g h : Nat → Nat) : lsum U (fun i => g i + h i) = lsum U g + lsum U h := by
  induction U with
  | nil => rfl
  | cons x U ih => rw [lsum_cons, lsum_cons, lsum_cons, ih]; omega
theorem lsum_mul (U : List Nat) (c : Nat) (g : Nat → Nat) : lsum U (fun i => c * g i) = c * lsum U g := by
  induction U with
  | nil => simp [lsum]
  | cons x U ih => rw [lsum_cons, lsum_cons, ih, Nat.mul_add]
/-- of numbers from 1 to 10: the means -/
theorem means (n : Nat) (x : Nat → Nat) (hx : ∀ i, i < n → 1 ≤ x i ∧ x i ≤ 10) (r : Nat) (hr : lsum (List.range n) (fun i => 2520 / x i) ≤ 2520 * r) (hn : 0 < n) : n * n ≤ lsum (List.range n) x * r := by
  have hq : ∀ i, i < n → 2520 / x i * x i = 2520 := fun i hi => by
    have := hx i hi
    have h : x i = 1 ∨ x i = 2 ∨ x i = 3 ∨ x i = 4 ∨ x i = 5 ∨ x i = 6 ∨ x i = 7 ∨ x i = 8 ∨ x i = 9 ∨ x i = 10 := by omega
    rcases h with h | h | h | h | h | h | h | h | h | h <;> rw [h]
  have hS : n ≤ lsum (List.range n) x := by
    have := lsum_le (U := List.range n) (g := fun _ => 1) (h := x) fun i hi => (hx i (List.mem_range.1 hi)).1
    rw [lsum_const] at this
    simpa using this
  generalize hSd : lsum (List.range n) x = S at *
  have hi : ∀ i ∈ List.range n, 5040 * (n * S) ≤ S * S * (2520 / x i) + 2520 * (n * n) * x i := fun i hi => by
    have h1 := hq i (List.mem_range.1 hi)
    have h2 := one_two (q := ((2520 / x i : Nat) : Int)) (x := (x i : Int)) (S := (S : Int)) (N := (n : Int)) (Int.natCast_nonneg _) (by rw [← Int.natCast_mul, h1]; rfl)
    have h3 : ((5040 * (n * S) : Nat) : Int) ≤ ((S * S * (2520 / x i) + 2520 * (n * n) * x i : Nat) : Int) := by
      generalize 2520 / x i = q at *
      rw [Int.natCast_mul, Int.natCast_mul, Int.natCast_add, Int.natCast_mul, Int.natCast_mul, Int.natCast_mul, Int.natCast_mul, Int.natCast_mul, show ((5040 : Nat) : Int) = 5040 from rfl, show ((2520 : Nat) : Int) = 2520 from rfl]
      clear h1 hq hx
      grind
    exact Int.ofNat_le.1 h3
  have h1 := lsum_le hi
  rw [lsum_const, lsum_add, lsum_mul, lsum_mul, hSd, List.length_range] at h1
  have h2 : S * S * lsum (List.range n) (fun i => 2520 / x i) ≤ S * S * (2520 * r) := Nat.mul_le_mul_left _ hr
  have h3 : n * (5040 * (n * S)) ≤ S * S * (2520 * r) + 2520 * (n * n) * S := Nat.le_trans h1 (Nat.add_le_add_right h2 _)
  have h4 : 2520 * S * (n * n) ≤ 2520 * S * (S * r) := by
    have e1 : n * (5040 * (n * S)) = 2520 * S * (n * n) + 2520 * (n * n) * S := by grind
    have e2 : S * S * (2520 * r) = 2520 * S * (S * r) := by grind
    omega
  exact Nat.le_of_mul_le_mul_left h4 (by omega)
theorem sum_range_getD (l : List Nat) (g : Nat → Nat) : lsum (List.range l.length) (fun i => g (l.getD i 0)) = (l.map g).sum := by
  unfold lsum
  congr 1
  apply List.ext_getElem?
  intro i
  by_cases h : i < l.length
  · simp [List.getD, h]
  · simp [h]
theorem turan_law {n b : Nat} (hn : n ≤ 10) (h0 : 0 < n) {es : List E} (hok : ∀ e ∈ es, okE n e) (hd : ∀ j, j < es.length → echkAt n es j = 0) (hm : MaxCl (nearW n es) n b) :
    1 ≤ popc 10 b ∧ n * n ≤ (n * n - 2 * es.length) * popc 10 b ∧ 2 * es.length ≤ n * n := by
  have hsum := sum_near hn es hok hd es.length (Nat.le_refl _)
  rw [List.take_of_length_le (Nat.le_refl _)] at hsum
  have hdeg : lsum (List.range n) (degE es) = 2 * es.length := by
    rw [← hsum, ← sum_range_getD (nearW n es) (popc 10), nearW_length]
    unfold lsum
    congr 1
    exact List.map_congr_left fun i hi => by
      have h := deg_near hn es hok hd i (List.mem_range.1 hi) es.length (Nat.le_refl _)
      rw [List.take_of_length_le (Nat.le_refl _)] at h
      exact h.symm
  have symm : ∀ x y, (decide (x ≠ y) && !adj es x y) = (decide (y ≠ x) && !adj es y x) := fun x y => by
    rw [adj_symm es x y]
    congr 1
    exact decide_eq_decide.2 ⟨fun h => h.symm, fun h => h.symm⟩
  have irr : ∀ x, (decide (x ≠ x) && !adj es x x) = false := fun x => by simp
  have hdg : ∀ i, i < n → dg (fun x y => decide (x ≠ y) && !adj es x y) (List.range n) i + 1 = n - degE es i ∧ degE es i < n := fun i hi => by
    have h1 := closed_len (fun x y => decide (x ≠ y) && !adj es x y) i (irr i) (List.range n) List.nodup_range (List.mem_range.2 hi)
    have h2 := dg_deg hn hok hd hi
    have h3 := lsum_split (adj es i) (fun _ => 1) (List.range n)
    rw [lsum_const, lsum_const, lsum_const, List.length_range] at h3
    have h4 : (List.range n).filter (fun x => x == i || (decide (i ≠ x) && !adj es i x)) = (List.range n).filter (fun x => !adj es i x) := by
      apply List.filter_congr
      intro y _
      by_cases h : y = i
      · subst h; simp [adj_irr hok]
      · have : ¬ i = y := fun e => h e.symm
        simp [h, this]
    rw [h4] at h1
    unfold dg at h2
    rw [← h1, ← h2]
    omega
  obtain ⟨s, h1, h2, h3⟩ := caro (fun x y => decide (x ≠ y) && !adj es x y) symm irr (fun d => 2520 / (d + 1)) 2520 (fun d e => f2520_anti d e) f2520 n (List.range n) (by simp) List.nodup_range
  have h4 : isCl (nearW n es) (lw n s) := (isCl_near hok (lw_lt n s)).2 fun i j hj hi hjs => by
    have h := h2 i ((lw_bit s i).1 hi).2 j ((lw_bit s j).1 hjs).2
    have hne : i ≠ j := by omega
    simpa [hne] using h
  have h5 := Nat.le_trans (lw_popc hn h1) (hm.2.2 _ (lw_lt n s) h4)
  have h6 : lsum (List.range n) (fun i => 2520 / (n - degE es i)) ≤ 2520 * popc 10 b := by
    have e : lsum (List.range n) (fun i => 2520 / (n - degE es i)) = lsum (List.range n) (fun i => 2520 / (dg (fun x y => decide (x ≠ y) && !adj es x y) (List.range n) i + 1)) := by
      unfold lsum
      congr 1
      exact List.map_congr_left fun i hi => by rw [(hdg i (List.mem_range.1 hi)).1]
    rw [e]
    exact Nat.le_trans h3 (Nat.mul_le_mul_left _ h5)
  have h7 := means n (fun i => n - degE es i) (fun i hi => by have := (hdg i hi).2; omega) (popc 10 b) h6 h0
  have h8 : lsum (List.range n) (fun i => n - degE es i) + 2 * es.length = n * n := by
    rw [← hdeg, ← lsum_add]
    have : lsum (List.range n) (fun i => n - degE es i + degE es i) = lsum (List.range n) (fun _ => n) := by
      unfold lsum
      congr 1
      exact List.map_congr_left fun i hi => by have := (hdg i (List.mem_range.1 hi)).2; omega
    rw [this, lsum_const, List.length_range]
  have h9 : lsum (List.range n) (fun i => n - degE es i) = n * n - 2 * es.length := by omega
  rw [h9] at h7
  refine ⟨?_, h7, by omega⟩
  refine Classical.byContradiction fun h => ?_
  have : popc 10 b = 0 := by omega
  rw [this, Nat.mul_zero] at h7
  have := Nat.mul_pos h0 h0
  omega
end Go.Proofs.Ytiopngegkpbfhaa
