/- An edge less: the determinant is less. Plain. -/
import Derived.Test.YtnkmfnnkophccaaDoorBarPos
namespace Go.Proofs.YtnkmfnnkophccaaDoor

theorem rank_alg (α β p Vss Vab Vsb Vas Wss Wab Wsb Was ys ya yb : Int) (h1 : α * Vss = β * Wss + p * (ys * ys)) (h2 : α * Vab = β * Wab + p * (ya * yb)) (h3 : α * Vsb = β * Wsb + p * (ys * yb)) (h4 : α * Vas = β * Was + p * (ya * ys)) :
    Wss * (α * α * (Vss * Vab - Vsb * Vas)) = β * (α * Vss) * (Wss * Wab - Wsb * Was) + β * p * ((Wss * ya - Was * ys) * (Wss * yb - Wsb * ys)) := by
  have e : α * α * (Vss * Vab - Vsb * Vas) = (α * Vss) * (α * Vab) - (α * Vsb) * (α * Vas) := by grind
  rw [e, h1, h2, h3, h4]
  grind
/-- two eliminations side by side -/
structure Two (k : Nat) (V W : Nat → Nat → Nat → Int) (D D' : Nat → Int) : Prop where
  d0 : D 0 = 1
  d0' : D' 0 = 1
  ds : ∀ s, D (s + 1) = V s s s
  ds' : ∀ s, D' (s + 1) = W s s s
  st : ∀ s a b, s < k → s < a → a < k → s < b → b < k → D s * V (s + 1) a b = V s s s * V s a b - V s s b * V s a s
  st' : ∀ s a b, s < k → s < a → a < k → s < b → b < k → D' s * W (s + 1) a b = W s s s * W s a b - W s s b * W s a s
  ps : ∀ s, s ≤ k → 0 < D s
  ps' : ∀ s, s ≤ k → 0 < D' s
  sy : ∀ s a, s < k → s < a → a < k → W s a s = W s s a
def RInv (k : Nat) (V W : Nat → Nat → Nat → Int) (D D' : Nat → Int) (s : Nat) : Prop :=
  ∃ (q p : Int) (y : Nat → Int), 0 < q ∧ 0 ≤ p ∧ (∀ a b, s ≤ a → a < k → s ≤ b → b < k → (q * D' s) * V s a b = (q * D s) * W s a b + p * (y a * y b)) ∧ D' s ≤ D s ∧ (D' s < D s ∨ (0 < p ∧ ∃ i, s ≤ i ∧ i < k ∧ y i ≠ 0))
theorem sq_pos {x : Int} (h : x ≠ 0) : 0 < x * x := by
  rcases Int.lt_or_gt_of_ne h with h | h
  · exact Int.mul_pos_of_neg_of_neg h h
  · exact Int.mul_pos h h
theorem sq_nn (x : Int) : 0 ≤ x * x := by
  by_cases h : x = 0
  · subst h; simp
  · exact Int.le_of_lt (sq_pos h)
theorem Two.step {k : Nat} {V W : Nat → Nat → Nat → Int} {D D' : Nat → Int} (h : Two k V W D D') {s : Nat} (hs : s < k) (hR : RInv k V W D D' s) : RInv k V W D D' (s + 1) := by
  obtain ⟨q, p, y, hq, hp, hE, hle, hor⟩ := hR
  have hD := h.ps s (by omega)
  have hD' := h.ps' s (by omega)
  have hD1 := h.ps (s + 1) (by omega)
  have hD1' := h.ps' (s + 1) (by omega)
  have hpiv := hE s s (Nat.le_refl s) hs (Nat.le_refl s) hs
  rw [← h.ds, ← h.ds'] at hpiv
  -- what the pivots tell
  have hcmp : q * (D' s * D (s + 1)) = q * (D s * D' (s + 1)) + p * (y s * y s) := by grind
  have hbase : D' s * D' (s + 1) ≤ D s * D' (s + 1) := Int.mul_le_mul_of_nonneg_right hle (Int.le_of_lt hD1')
  have hge : D s * D' (s + 1) ≤ D' s * D (s + 1) := by
    have h1 := Int.mul_nonneg hp (sq_nn (y s))
    have h2 : 0 ≤ q * (D' s * D (s + 1) - D s * D' (s + 1)) := by
      have : q * (D' s * D (s + 1) - D s * D' (s + 1)) = p * (y s * y s) := by grind
      omega
    have := nonneg_of hq h2
    omega
  have hle1 : D' (s + 1) ≤ D (s + 1) := by
    have h2 : 0 ≤ D' s * (D (s + 1) - D' (s + 1)) := by
      have : D' s * (D (s + 1) - D' (s + 1)) = D' s * D (s + 1) - D' s * D' (s + 1) := by grind
      omega
    have := nonneg_of hD' h2
    omega
  have hlt1 : D' s * D' (s + 1) < D' s * D (s + 1) → D' (s + 1) < D (s + 1) := fun hlt => by
    have h2 : 0 < D' s * (D (s + 1) - D' (s + 1)) := by
      have : D' s * (D (s + 1) - D' (s + 1)) = D' s * D (s + 1) - D' s * D' (s + 1) := by grind
      omega
    have := pos_of hD' h2
    omega
  refine ⟨(q * D' s) * (q * D' s) * D s, (q * D s) * p, fun a => W s s s * y a - W s a s * y s, Int.mul_pos (Int.mul_pos (Int.mul_pos hq hD') (Int.mul_pos hq hD')) hD, Int.mul_nonneg (Int.mul_nonneg (Int.le_of_lt hq) (Int.le_of_lt hD)) hp, fun a b ha hak hb hbk => ?_, hle1, ?_⟩
  · have h1 := hE s s (Nat.le_refl s) hs (Nat.le_refl s) hs
    have h2 := hE a b (by omega) hak (by omega) hbk
    have h3 := hE s b (Nat.le_refl s) hs (by omega) hbk
    have h4 := hE a s (by omega) hak (Nat.le_refl s) hs
    have h5 := rank_alg _ _ _ _ _ _ _ _ _ _ _ _ _ _ h1 h2 h3 h4
    have h6 := h.st s a b hs (by omega) hak (by omega) hbk
    have h7 := h.st' s a b hs (by omega) hak (by omega) hbk
    rw [← h6, ← h7] at h5
    rw [h.ds, h.ds']
    show _ = _ + q * D s * p * ((W s s s * y a - W s a s * y s) * (W s s s * y b - W s b s * y s))
    rw [h.sy s b hs (by omega) hbk]
    have h8 : (q * D' s) * (q * D' s) * D s * W s s s * V (s + 1) a b = W s s s * ((q * D' s) * (q * D' s) * (D s * V (s + 1) a b)) := by grind
    have h9 : (q * D' s) * (q * D' s) * D s * V s s s * W (s + 1) a b = (q * D s) * (q * D' s * V s s s) * (D' s * W (s + 1) a b) := by grind
    rw [h8, h9, h5]
  · rcases hor with hlt | ⟨hp0, i, hi1, hi2, hi3⟩
    · left
      have := Int.mul_lt_mul_of_pos_right hlt hD1'
      exact hlt1 (by omega)
    · by_cases hys : y s = 0
      · right
        refine ⟨Int.mul_pos (Int.mul_pos hq hD) hp0, i, ?_, hi2, ?_⟩
        · have : i ≠ s := fun e => hi3 (e ▸ hys)
          omega
        · intro e
          change W s s s * y i - W s i s * y s = 0 at e
          rw [hys, Int.mul_zero, Int.sub_zero] at e
          rcases Int.mul_eq_zero.1 e with e | e
          · rw [h.ds'] at hD1'; omega
          · exact hi3 e
      · left
        have h1 := Int.mul_pos hp0 (sq_pos hys)
        have h2 : 0 < q * (D' s * D (s + 1) - D s * D' (s + 1)) := by
          have : q * (D' s * D (s + 1) - D s * D' (s + 1)) = p * (y s * y s) := by grind
          omega
        have := pos_of hq h2
        exact hlt1 (by omega)
theorem Two.less {k : Nat} {V W : Nat → Nat → Nat → Int} {D D' : Nat → Int} (h : Two k V W D D') (y : Nat → Int) (h0 : ∀ a b, a < k → b < k → V 0 a b = W 0 a b + y a * y b) (hy : ∃ i, i < k ∧ y i ≠ 0) : D' k < D k := by
  have key : ∀ s, s ≤ k → RInv k V W D D' s := fun s => by
    induction s with
    | zero =>
      intro _
      obtain ⟨i, hi, hyi⟩ := hy
      refine ⟨1, 1, y, by decide, by decide, fun a b _ ha _ hb => ?_, by rw [h.d0, h.d0']; exact Int.le_refl _, .inr ⟨by decide, i, Nat.zero_le i, hi, hyi⟩⟩
      rw [h.d0, h.d0', h0 a b ha hb]; omega
    | succ s ih => exact fun hs => h.step (by omega) (ih (by omega))
  obtain ⟨q, p, y', _, _, _, _, hor⟩ := key k (Nat.le_refl k)
  rcases hor with h | ⟨_, i, h1, h2, _⟩
  · exact h
  · omega
def yE (i j a : Nat) : Int := (if a = i then 1 else 0) - (if a = j then 1 else 0)
theorem ssum_ind (x : Nat) (d : Int) : ∀ (n s : Nat), ssum (fun b => if b = x then d else 0) s n = if s ≤ x ∧ x < s + n then d else 0
  | 0, s => by simp only [ssum]; rw [if_neg (by omega)]
  | n + 1, s => by
    simp only [ssum]
    rw [ssum_ind x d n (s + 1)]
    by_cases e : s = x
    · subst e; rw [if_pos rfl, if_neg (by omega), if_pos (by omega)]; omega
    · rw [if_neg e]
      by_cases e2 : s + 1 ≤ x ∧ x < s + 1 + n
      · rw [if_pos e2, if_pos (by omega)]; omega
      · rw [if_neg e2, if_neg (by omega)]; omega
theorem lapM_less {k i j : Nat} {M M' : Nat → Nat → Int} (hij : i ≠ j) (hi : i ≤ k) (hj : j ≤ k) (hM : ∀ a b, M a b = M' a b + if (a = i ∧ b = j) ∨ (a = j ∧ b = i) then 1 else 0) {a b : Nat} : lapM k M a b = lapM k M' a b + yE i j a * yE i j b := by
  unfold lapM
  by_cases e : a = b
  · subst e
    rw [if_pos rfl, if_pos rfl]
    have h1 : ssum (M a) 0 (k + 1) = ssum (fun b => 1 * M' a b + 1 * (if b = (if a = i then j else i) then (if a = i ∨ a = j then 1 else 0) else 0)) 0 (k + 1) := ssum_congr fun b _ _ => by
      rw [hM a b]
      by_cases e1 : a = i
      · subst e1
        by_cases e2 : b = j
        · subst e2; simp
        · have e3 : ¬ ((a = a ∧ b = j) ∨ (a = j ∧ b = a)) := by omega
          rw [if_neg e3, if_pos rfl, if_neg e2]; omega
      · by_cases e2 : a = j
        · subst e2
          by_cases e3 : b = i
          · subst e3; simp [e1]
          · simp [e1, e3]
        · simp [e1, e2]
    rw [h1, ssum_lin, ssum_ind]
    unfold yE
    by_cases e1 : a = i
    · subst e1
      rw [if_pos rfl, if_pos rfl, if_neg hij, if_pos (show 0 ≤ j ∧ j < 0 + (k + 1) by omega), if_pos (.inl rfl)]; omega
    · by_cases e2 : a = j
      · subst e2
        rw [if_neg e1, if_neg e1, if_pos rfl, if_pos (show 0 ≤ i ∧ i < 0 + (k + 1) by omega), if_pos (.inr rfl)]; omega
      · rw [if_neg e1, if_neg e1, if_neg e2, if_neg (show ¬ (a = i ∨ a = j) by omega)]; simp
  · rw [if_neg e, if_neg e, hM a b]
    unfold yE
    by_cases h1 : a = i ∧ b = j
    · obtain ⟨rfl, rfl⟩ := h1
      rw [if_pos (.inl ⟨rfl, rfl⟩), if_pos rfl, if_neg e, if_neg (Ne.symm e), if_pos rfl]; omega
    · by_cases h2 : a = j ∧ b = i
      · obtain ⟨rfl, rfl⟩ := h2
        rw [if_pos (.inr ⟨rfl, rfl⟩), if_neg e, if_pos rfl, if_pos rfl, if_neg (Ne.symm e)]; omega
      · rw [if_neg (by omega)]
        by_cases a1 : a = i
        · have b1 : b ≠ i := by omega
          have b2 : b ≠ j := by omega
          rw [if_neg b1, if_neg b2]; omega
        · by_cases a2 : a = j
          · have b1 : b ≠ i := by omega
            have b2 : b ≠ j := by omega
            rw [if_neg b1, if_neg b2]; omega
          · rw [if_neg a1, if_neg a2]; omega
theorem two_of {k : Nat} {M M' : Nat → Nat → Int} (h : GrW k M) (h' : GrW k M') (hk : k ≤ 9) : Two k (Vt k (lapM k M)) (Vt k (lapM k M')) (Dt k (lapM k M)) (Dt k (lapM k M')) where
  d0 := Dt_zero k _
  d0' := Dt_zero k _
  ds := Dt_succ k _
  ds' := Dt_succ k _
  st := fun s a b hs _ _ hb hbk => bareiss (fun t ht => by have := (elim_all h hk s (by omega)).2 t ht; omega) hb hbk
  st' := fun s a b hs _ _ hb hbk => bareiss (fun t ht => by have := (elim_all h' hk s (by omega)).2 t ht; omega) hb hbk
  ps := fun s hs => (elim_all h hk s hs).1.pos
  ps' := fun s hs => (elim_all h' hk s hs).1.pos
  sy := fun s a hs ha hak => (elim_all h' hk s (by omega)).1.sym a s (by omega) hak (Nat.le_refl s) hs
/-- with an edge less there are fewer trees -/
theorem fewer_trees {k i j : Nat} {M M' : Nat → Nat → Int} (h : GrW k M) (h' : GrW k M') (hk : k ≤ 9) (hij : i ≠ j) (hi : i ≤ k) (hj : j ≤ k) (hM : ∀ a b, M a b = M' a b + if (a = i ∧ b = j) ∨ (a = j ∧ b = i) then 1 else 0) : Dt k (lapM k M') k < Dt k (lapM k M) k := by
  refine (two_of h h' hk).less (yE i j) (fun a b _ hb => ?_) ?_
  · unfold Vt
    rw [Ph_zero k _ _ hb, Ph_zero k _ _ hb]
    exact lapM_less hij hi hj hM
  · by_cases e : i < k
    · exact ⟨i, e, by unfold yE; rw [if_pos rfl, if_neg hij]; decide⟩
    · exact ⟨j, by omega, by unfold yE; rw [if_neg (Ne.symm hij), if_pos rfl]; decide⟩
end Go.Proofs.YtnkmfnnkophccaaDoor
