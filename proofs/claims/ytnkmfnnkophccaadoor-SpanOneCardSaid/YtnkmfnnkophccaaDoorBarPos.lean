/- The elimination of a linked graph's matrix: all stays above 0, and small. Plain. -/
import Derived.Test.YtnkmfnnkophccaaDoorBareiss
namespace Go.Proofs.YtnkmfnnkophccaaDoor

theorem pos_of {D x : Int} (hD : 0 < D) (h : 0 < D * x) : 0 < x := by
  rcases Int.lt_trichotomy x 0 with hx | hx | hx
  · have := Int.mul_neg_of_pos_of_neg hD hx; omega
  · subst hx; simp at h
  · exact hx
theorem nonneg_of {D x : Int} (hD : 0 < D) (h : 0 ≤ D * x) : 0 ≤ x := by
  rcases Int.lt_or_le x 0 with hx | hx
  · have := Int.mul_neg_of_pos_of_neg hD hx; omega
  · exact hx
theorem nonpos_of {D x : Int} (hD : 0 < D) (h : D * x ≤ 0) : x ≤ 0 := by
  rcases Int.lt_or_le 0 x with hx | hx
  · have := Int.mul_pos hD hx; omega
  · exact hx
theorem neg_of {D x : Int} (hD : 0 < D) (h : D * x < 0) : x < 0 := by
  rcases Int.lt_or_le x 0 with hx | hx
  · exact hx
  · have := Int.mul_nonneg (Int.le_of_lt hD) hx; omega
theorem mul_le_z {a b : Int} (ha : 0 ≤ a) (hb : b ≤ 0) : a * b ≤ 0 := Int.mul_nonpos_of_nonneg_of_nonpos ha hb
theorem mul_zz {a b : Int} (ha : a ≤ 0) (hb : b ≤ 0) : 0 ≤ a * b := by
  have := Int.mul_nonneg (show 0 ≤ -a by omega) (show 0 ≤ -b by omega)
  rw [Int.neg_mul_neg] at this; exact this
/-- a sum from s on -/
def ssum (f : Nat → Int) : Nat → Nat → Int
  | _, 0 => 0
  | s, n + 1 => f s + ssum f (s + 1) n
theorem ssum_lin (x y : Int) (f g : Nat → Int) : ∀ (n s : Nat), ssum (fun b => x * f b + y * g b) s n = x * ssum f s n + y * ssum g s n
  | 0, s => by simp [ssum]
  | n + 1, s => by simp only [ssum]; rw [ssum_lin x y f g n (s + 1)]; grind
theorem ssum_congr {f g : Nat → Int} : ∀ {n s : Nat}, (∀ b, s ≤ b → b < s + n → f b = g b) → ssum f s n = ssum g s n
  | 0, _, _ => rfl
  | n + 1, s, h => by simp only [ssum]; rw [h s (by omega) (by omega), ssum_congr fun b h1 h2 => h b (by omega) (by omega)]
theorem ssum_le0 {f : Nat → Int} : ∀ {n s : Nat}, (∀ b, s ≤ b → b < s + n → f b ≤ 0) → ssum f s n ≤ 0
  | 0, _, _ => by simp [ssum]
  | n + 1, s, h => by
    have h1 := h s (by omega) (by omega)
    have h2 := ssum_le0 (f := f) (n := n) (s := s + 1) fun b h1 h2 => h b (by omega) (by omega)
    simp only [ssum]; omega
theorem ssum_le1 {f : Nat → Int} {a : Nat} : ∀ {n s : Nat}, s ≤ a → a < s + n → (∀ b, s ≤ b → b < s + n → b ≠ a → f b ≤ 0) → ssum f s n ≤ f a
  | 0, _, h1, h2, _ => absurd h2 (by omega)
  | n + 1, s, h1, h2, h => by
    simp only [ssum]
    by_cases e : a = s
    · subst e
      have := ssum_le0 (f := f) (n := n) (s := a + 1) fun b k1 k2 => h b (by omega) (by omega) (by omega)
      omega
    · have := h s (by omega) (by omega) (fun e2 => e e2.symm)
      have := ssum_le1 (f := f) (a := a) (n := n) (s := s + 1) (by omega) (by omega) fun b k1 k2 k3 => h b (by omega) (by omega) k3
      omega
theorem ssum_le2 {f : Nat → Int} {a b : Nat} (hab : a ≠ b) : ∀ {n s : Nat}, s ≤ a → a < s + n → s ≤ b → b < s + n → (∀ c, s ≤ c → c < s + n → c ≠ a → f c ≤ 0) → ssum f s n ≤ f a + f b
  | 0, _, _, h2, _, _, _ => absurd h2 (by omega)
  | n + 1, s, h1, h2, h3, h4, h => by
    simp only [ssum]
    by_cases e : a = s
    · subst e
      have := ssum_le1 (f := f) (a := b) (n := n) (s := a + 1) (by omega) (by omega) fun c k1 k2 _ => h c (by omega) (by omega) (by omega)
      omega
    · by_cases e2 : b = s
      · subst e2
        have := ssum_le1 (f := f) (a := a) (n := n) (s := b + 1) (by omega) (by omega) fun c k1 k2 k3 => h c (by omega) (by omega) k3
        omega
      · have := h s (by omega) (by omega) (fun e3 => e e3.symm)
        have := ssum_le2 (f := f) hab (n := n) (s := s + 1) (by omega) (by omega) (by omega) (by omega) fun c k1 k2 k3 => h c (by omega) (by omega) k3
        omega
/-- what is left behind s steps: a linked graph's matrix, times D -/
structure St (k s : Nat) (V : Nat → Nat → Int) (D : Int) : Prop where
  sym : ∀ a b, s ≤ a → a < k → s ≤ b → b < k → V a b = V b a
  off : ∀ a b, s ≤ a → a < k → s ≤ b → b < k → a ≠ b → V a b ≤ 0
  row : ∀ a, s ≤ a → a < k → 0 ≤ ssum (V a) s (k - s)
  con : ∀ X : Nat → Prop, (∃ a, s ≤ a ∧ a < k ∧ X a) → ∃ a, s ≤ a ∧ a < k ∧ X a ∧ ((∃ b, s ≤ b ∧ b < k ∧ ¬ X b ∧ V a b < 0) ∨ 0 < ssum (V a) s (k - s))
  pos : 0 < D
  dia : ∀ a, s ≤ a → a < k → V a a ≤ 9 * D
  bnd : D ≤ 9 ^ s
section
variable {k s : Nat} {V V' : Nat → Nat → Int} {D : Int}
theorem ssum_head (f : Nat → Int) (h : s < k) : ssum f s (k - s) = f s + ssum f (s + 1) (k - (s + 1)) := by
  rw [show k - s = (k - (s + 1)) + 1 by omega]; rfl
theorem St.next_pos (h : St k s V D) (hs : s < k) : 0 < V s s := by
  obtain ⟨a, ha1, ha2, rfl, hor⟩ := h.con (fun x => x = s) ⟨s, Nat.le_refl s, hs, rfl⟩
  have hoff : ∀ b, a + 1 ≤ b → b < a + 1 + (k - (a + 1)) → V a b ≤ 0 := fun b h1 h2 => h.off a b (Nat.le_refl a) hs (by omega) (by omega) (by omega)
  have hr := h.row a (Nat.le_refl a) hs
  rw [ssum_head _ hs] at hr hor
  rcases hor with ⟨b, h1, h2, h3, h4⟩ | h4
  · have h3 : b ≠ a := h3
    have := ssum_le1 (f := V a) (a := b) (n := k - (a + 1)) (s := a + 1) (by omega) (by omega) fun c k1 k2 _ => hoff c k1 k2
    omega
  · have := ssum_le0 hoff
    omega
theorem St.abs (h : St k s V D) {a b : Nat} (ha : s ≤ a) (hak : a < k) (hb : s ≤ b) (hbk : b < k) : -(9 * D) ≤ V a b ∧ V a b ≤ 9 * D := by
  by_cases e : a = b
  · subst e
    have h1 := h.dia a ha hak
    have h2 := h.row a ha hak
    have h3 := ssum_le1 (f := V a) (a := a) (n := k - s) (s := s) ha (by omega) fun c k1 k2 k3 => h.off a c ha hak k1 (by omega) (Ne.symm k3)
    have := h.pos
    omega
  · have h1 := h.off a b ha hak hb hbk e
    have h2 := h.dia a ha hak
    have h3 := h.row a ha hak
    have h4 := ssum_le2 (f := V a) e (n := k - s) (s := s) ha (by omega) hb (by omega) fun c k1 k2 k3 => h.off a c ha hak k1 (by omega) (Ne.symm k3)
    have := h.pos
    omega
theorem St.step (h : St k s V D) (hs : s < k) (hV : ∀ a b, s < a → a < k → s < b → b < k → D * V' a b = V s s * V a b - V s b * V a s) : St k (s + 1) V' (V s s) := by
  have hP := h.next_pos hs
  have hD := h.pos
  have hss : ∀ a, s < a → a < k → V a s ≤ 0 := fun a h1 h2 => h.off a s (by omega) h2 (Nat.le_refl s) hs (by omega)
  have hsb : ∀ b, s < b → b < k → V s b ≤ 0 := fun b h1 h2 => h.off s b (Nat.le_refl s) hs (by omega) h2 (by omega)
  have hrows : ∀ a, s < a → a < k → D * ssum (V' a) (s + 1) (k - (s + 1)) = V s s * ssum (V a) s (k - s) - V a s * ssum (V s) s (k - s) := fun a h1 h2 => by
    have e1 := ssum_lin D 0 (V' a) (V' a) (k - (s + 1)) (s + 1)
    have e2 := ssum_lin (V s s) (-(V a s)) (V a) (V s) (k - (s + 1)) (s + 1)
    have e3 : ssum (fun b => D * V' a b + 0 * V' a b) (s + 1) (k - (s + 1)) = ssum (fun b => V s s * V a b + -(V a s) * V s b) (s + 1) (k - (s + 1)) := ssum_congr fun b k1 k2 => by
      have := hV a b h1 h2 (by omega) (by omega)
      grind
    rw [e1, e2] at e3
    rw [ssum_head (V a) hs, ssum_head (V s) hs]
    grind
  refine ⟨fun a b ha hak hb hbk => ?_, fun a b ha hak hb hbk hab => ?_, fun a ha hak => ?_, fun X hX => ?_, hP, fun a ha hak => ?_, ?_⟩
  · have h1 := hV a b (by omega) hak (by omega) hbk
    have h2 := hV b a (by omega) hbk (by omega) hak
    rw [h.sym a b (by omega) hak (by omega) hbk, h.sym s b (Nat.le_refl s) hs (by omega) hbk, h.sym a s (by omega) hak (Nat.le_refl s) hs, Int.mul_comm (V b s)] at h1
    exact Int.eq_of_mul_eq_mul_left (by omega) (h1.trans h2.symm)
  · have h1 := hV a b (by omega) hak (by omega) hbk
    have h2 := mul_le_z (Int.le_of_lt hP) (h.off a b (by omega) hak (by omega) hbk hab)
    have h3 := mul_zz (hsb b (by omega) hbk) (hss a (by omega) hak)
    exact nonpos_of hD (by omega)
  · have h1 := hrows a (by omega) hak
    have h2 := Int.mul_nonneg (Int.le_of_lt hP) (h.row a (by omega) hak)
    have h3 := mul_le_z (h.row s (Nat.le_refl s) hs) (hss a (by omega) hak)
    rw [Int.mul_comm] at h3
    exact nonneg_of hD (by omega)
  · -- some edge leads out of X
    have step1 : ∀ a, s < a → a < k → X a → (∃ b, s < b ∧ b < k ∧ ¬ X b ∧ V a b < 0) ∨ 0 < ssum (V a) s (k - s) → ∃ a, s + 1 ≤ a ∧ a < k ∧ X a ∧ ((∃ b, s + 1 ≤ b ∧ b < k ∧ ¬ X b ∧ V' a b < 0) ∨ 0 < ssum (V' a) (s + 1) (k - (s + 1))) := fun a ha hak hXa hor => by
      refine ⟨a, ha, hak, hXa, ?_⟩
      rcases hor with ⟨b, h1, h2, h3, h4⟩ | h4
      · left
        refine ⟨b, h1, h2, h3, neg_of hD ?_⟩
        have k1 := hV a b ha hak h1 h2
        have k2 := Int.mul_neg_of_pos_of_neg hP h4
        have k3 := mul_zz (hsb b h1 h2) (hss a ha hak)
        omega
      · right
        refine pos_of hD ?_
        have k1 := hrows a ha hak
        have k2 := Int.mul_pos hP h4
        have k3 := mul_le_z (h.row s (Nat.le_refl s) hs) (hss a ha hak)
        rw [Int.mul_comm] at k3
        omega
    obtain ⟨x, hx1, hx2, hx3⟩ := hX
    obtain ⟨a, ha1, ha2, ⟨ha3, ha4⟩, hor⟩ := h.con (fun x => X x ∧ x ≠ s) ⟨x, by omega, hx2, hx3, by omega⟩
    have has : s < a := by omega
    rcases hor with ⟨b, h1, h2, h3, h4⟩ | h4
    · by_cases hbs : b = s
      · subst hbs
        -- a hangs on s
        obtain ⟨a', hb1, hb2, hb3, hor2⟩ := h.con (fun x => X x ∨ x = b) ⟨b, Nat.le_refl b, hs, .inr rfl⟩
        by_cases e : a' = b
        · subst e
          refine ⟨a, has, ha2, ha3, ?_⟩
          rcases hor2 with ⟨c, k1, k2, k3, k4⟩ | k4
          · left
            have hc : c ≠ a' := fun e => k3 (.inr e)
            refine ⟨c, by omega, k2, fun h => k3 (.inl h), neg_of hD ?_⟩
            have q1 := hV a c has ha2 (by omega) k2
            have q2 : 0 < V a' c * V a a' := Int.mul_pos_of_neg_of_neg k4 h4
            have hac : a ≠ c := fun e => k3 (.inl (e ▸ ha3))
            have q3 := mul_le_z (Int.le_of_lt hP) (h.off a c (by omega) ha2 (by omega) k2 hac)
            omega
          · right
            refine pos_of hD ?_
            have q1 := hrows a has ha2
            have q2 := Int.mul_nonneg (Int.le_of_lt hP) (h.row a (by omega) ha2)
            have q3 := Int.mul_neg_of_neg_of_pos h4 k4
            omega
        · rcases hb3 with hb3 | hb3
          · refine step1 a' (by omega) hb2 hb3 ?_
            rcases hor2 with ⟨c, k1, k2, k3, k4⟩ | k4
            · exact .inl ⟨c, by have : c ≠ b := fun e => k3 (.inr e); omega, k2, fun h => k3 (.inl h), k4⟩
            · exact .inr k4
          · exact absurd hb3 e
      · exact step1 a has ha2 ha3 (.inl ⟨b, by omega, h2, fun hX => h3 ⟨hX, hbs⟩, h4⟩)
    · exact step1 a has ha2 ha3 (.inr h4)
  · have h1 := hV a a (by omega) hak (by omega) hak
    have h2 := mul_zz (hsb a (by omega) hak) (hss a (by omega) hak)
    have h3 := Int.mul_le_mul_of_nonneg_left (h.dia a (by omega) hak) (Int.le_of_lt hP)
    have h4 : 0 ≤ D * (9 * V s s - V' a a) := by
      have : D * (9 * V s s - V' a a) = V s s * (9 * D) - D * V' a a := by grind
      omega
    have := nonneg_of hD h4
    omega
  · have h1 := h.dia s (Nat.le_refl s) hs
    have h2 := h.bnd
    rw [show (9 : Int) ^ (s + 1) = 9 ^ s * 9 from Int.pow_succ 9 s]
    omega
end
/-- the matrix of a graph whose last node is left out -/
def lapM (k : Nat) (M : Nat → Nat → Int) (a b : Nat) : Int := if a = b then ssum (M a) 0 (k + 1) else -(M a b)
structure GrW (k : Nat) (M : Nat → Nat → Int) : Prop where
  sym : ∀ a b, M a b = M b a
  self : ∀ a, M a a = 0
  lo : ∀ a b, 0 ≤ M a b
  hi : ∀ a b, M a b ≤ 1
  con : ∀ X : Nat → Prop, (∃ a, a < k ∧ X a) → ∃ a, a < k ∧ X a ∧ ∃ b, b ≤ k ∧ (b = k ∨ ¬ X b) ∧ 0 < M a b
theorem ssum_snoc (f : Nat → Int) : ∀ (n s : Nat), ssum f s (n + 1) = ssum f s n + f (s + n)
  | 0, s => by simp [ssum]
  | n + 1, s => by
    have := ssum_snoc f n (s + 1)
    show f s + ssum f (s + 1) (n + 1) = (f s + ssum f (s + 1) n) + f (s + (n + 1))
    rw [this, show s + 1 + n = s + (n + 1) by omega]; omega
theorem ssum_ub {f : Nat → Int} : ∀ {n s : Nat}, (∀ b, f b ≤ 1) → ssum f s n ≤ n
  | 0, _, _ => by simp [ssum]
  | n + 1, s, h => by
    have := ssum_ub (f := f) (n := n) (s := s + 1) h
    have := h s
    simp only [ssum]; omega
theorem ssum_ub1 {f : Nat → Int} {a : Nat} : ∀ {n s : Nat}, s ≤ a → a < s + n → (∀ b, f b ≤ 1) → f a = 0 → ssum f s n + 1 ≤ n
  | 0, _, _, h, _, _ => absurd h (by omega)
  | n + 1, s, h1, h2, h, h0 => by
    simp only [ssum]
    by_cases e : s = a
    · subst e
      have := ssum_ub (f := f) (n := n) (s := s + 1) h
      omega
    · have := ssum_ub1 (f := f) (a := a) (n := n) (s := s + 1) (by omega) (by omega) h h0
      have := h s
      omega
theorem ssum_diag {f : Nat → Int} {a : Nat} (x : Int) (h0 : f a = 0) : ∀ {n s : Nat}, ssum (fun b => if a = b then x else -(f b)) s n = (if s ≤ a ∧ a < s + n then x else 0) - ssum f s n
  | 0, s => by simp only [ssum]; rw [if_neg (by omega)]; omega
  | n + 1, s => by
    have ih := ssum_diag (f := f) (a := a) x h0 (n := n) (s := s + 1)
    simp only [ssum]
    rw [ih]
    by_cases e : a = s
    · subst e
      rw [if_pos rfl, if_neg (by omega), if_pos (by omega), h0]; omega
    · rw [if_neg e]
      by_cases e2 : s + 1 ≤ a ∧ a < s + 1 + n
      · rw [if_pos e2, if_pos (by omega)]; omega
      · rw [if_neg e2, if_neg (by omega)]; omega
theorem lapM_row {k : Nat} {M : Nat → Nat → Int} (h : GrW k M) {a : Nat} (ha : a < k) : ssum (lapM k M a) 0 k = M a k := by
  unfold lapM
  rw [ssum_diag _ (h.self a), if_pos (by omega), ssum_snoc, Nat.zero_add]
  omega
theorem lapM_start {k : Nat} {M : Nat → Nat → Int} (h : GrW k M) (hk : k ≤ 9) {V : Nat → Nat → Int} (hV : ∀ a b, a < k → b < k → V a b = lapM k M a b) : St k 0 V 1 := by
  have hrow : ∀ a, a < k → ssum (V a) 0 (k - 0) = M a k := fun a ha => by
    rw [← lapM_row h ha, Nat.sub_zero]
    exact ssum_congr fun b _ hb => hV a b ha (by omega)
  refine ⟨fun a b _ ha _ hb => ?_, fun a b _ ha _ hb hab => ?_, fun a _ ha => ?_, fun X ⟨x, _, hx, hX⟩ => ?_, by decide, fun a _ ha => ?_, by decide⟩
  · rw [hV a b ha hb, hV b a hb ha]
    unfold lapM
    by_cases e : a = b
    · subst e; rfl
    · rw [if_neg e, if_neg (Ne.symm e), h.sym]
  · rw [hV a b ha hb]
    unfold lapM
    rw [if_neg hab]
    have := h.lo a b
    omega
  · rw [hrow a ha]; exact h.lo a k
  · obtain ⟨a, ha, hXa, b, hb, hor, hM⟩ := h.con X ⟨x, hx, hX⟩
    refine ⟨a, Nat.zero_le a, ha, hXa, ?_⟩
    by_cases e : b = k
    · subst e
      right
      rw [hrow a ha]; exact hM
    · left
      have hnX : ¬ X b := hor.resolve_left e
      refine ⟨b, Nat.zero_le b, by omega, hnX, ?_⟩
      rw [hV a b ha (by omega)]
      unfold lapM
      rw [if_neg (show ¬ a = b from fun e => hnX (e ▸ hXa))]
      omega
  · rw [hV a a ha ha]
    unfold lapM
    rw [if_pos rfl]
    have := ssum_ub1 (f := M a) (a := a) (n := k + 1) (s := 0) (by omega) (by omega) (h.hi a) (h.self a)
    omega
/-- what each step of the elimination has -/
theorem elim_all {k : Nat} {M : Nat → Nat → Int} (h : GrW k M) (hk : k ≤ 9) : ∀ s, s ≤ k → St k s (Vt k (lapM k M) s) (Dt k (lapM k M) s) ∧ ∀ t, t ≤ s → 0 < Dt k (lapM k M) t
  | 0, _ => by
    have h0 : St k 0 (Vt k (lapM k M) 0) (Dt k (lapM k M) 0) := by
      rw [Dt_zero]
      exact lapM_start h hk fun a b _ hb => Ph_zero k _ _ hb
    exact ⟨h0, fun t ht => (show t = 0 by omega) ▸ h0.pos⟩
  | s + 1, hs => by
    obtain ⟨h1, h2⟩ := elim_all h hk s (by omega)
    have h3 : St k (s + 1) (Vt k (lapM k M) (s + 1)) (Dt k (lapM k M) (s + 1)) := by
      rw [Dt_succ]
      refine h1.step (by omega) fun a b ha hak hb hbk => ?_
      exact bareiss (fun t ht => by have := h2 t ht; omega) hb hbk
    exact ⟨h3, fun t ht => by
      by_cases e : t = s + 1
      · subst e; exact h3.pos
      · exact h2 t (by omega)⟩
end Go.Proofs.YtnkmfnnkophccaaDoor
