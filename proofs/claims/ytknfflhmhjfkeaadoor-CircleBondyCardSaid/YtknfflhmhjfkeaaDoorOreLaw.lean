/- circle: Bondy, Chvatal, Ore, Dirac: plain. -/
import Derived.Test.YtknfflhmhjfkeaaDoorCircLaw
namespace Go.Proofs.YtknfflhmhjfkeaaDoor
open Go.RowKit

/-- a ring of all: p runs through all -/
structure Cy (A : Nat → Nat → Bool) (n : Nat) (p : Nat → Nat) : Prop where
  lt : ∀ k, k < n → p k < n
  inj : ∀ j k, j < n → k < n → p j = p k → j = k
  adj : ∀ k, k < n → A (p k) (p ((k + 1) % n)) = true
def degA (A : Nat → Nat → Bool) (n u : Nat) : Nat := (List.range n).countP (A u)
/-- one edge more -/
def addA (A : Nat → Nat → Bool) (u v : Nat) : Nat → Nat → Bool := fun a b => A a b || (a == u && b == v) || (a == v && b == u)
structure SA (A : Nat → Nat → Bool) (n : Nat) : Prop where
  sym : ∀ a b, A a b = true → A b a = true
  irr : ∀ a, A a a = false
theorem perm_of_sub {n : Nat} {p : List Nat} (hp : p.Nodup) (hlt : ∀ i ∈ p, i < n) (hl : n ≤ p.length) : p.Perm (List.range n) := by
  refine (List.perm_ext_iff_of_nodup hp List.nodup_range).2 fun a => ⟨fun ha => List.mem_range.2 (hlt a ha), fun ha => ?_⟩
  refine Classical.byContradiction fun hno => ?_
  have h1 : (p ++ [a]).Nodup := by rw [List.nodup_append]; exact ⟨hp, by simp, fun x hx b hb e => by simp at hb; subst hb; subst e; exact hno hx⟩
  have h2 := h1.length_le_of_subset (l₂ := List.range n) fun x hx => by
    rcases List.mem_append.1 hx with h | h
    · exact List.mem_range.2 (hlt x h)
    · simp at h; rw [h]; exact ha
  simp at h2; omega
theorem map_perm {n : Nat} {p : Nat → Nat} (hl : ∀ k, k < n → p k < n) (hi : ∀ j k, j < n → k < n → p j = p k → j = k) : ((List.range n).map p).Perm (List.range n) := by
  refine perm_of_sub ?_ (fun i hi' => ?_) (by simp)
  · rw [List.nodup_iff_pairwise_ne, List.pairwise_map, List.pairwise_iff_getElem]
    intro i j h1 h2 h3 h4
    simp only [List.length_range] at h1 h2
    simp only [List.getElem_range] at h4
    have := hi i j h1 h2 h4
    omega
  · obtain ⟨k, hk, rfl⟩ := List.mem_map.1 hi'
    exact hl k (List.mem_range.1 hk)
theorem countP_ren {n : Nat} {p : Nat → Nat} (hl : ∀ k, k < n → p k < n) (hi : ∀ j k, j < n → k < n → p j = p k → j = k) (f : Nat → Bool) : ((List.range n).countP fun k => f (p k)) = (List.range n).countP f := by
  rw [← (map_perm hl hi).countP_eq f, List.countP_map]
  rfl
theorem both {f g : Nat → Bool} : ∀ {m : Nat}, (∀ k, k < m → ¬ (f k = true ∧ g k = true)) → (List.range m).countP f + (List.range m).countP g ≤ m
  | 0, _ => by simp
  | m + 1, h => by
    have ih := both (m := m) fun k hk => h k (by omega)
    have hm := h m (by omega)
    rw [List.range_succ, List.countP_append, List.countP_append, List.countP_singleton, List.countP_singleton]
    cases hf : f m <;> cases hg : g m <;> simp [hf, hg] at hm ⊢ <;> omega
theorem mod_inj {n j k c : Nat} (hj : j < n) (hk : k < n) (h : (j + c) % n = (k + c) % n) : j = k := by
  have key : ∀ {a b : Nat}, a < n → b < n → a ≤ b → (a + c) % n = (b + c) % n → a = b := fun {a b} ha hb hab h => by
    have h1 := Nat.sub_mod_eq_zero_of_mod_eq h.symm
    rw [show b + c - (a + c) = b - a by omega, Nat.mod_eq_of_lt (by omega)] at h1
    omega
  rcases Nat.le_total j k with hjk | hjk
  · exact key hj hk hjk h
  · exact (key hk hj hjk h.symm).symm
theorem Cy.rot {A : Nat → Nat → Bool} {n : Nat} {p : Nat → Nat} (h : Cy A n p) (c : Nat) : Cy A n fun k => p ((k + c) % n) where
  lt := fun k hk => h.lt _ (Nat.mod_lt _ (by omega))
  inj := fun j k hj hk e => mod_inj hj hk (h.inj _ _ (Nat.mod_lt _ (by omega)) (Nat.mod_lt _ (by omega)) e)
  adj := fun k hk => by
    have := h.adj ((k + c) % n) (Nat.mod_lt _ (by omega))
    rw [Nat.mod_add_mod]
    rw [Nat.mod_add_mod] at this
    rw [show k + 1 + c = k + c + 1 by omega]
    exact this
/-- a row of all whose ends have edges enough is turned into a ring -/
theorem cross1 {A : Nat → Nat → Bool} {n : Nat} {q : Nat → Nat} (hA : SA A n) (hn : 3 ≤ n) (hl : ∀ k, k < n → q k < n) (hi : ∀ j k, j < n → k < n → q j = q k → j = k) (hp : ∀ k, k + 1 < n → A (q k) (q (k + 1)) = true)
    (hd : n ≤ degA A n (q 0) + degA A n (q (n - 1))) : ∃ p, Cy A n p := by
  obtain ⟨m, rfl⟩ : ∃ m, n = m + 1 := ⟨n - 1, by omega⟩
  rw [Nat.add_sub_cancel] at hd
  have h1 : degA A (m + 1) (q 0) = (List.range m).countP fun k => A (q 0) (q (k + 1)) := by
    unfold degA
    rw [← countP_ren hl hi, List.range_succ_eq_map, List.countP_cons, List.countP_map, hA.irr]
    rfl
  have h2 : degA A (m + 1) (q m) = (List.range m).countP fun k => A (q m) (q k) := by
    unfold degA
    rw [← countP_ren hl hi, List.range_succ, List.countP_append, List.countP_singleton, hA.irr]
    rfl
  rw [h1, h2] at hd
  obtain ⟨j, hj, hf, hg⟩ : ∃ j, j < m ∧ A (q 0) (q (j + 1)) = true ∧ A (q m) (q j) = true := Classical.byContradiction fun hno => by
    have := both (f := fun k => A (q 0) (q (k + 1))) (g := fun k => A (q m) (q k)) (m := m) fun k hk h => hno ⟨k, hk, h.1, h.2⟩
    omega
  refine ⟨fun k => if k ≤ j then q k else q (m + 1 + j - k), fun k hk => ?_, fun a b ha hb e => ?_, fun k hk => ?_⟩
  · split
    · exact hl _ hk
    · exact hl _ (by omega)
  · split at e <;> split at e
    · exact hi _ _ ha hb e
    · have := hi _ _ (by omega) (by omega) e; omega
    · have := hi _ _ (by omega) (by omega) e; omega
    · have := hi _ _ (by omega) (by omega) e; omega
  · rcases Nat.lt_or_ge k m with hkm | hkm
    · rw [Nat.mod_eq_of_lt (show k + 1 < m + 1 by omega)]
      by_cases h3 : k + 1 ≤ j
      · rw [if_pos (by omega), if_pos h3]; exact hp k (by omega)
      · rw [if_neg h3]
        by_cases h4 : k ≤ j
        · obtain rfl : k = j := by omega
          rw [if_pos h4, show m + 1 + k - (k + 1) = m by omega]
          exact hA.sym _ _ hg
        · rw [if_neg h4]
          have := hp (m + 1 + j - (k + 1)) (by omega)
          rw [show m + 1 + j - (k + 1) + 1 = m + 1 + j - k by omega] at this
          exact hA.sym _ _ this
    · obtain rfl : k = m := by omega
      rw [Nat.mod_self, if_pos (Nat.zero_le _), if_neg (by omega), show k + 1 + j - k = j + 1 by omega]
      exact hA.sym _ _ hf
/-- BONDY, CHVATAL -/
theorem cross {A : Nat → Nat → Bool} {n u v : Nat} {p : Nat → Nat} (hA : SA A n) (hn : 3 ≤ n) (hd : n ≤ degA A n u + degA A n v) (h : Cy (addA A u v) n p) : ∃ q, Cy A n q := by
  by_cases hall : ∀ k, k < n → A (p k) (p ((k + 1) % n)) = true
  · exact ⟨p, h.lt, h.inj, hall⟩
  · obtain ⟨k0, hk0, hno⟩ : ∃ k, k < n ∧ ¬ A (p k) (p ((k + 1) % n)) = true := Classical.byContradiction fun hn => hall fun k hk => Classical.byContradiction fun h => hn ⟨k, hk, h⟩
    have hr := h.rot (k0 + 1)
    have e0 : (0 + (k0 + 1)) % n = (k0 + 1) % n := by rw [Nat.zero_add]
    have e1 : (n - 1 + (k0 + 1)) % n = k0 := by rw [show n - 1 + (k0 + 1) = k0 + n by omega, Nat.add_mod_right, Nat.mod_eq_of_lt hk0]
    obtain ⟨q, hq⟩ : ∃ q : Nat → Nat, q = fun k => p ((k + (k0 + 1)) % n) := ⟨_, rfl⟩
    have q0 : q 0 = p ((k0 + 1) % n) := by rw [hq]; dsimp only; rw [e0]
    have q1 : q (n - 1) = p k0 := by rw [hq]; dsimp only; rw [e1]
    rw [← hq] at hr
    rw [← q0, ← q1] at hno
    have hlast := hr.adj (n - 1) (by omega)
    rw [show n - 1 + 1 = n by omega, Nat.mod_self] at hlast
    unfold addA at hlast
    have hno' : A (q (n - 1)) (q 0) = false := by simpa using hno
    rw [hno', Bool.false_or, Bool.or_eq_true, Bool.and_eq_true, Bool.and_eq_true, beq_iff_eq, beq_iff_eq, beq_iff_eq, beq_iff_eq] at hlast
    have hpath : ∀ k, k + 1 < n → A (q k) (q (k + 1)) = true := fun k hk => by
      have h1 := hr.adj k (by omega)
      rw [Nat.mod_eq_of_lt hk] at h1
      unfold addA at h1
      rw [Bool.or_eq_true, Bool.or_eq_true, Bool.and_eq_true, Bool.and_eq_true, beq_iff_eq, beq_iff_eq, beq_iff_eq, beq_iff_eq] at h1
      rcases h1 with (h1 | ⟨h1, h2⟩) | ⟨h1, h2⟩
      · exact h1
      all_goals
        rcases hlast with ⟨h3, h4⟩ | ⟨h3, h4⟩
        all_goals
          have a1 := hr.inj k (n - 1) (by omega) (by omega)
          have a2 := hr.inj k 0 (by omega) (by omega)
          have a3 := hr.inj (k + 1) 0 (by omega) (by omega)
          have a4 := hr.inj (k + 1) (n - 1) (by omega) (by omega)
          rw [h1] at a1 a2
          rw [h2] at a3 a4
          rw [h3] at a1 a4
          rw [h4] at a2 a3
          simp at a1 a2 a3 a4 <;> omega
    refine cross1 hA hn hr.lt hr.inj hpath ?_
    rcases hlast with ⟨h3, h4⟩ | ⟨h3, h4⟩ <;> rw [h3, h4] <;> omega
theorem SA.add {A : Nat → Nat → Bool} {n u v : Nat} (h : SA A n) (huv : u ≠ v) : SA (addA A u v) n where
  sym := fun a b hab => by
    unfold addA at *
    simp only [Bool.or_eq_true, Bool.and_eq_true, beq_iff_eq] at *
    rcases hab with (h1 | h1) | h1
    · exact .inl (.inl (h.sym _ _ h1))
    · exact .inr ⟨h1.2, h1.1⟩
    · exact .inl (.inr ⟨h1.2, h1.1⟩)
  irr := fun a => by
    unfold addA
    rw [h.irr]
    simp
    omega
theorem deg_mono {A A' : Nat → Nat → Bool} {n u : Nat} (h : ∀ a b, A a b = true → A' a b = true) : degA A n u ≤ degA A' n u := List.countP_mono_left fun x _ hx => h u x hx
theorem add_mono {A : Nat → Nat → Bool} {u v a b : Nat} (h : A a b = true) : addA A u v a b = true := by unfold addA; rw [h]; rfl
/-- many edges more, one by one -/
def addL (A : Nat → Nat → Bool) (L : List (Nat × Nat)) : Nat → Nat → Bool := L.foldl (fun A e => addA A e.1 e.2) A
theorem ore_back {n : Nat} (hn : 3 ≤ n) : ∀ (L : List (Nat × Nat)) (A : Nat → Nat → Bool), SA A n → (∀ e ∈ L, e.1 ≠ e.2 ∧ e.1 < n ∧ e.2 < n) → (∀ u v, u < n → v < n → u ≠ v → A u v = false → n ≤ degA A n u + degA A n v) → (∃ p, Cy (addL A L) n p) → ∃ p, Cy A n p
  | [], _, _, _, _, h => h
  | (u, v) :: L, A, hA, hL, hO, h => by
    obtain ⟨h1, h2, h3⟩ := hL (u, v) (by simp)
    dsimp only at h1 h2 h3
    have hO' : ∀ a b, a < n → b < n → a ≠ b → addA A u v a b = false → n ≤ degA (addA A u v) n a + degA (addA A u v) n b := fun a b ha hb hab h0 => by
      have hf : A a b = false := by
        cases hh : A a b
        · rfl
        · rw [add_mono hh] at h0; cases h0
      have := hO a b ha hb hab hf
      have m1 := deg_mono (n := n) (u := a) (fun x y => @add_mono A u v x y)
      have m2 := deg_mono (n := n) (u := b) (fun x y => @add_mono A u v x y)
      omega
    obtain ⟨p, hp⟩ := ore_back hn L (addA A u v) (hA.add h1) (fun e he => hL e (List.mem_cons_of_mem _ he)) hO' h
    cases hh : A u v
    · exact cross hA hn (hO u v h2 h3 h1 hh) hp
    · refine ⟨p, hp.lt, hp.inj, fun k hk => ?_⟩
      have := hp.adj k hk
      unfold addA at this
      simp only [Bool.or_eq_true, Bool.and_eq_true, beq_iff_eq] at this
      rcases this with (h4 | ⟨h4, h5⟩) | ⟨h4, h5⟩
      · exact h4
      · rw [h4, h5]; exact hh
      · rw [h4, h5]; exact hA.sym _ _ hh
theorem addL_mem : ∀ (L : List (Nat × Nat)) (A : Nat → Nat → Bool) (a b : Nat), (A a b = true ∨ (a, b) ∈ L) → addL A L a b = true
  | [], _, _, _, h => by
    rcases h with h | h
    · exact h
    · cases h
  | (u, v) :: L, A, a, b, h => by
    refine addL_mem L (addA A u v) a b ?_
    rcases h with h | h
    · exact .inl (add_mono h)
    · rcases List.mem_cons.1 h with h | h
      · injection h with h1 h2
        subst h1; subst h2
        exact .inl (by unfold addA; simp)
      · exact .inr h
/-- ORE, DIRAC -/
theorem ore {A : Nat → Nat → Bool} {n : Nat} (hn : 3 ≤ n) (hA : SA A n) (hO : ∀ u v, u < n → v < n → u ≠ v → A u v = false → n ≤ degA A n u + degA A n v) : ∃ p, Cy A n p := by
  refine ore_back hn ((List.range n).flatMap fun a => ((List.range n).filter fun b => a != b).map fun b => (a, b)) A hA (fun e he => ?_) hO ⟨fun k => k, fun k hk => hk, fun _ _ _ _ h => h, fun k hk => addL_mem _ _ _ _ (.inr ?_)⟩
  · obtain ⟨a, ha, h⟩ := List.mem_flatMap.1 he
    obtain ⟨b, hb, rfl⟩ := List.mem_map.1 h
    obtain ⟨h1, h2⟩ := List.mem_filter.1 hb
    rw [List.mem_range] at ha h1
    exact ⟨by simpa using h2, ha, h1⟩
  · have hm := Nat.mod_lt (k + 1) (show 0 < n by omega)
    refine List.mem_flatMap.2 ⟨k, List.mem_range.2 hk, List.mem_map.2 ⟨(k + 1) % n, List.mem_filter.2 ⟨List.mem_range.2 hm, ?_⟩, rfl⟩⟩
    rcases Nat.lt_or_ge (k + 1) n with h | h
    · rw [Nat.mod_eq_of_lt h]; simp
    · rw [show k + 1 = n by omega, Nat.mod_self]; simp; omega
end Go.Proofs.YtknfflhmhjfkeaaDoor
