/- chord: without a hole some node can go (Dirac; Lekkerkerker, Boland). Plain. -/
namespace Go.Proofs.YtcbmbofbiodhmaaDoor

section
variable {r : Nat → Nat → Prop}
/-- a ring of four nodes or more without a short cut -/
def Hole (r : Nat → Nat → Prop) (m : Nat) (c : Nat → Nat) : Prop :=
  4 ≤ m ∧ (∀ i j, i < m → j < m → c i = c j → i = j) ∧ ∀ i j, i < m → j < m → (r (c i) (c j) ↔ (j = i + 1 ∨ i = j + 1 ∨ (i = 0 ∧ j + 1 = m) ∨ (j = 0 ∧ i + 1 = m)))
inductive Rc (r : Nat → Nat → Prop) (U : Nat → Prop) (u : Nat) : Nat → Prop
  | refl : U u → Rc r U u u
  | step {a b : Nat} : Rc r U u a → r a b → U b → Rc r U u b
theorem Rc.in_ {U : Nat → Prop} {u z : Nat} (h : Rc r U u z) : U z := by cases h <;> assumption
theorem Rc.all (hs : ∀ a b, r a b → r b a) {U : Nat → Prop} {u c : Nat} {D : Nat → Prop} (h1 : Rc r U u c) (h2 : D c) (h3 : ∀ a b, D a → Rc r U u b → r a b → D b) : ∀ b, Rc r U u b → D b := by
  have hu : ∀ z, Rc r U u z → D z → D u := fun z hz => by
    induction hz with
    | refl _ => exact id
    | step ha hab _ ih => exact fun hb => ih (h3 _ _ hb ha (hs _ _ hab))
  have h0 := hu c h1 h2
  intro b hb
  induction hb with
  | refl _ => exact h0
  | step ha hab hU ih => exact h3 _ _ ih (.step ha hab hU) hab
/-- a way from x to y, k nodes of C between -/
def Way (r : Nat → Nat → Prop) (C : Nat → Prop) (x y k : Nat) (p : Nat → Nat) : Prop :=
  p 0 = x ∧ p (k + 1) = y ∧ (∀ i, 1 ≤ i → i ≤ k → C (p i)) ∧ ∀ i, i ≤ k → r (p i) (p (i + 1))
theorem Way.short {C : Nat → Prop} {x y k : Nat} {p : Nat → Nat} (h : Way r C x y k p) {i j : Nat} (hij : i + 1 < j) (hj : j ≤ k + 1) (he : r (p i) (p j)) : ∃ q, Way r C x y (k - (j - i - 1)) q := by
  obtain ⟨h1, h2, h3, h4⟩ := h
  refine ⟨fun t => if t ≤ i then p t else p (t + (j - i - 1)), by simpa using h1, ?_, fun t ht1 ht2 => ?_, fun t ht => ?_⟩
  · show (if _ then _ else _) = y
    rw [if_neg (by omega), show k - (j - i - 1) + 1 + (j - i - 1) = k + 1 by omega]; exact h2
  · show C (if _ then _ else _)
    split
    · exact h3 t ht1 (by omega)
    · exact h3 _ (by omega) (by omega)
  · show r (if _ then _ else _) (if _ then _ else _)
    by_cases e : t = i
    · subst e
      rw [if_pos (Nat.le_refl _), if_neg (by omega), show t + 1 + (j - t - 1) = j by omega]; exact he
    · by_cases e2 : t < i
      · rw [if_pos (by omega), if_pos (by omega)]; exact h4 t (by omega)
      · rw [if_neg (by omega), if_neg (by omega), show t + 1 + (j - i - 1) = t + (j - i - 1) + 1 by omega]; exact h4 _ (by omega)
theorem way_least {C : Nat → Prop} {x y : Nat} : ∀ k, (∃ p, Way r C x y k p) → ∃ k p, Way r C x y k p ∧ ∀ i j, i < j → j ≤ k + 1 → r (p i) (p j) → j = i + 1 := by
  intro k
  induction k using Nat.strongRecOn with
  | _ k ih =>
    rintro ⟨p, hp⟩
    by_cases h : ∀ i j, i < j → j ≤ k + 1 → r (p i) (p j) → j = i + 1
    · exact ⟨k, p, hp, h⟩
    · have ⟨i, h⟩ := Classical.not_forall.1 h
      have ⟨j, h⟩ := Classical.not_forall.1 h
      simp only [Classical.not_imp] at h
      obtain ⟨h1, h2, h3, h4⟩ := h
      exact ih _ (by omega) (hp.short (i := i) (j := j) (by omega) h2 h3)
/-- v, and two of its neighbours without an edge that are joined by nodes without an edge with it: a hole -/
theorem hole_of (hs : ∀ a b, r a b → r b a) (hi : ∀ a, ¬ r a a) {C : Nat → Prop} {v x y k : Nat} (hC : ∀ z, C z → z ≠ v ∧ ¬ r v z) (hx : r v x) (hy : r v y) (hxy : x ≠ y) (hn : ¬ r x y) (hw : ∃ p, Way r C x y k p) : ∃ m c, Hole r m c := by
  obtain ⟨k, p, ⟨h1, h2, h3, h4⟩, h5⟩ := way_least k hw
  have hk : 1 ≤ k := Nat.pos_of_ne_zero fun e => by subst e; have := h4 0 (by omega); rw [h1, h2] at this; exact hn this
  have hinj : ∀ i j, i < j → j ≤ k + 1 → p i ≠ p j := fun i j hij hj e => by
    by_cases hjk : j ≤ k
    · have := h4 j hjk
      rw [← e] at this
      have := h5 i (j + 1) (by omega) (by omega) this
      omega
    · obtain rfl : j = k + 1 := by omega
      cases i with
      | zero => rw [h1, h2] at e; exact hxy e
      | succ i =>
        have := h4 i (by omega)
        rw [e] at this
        have := h5 i (k + 1) (by omega) (by omega) this
        omega
  have hvp : ∀ i, i ≤ k + 1 → (r v (p i) ↔ i = 0 ∨ i = k + 1) := fun i hik => by
    by_cases e : i = 0
    · subst e; rw [h1]; simp [hx]
    · by_cases e2 : i = k + 1
      · subst e2; rw [h2]; simp [hy]
      · have := (hC _ (h3 i (by omega) (by omega))).2
        simp [this, e, e2]
  have hvn : ∀ i, i ≤ k + 1 → p i ≠ v := fun i hik e => by
    by_cases e0 : i = 0
    · subst e0; rw [h1] at e; subst e; exact hi _ hx
    · by_cases e2 : i = k + 1
      · subst e2; rw [h2] at e; subst e; exact hi _ hy
      · exact (hC _ (h3 i (by omega) (by omega))).1 e
  have hpp : ∀ i j, i ≤ k + 1 → j ≤ k + 1 → (r (p i) (p j) ↔ j = i + 1 ∨ i = j + 1) := fun i j hik hjk => by
    rcases Nat.lt_trichotomy i j with h | h | h
    · refine ⟨fun hr => .inl (h5 i j h hjk hr), fun e => ?_⟩
      obtain rfl : j = i + 1 := by omega
      exact h4 i (by omega)
    · subst h
      refine ⟨fun hr => absurd hr (hi _), fun e => by omega⟩
    · refine ⟨fun hr => .inr (h5 j i h hik (hs _ _ hr)), fun e => ?_⟩
      obtain rfl : i = j + 1 := by omega
      exact hs _ _ (h4 j (by omega))
  refine ⟨k + 3, fun t => match t with | 0 => v | t + 1 => p t, by omega, fun i j hi1 hj1 e => ?_, fun i j hi1 hj1 => ?_⟩
  · cases i <;> cases j
    · rfl
    · exact absurd e.symm (hvn _ (by omega))
    · exact absurd e (hvn _ (by omega))
    · rename_i i j
      rcases Nat.lt_trichotomy i j with h | h | h
      · exact absurd e (hinj i j h (by omega))
      · omega
      · exact absurd e.symm (hinj j i h (by omega))
  · cases i <;> cases j
    · simp only [hi, false_iff]; omega
    · rename_i j
      show r v (p j) ↔ _
      rw [hvp j (by omega)]; omega
    · rename_i i
      show r (p i) v ↔ _
      rw [show r (p i) v ↔ r v (p i) from ⟨hs _ _, hs _ _⟩, hvp i (by omega)]; omega
    · rename_i i j
      show r (p i) (p j) ↔ _
      rw [hpp i j (by omega) (by omega)]; omega
/-- all its neighbours in W have all edges -/
def Smp (r : Nat → Nat → Prop) (W : List Nat) (z : Nat) : Prop := ∀ a ∈ W, ∀ b ∈ W, a ≠ b → r z a → r z b → r a b
theorem lek (hs : ∀ a b, r a b → r b a) (hi : ∀ a, ¬ r a a) (hno : ∀ m c, ¬ Hole r m c) : ∀ (k : Nat) (W : List Nat), W.length ≤ k → ∀ v ∈ W, ∀ u ∈ W, u ≠ v → ¬ r v u → ∃ z ∈ W, z ≠ v ∧ ¬ r v z ∧ Smp r W z := by
  classical
  intro k
  induction k with
  | zero =>
    intro W hW v hv
    rw [List.length_eq_zero_iff.1 (by omega : W.length = 0)] at hv; cases hv
  | succ k ih =>
    intro W hW v hv u hu huv hnu
    let U : Nat → Prop := fun z => z ∈ W ∧ z ≠ v ∧ ¬ r v z
    let C : Nat → Prop := Rc r U u
    let S : Nat → Prop := fun z => z ∈ W ∧ r v z ∧ ∃ c, C c ∧ r z c
    have hCU : ∀ z, C z → U z := fun z hz => Rc.in_ hz
    have hCu : C u := .refl ⟨hu, huv, hnu⟩
    let W' := W.filter fun z => decide (C z ∨ S z)
    have hmem : ∀ z, z ∈ W' ↔ C z ∨ S z := fun z => by
      simp only [W', List.mem_filter, decide_eq_true_eq]
      exact ⟨fun h => h.2, fun h => ⟨h.elim (fun h => (hCU z h).1) (fun h => h.1), h⟩⟩
    have hlen : W'.length ≤ k := by
      have : W'.length < W.length := List.length_filter_lt_length_iff_exists.2 ⟨v, hv, by
        simp only [decide_eq_true_eq]
        rintro (h | h)
        · exact (hCU v h).2.1 rfl
        · exact hi v h.2.1⟩
      omega
    have hnbr : ∀ c, C c → ∀ b ∈ W, r c b → b ∈ W' := fun c hc b hb hcb => by
      rw [hmem]
      by_cases h : r v b
      · exact .inr ⟨hb, h, c, hc, hs _ _ hcb⟩
      · exact .inl (.step hc hcb ⟨hb, fun e => (hCU c hc).2.2 (hs _ _ (e ▸ hcb)), h⟩)
    have hclq : ∀ a b, S a → S b → a ≠ b → r a b := fun a b ⟨_, ha, c1, hc1, hac⟩ ⟨_, hb, c2, hc2, hbc⟩ hab => by
      apply Classical.byContradiction
      intro hn
      have hall : ∀ z, C z → C z ∧ ∃ k p, Way r C a z k p := by
        refine Rc.all hs hc1 (D := fun z => C z ∧ ∃ k p, Way r C a z k p) ⟨hc1, 0, fun t => if t = 0 then a else c1, by simp, by simp, fun i h1 h2 => by omega, fun i h => by
          obtain rfl : i = 0 := by omega
          simpa using hac⟩ fun y z ⟨hyC, k, p, h1, h2, h3, h4⟩ hz hyz => ⟨hz, k + 1, fun t => if t ≤ k + 1 then p t else z, by simpa using h1, (by show (if _ then _ else _) = z; rw [if_neg (by omega)]), fun i hi1 hi2 => ?_, fun i hik => ?_⟩
        · show C (if _ then _ else _)
          rw [if_pos hi2]
          by_cases e : i = k + 1
          · subst e; rw [h2]; exact hyC
          · exact h3 i hi1 (by omega)
        · show r (if _ then _ else _) (if _ then _ else _)
          by_cases e : i = k + 1
          · subst e; rw [if_pos (by omega), if_neg (by omega), h2]; exact hyz
          · rw [if_pos (by omega), if_pos (by omega)]; exact h4 i (by omega)
      obtain ⟨_, k, p, h1, h2, h3, h4⟩ := hall c2 hc2
      obtain ⟨m, c, hm⟩ := hole_of hs hi (C := C) (fun z hz => (hCU z hz).2) ha hb hab hn (k := k + 1) ⟨fun t => if t ≤ k + 1 then p t else b, by simpa using h1, (by show (if _ then _ else _) = b; rw [if_neg (by omega)]), fun i hi1 hi2 => by
          show C (if _ then _ else _)
          rw [if_pos hi2]
          by_cases e : i = k + 1
          · subst e; rw [h2]; exact hc2
          · exact h3 i hi1 (by omega), fun i hik => by
          show r (if _ then _ else _) (if _ then _ else _)
          by_cases e : i = k + 1
          · subst e; rw [if_pos (by omega), if_neg (by omega), h2]; exact hs _ _ hbc
          · rw [if_pos (by omega), if_pos (by omega)]; exact h4 i (by omega)⟩
      exact hno m c hm
    have hlift : ∀ z, C z → Smp r W' z → Smp r W z := fun z hz h a ha b hb hab h1 h2 => h a (hnbr z hz a ha h1) b (hnbr z hz b hb h2) hab h1 h2
    have hfin : ∀ z, C z → Smp r W' z → ∃ z ∈ W, z ≠ v ∧ ¬ r v z ∧ Smp r W z := fun z hz h => ⟨z, (hCU z hz).1, (hCU z hz).2.1, (hCU z hz).2.2, hlift z hz h⟩
    by_cases hA : ∃ s, S s ∧ ∃ t ∈ W', t ≠ s ∧ ¬ r s t
    · obtain ⟨s, hsS, t, ht, hts, hnt⟩ := hA
      obtain ⟨z, hz, h1, h2, h3⟩ := ih W' hlen s ((hmem s).2 (.inr hsS)) t ht hts hnt
      rcases (hmem z).1 hz with hc | hc
      · exact hfin z hc h3
      · exact absurd (hclq s z hsS hc (fun e => h1 e.symm)) h2
    · have hA' : ∀ s, S s → ∀ t ∈ W', t ≠ s → r s t := fun s h1 t h2 h3 => Classical.byContradiction fun h4 => hA ⟨s, h1, t, h2, h3, h4⟩
      by_cases hB : ∃ c, C c ∧ ∃ t ∈ W', t ≠ c ∧ ¬ r c t
      · obtain ⟨c, hc, t, ht, htc, hnt⟩ := hB
        obtain ⟨z, hz, h1, h2, h3⟩ := ih W' hlen c ((hmem c).2 (.inl hc)) t ht htc hnt
        rcases (hmem z).1 hz with hz2 | hz2
        · exact hfin z hz2 h3
        · exact absurd (hs _ _ (hA' z hz2 c ((hmem c).2 (.inl hc)) (fun e => h1 e.symm))) h2
      · have hB' : ∀ c, C c → ∀ t ∈ W', t ≠ c → r c t := fun s h1 t h2 h3 => Classical.byContradiction fun h4 => hB ⟨s, h1, t, h2, h3, h4⟩
        refine hfin u hCu fun a ha b hb hab _ _ => ?_
        rcases (hmem a).1 ha with h | h
        · exact hB' a h b hb (fun e => hab e.symm)
        · exact hA' a h b hb (fun e => hab e.symm)
theorem dirac (hs : ∀ a b, r a b → r b a) (hi : ∀ a, ¬ r a a) (hno : ∀ m c, ¬ Hole r m c) (W : List Nat) {w : Nat} (hw : w ∈ W) : ∃ z ∈ W, Smp r W z := by
  by_cases h : ∃ v ∈ W, ∃ u ∈ W, u ≠ v ∧ ¬ r v u
  · obtain ⟨v, hv, u, hu, h1, h2⟩ := h
    obtain ⟨z, hz, _, _, h3⟩ := lek hs hi hno W.length W (Nat.le_refl _) v hv u hu h1 h2
    exact ⟨z, hz, h3⟩
  · exact ⟨w, hw, fun a ha b hb hab _ _ => Classical.byContradiction fun hn => h ⟨a, ha, b, hb, fun e => hab e.symm, hn⟩⟩
end
end Go.Proofs.YtcbmbofbiodhmaaDoor
