/- sides: by how far each is from the least one: two sides, or an odd ring. Plain. -/
import Derived.Test.YtfeihakciioheaaDoorSpreadLaw
import Derived.Test.YtfeihakciioheaaDoorSideLaw
namespace Go.Proofs.YtfeihakciioheaaDoor
open Go.RowKit

theorem nodup_len_le : ∀ {l l' : List Nat}, l.Nodup → l ⊆ l' → l.length ≤ l'.length
  | [], _, _, _ => Nat.zero_le _
  | a :: l, l', h, hs => by
    rw [List.nodup_cons] at h
    have ha : a ∈ l' := hs (by simp)
    have : l ⊆ l'.erase a := fun x hx => (List.mem_erase_of_ne (fun e => h.1 (by rw [← e]; exact hx))).2 (hs (List.mem_cons_of_mem _ hx))
    have := nodup_len_le h.2 this
    rw [List.length_erase_of_mem ha] at this
    have : 0 < l'.length := List.length_pos_of_mem ha
    simp; omega
section
variable {n : Nat} {ns : List Nat}
theorem far_pred (g : Gr n ns) {r v D : Nat} (hr : r < n) (h : far ns r v = ((D + 1 : Nat) : Int)) : ∃ u, nb ns u v = true ∧ far ns r u = (D : Int) := by
  rcases far_cases g (j := v) hr with ⟨e, _⟩ | ⟨k, e, _, h1, h2⟩
  · omega
  · have hk : k = D + 1 := by omega
    subst hk
    rcases (Rch.succ g hr).1 h1 with h3 | ⟨u, h3, h4⟩
    · exact absurd h3 (h2 D (by omega))
    · refine ⟨u, h4, ?_⟩
      rcases far_cases g (j := u) hr with ⟨_, e2⟩ | ⟨q, e2, _, h5, h6⟩
      · exact absurd h3 (e2 D)
      · have hq : q ≤ D := Nat.le_of_not_lt fun hl => h6 D hl h3
        have hu := Rch.lt g hr h3
        have ht := (far_tri g (a := r) (b := u) (c := v) hr (by omega) (by rw [(far_one g hu).2 h4]; omega)).2
        rw [(far_one g hu).2 h4] at ht
        omega
/-- a row of neighbours from a to b, all of it nearer to r -/
theorem bridge (g : Gr n ns) {r : Nat} (hr : r < n) : ∀ (D a b : Nat), a ≠ b → far ns r a = (D : Int) → far ns r b = (D : Int) →
    ∃ M : List Nat, M.length % 2 = 1 ∧ M.Nodup ∧ (∀ x ∈ M, 0 ≤ far ns r x ∧ far ns r x < (D : Int)) ∧ (∀ k, k + 1 < (a :: (M ++ [b])).length → nb ns ((a :: (M ++ [b])).getD k 0) ((a :: (M ++ [b])).getD (k + 1) 0) = true) := by
  intro D
  induction D with
  | zero =>
    intro a b hne ha hb
    have e1 : r = a := (far_zero g hr).1 (by simpa using ha)
    have e2 : r = b := (far_zero g hr).1 (by simpa using hb)
    exact absurd (e1.symm.trans e2) hne
  | succ D ih =>
    intro a b hne ha hb
    obtain ⟨u, hu1, hu2⟩ := far_pred g hr ha
    obtain ⟨u', hu1', hu2'⟩ := far_pred g hr hb
    have hau := (g.ok u a hu1).2.2.1
    by_cases e : u = u'
    · subst e
      refine ⟨[u], rfl, by simp, fun x hx => ?_, fun k hk => ?_⟩
      · obtain rfl : x = u := by simpa using hx
        omega
      · have : k = 0 ∨ k = 1 := by simp at hk; omega
        rcases this with rfl | rfl
        · exact hau
        · exact hu1'
    · obtain ⟨M, h1, h2, h3, h4⟩ := ih u u' e hu2 hu2'
      refine ⟨u :: (M ++ [u']), by simp; omega, ?_, fun x hx => ?_, fun k hk => ?_⟩
      · rw [List.nodup_cons, List.nodup_append]
        refine ⟨fun hm => ?_, h2, by simp, fun x hx y hy e' => ?_⟩
        · rcases List.mem_append.1 hm with hm | hm
          · have := (h3 u hm).2; omega
          · exact e (by simpa using hm)
        · obtain rfl : y = u' := by simpa using hy
          have := (h3 x hx).2; rw [e'] at this; omega
      · rcases List.mem_cons.1 hx with rfl | hx
        · omega
        · rcases List.mem_append.1 hx with hx | hx
          · have := h3 x hx; omega
          · obtain rfl : x = u' := by simpa using hx
            omega
      · cases k with
        | zero => exact hau
        | succ k =>
          have hl : (u :: (M ++ [u'])).length = M.length + 2 := by simp
          have hk' : k + 1 < M.length + 3 := by simpa using hk
          by_cases hlast : k = M.length + 1
          · subst hlast
            have e1 : (a :: (u :: (M ++ [u']) ++ [b])).getD (M.length + 1 + 1) 0 = u' := by
              simp only [List.getD, List.cons_append, List.getElem?_cons_succ, List.append_assoc]
              rw [List.getElem?_append_right (Nat.le_refl _), Nat.sub_self]; rfl
            have e2 : (a :: (u :: (M ++ [u']) ++ [b])).getD (M.length + 1 + 1 + 1) 0 = b := by
              simp only [List.getD, List.cons_append, List.getElem?_cons_succ, List.append_assoc]
              rw [List.getElem?_append_right (by omega), show M.length + 1 - M.length = 1 by omega]; rfl
            rw [e1, e2]; exact hu1'
          · have h5 := h4 k (by rw [hl]; omega)
            have e1 : ∀ j, j < M.length + 2 → (a :: (u :: (M ++ [u']) ++ [b])).getD (j + 1) 0 = (u :: (M ++ [u'])).getD j 0 := fun j hj => by
              simp only [List.getD, List.getElem?_cons_succ]
              rw [List.getElem?_append_left (by rw [hl]; exact hj)]
            rw [e1 k (by omega), e1 (k + 1) (by omega)]; exact h5
/-- the side of a node -/
def sd (ns : List Nat) (i : Nat) : Nat := (far ns (part ns i) i).toNat % 2
theorem part_far (g : Gr n ns) {i : Nat} (hi : i < n) : part ns i < n ∧ 0 ≤ far ns (part ns i) i ∧ ∀ m, m < part ns i → far ns m i < 0 := by
  obtain ⟨h1, h2, h3⟩ := part_at g hi
  have hp := part_lt g hi
  exact ⟨hp, by rw [far_symm g hp hi]; exact h2, fun m hm => by rw [far_symm g (by omega) hi]; exact h3 m hm⟩
theorem odd_ring (g : Gr n ns) {a b : Nat} (h : nb ns a b = true) (hs : sd ns a = sd ns b) : ∃ k M, 2 * k + 3 ≤ n ∧ M.length = 2 * k + 2 ∧ Ext ns a a (delB (2 ^ n - 1) a) M := by
  obtain ⟨ha, hb, hba, hne⟩ := g.ok a b h
  have hp10 : 2 ^ n ≤ 2 ^ 10 := Nat.pow_le_pow_right (by omega) g.n10
  have hn10 := g.n10
  have hab := (far_one g ha).2 h
  have hba' := (far_one g hb).2 hba
  have hpe : part ns a = part ns b := (part_eq g ha hb).2 (by omega)
  obtain ⟨hr, hfa, _⟩ := part_far g ha
  obtain ⟨_, hfb, _⟩ := part_far g hb
  unfold sd at hs
  rw [← hpe] at hs hfb
  obtain ⟨r, hrr⟩ : ∃ r, part ns a = r := ⟨_, rfl⟩
  rw [hrr] at hr hfa hfb hs
  have t1 := (far_tri g (a := r) (b := a) (c := b) hr hfa (by omega)).2
  have t2 := (far_tri g (a := r) (b := b) (c := a) hr hfb (by omega)).2
  have heq : far ns r a = far ns r b := by omega
  obtain ⟨D, hD⟩ := Int.eq_ofNat_of_zero_le hfa
  obtain ⟨M, h1, h2, h3, h4⟩ := bridge g hr D a b hne hD (by rw [← heq]; exact hD)
  have hMn : ∀ x ∈ M, x < n := fun x hx => by
    rcases far_cases g (j := x) hr with ⟨e, _⟩ | ⟨k, _, _, hR, _⟩
    · have := (h3 x hx).1; omega
    · exact Rch.lt g hr hR
  have haM : a ∉ M := fun hm => by have := (h3 a hm).2; omega
  have hbM : b ∉ M := fun hm => by have := (h3 b hm).2; omega
  have hnd : (a :: b :: M).Nodup := by
    rw [List.nodup_cons, List.nodup_cons]
    exact ⟨by simp [hne, haM], hbM, h2⟩
  have hlen : M.length + 2 ≤ n := by
    have : (a :: b :: M).length ≤ (List.range n).length := by
      have hsub : (a :: b :: M) ⊆ List.range n := fun x hx => by
        rw [List.mem_range]
        rcases List.mem_cons.1 hx with rfl | hx
        · exact ha
        · rcases List.mem_cons.1 hx with rfl | hx
          · exact hb
          · exact hMn x hx
      exact nodup_len_le hnd hsub
    simpa using this
  have hbit : ∀ c, (delB (2 ^ n - 1) a).testBit c = true ↔ c < n ∧ c ≠ a := fun c => by
    rw [delB_bit (by omega) (by omega), Nat.testBit_two_pow_sub_one]
    simp
    exact fun _ => ⟨fun h e => h e.symm, fun h e => h e.symm⟩
  refine ⟨(M.length - 1) / 2, M ++ [b], by omega, by simp; omega, ext_of (M ++ [b]) a _ (Nat.lt_of_le_of_lt (delB_le _ _) (by omega)) (fun c hc => by have := (hbit c).1 hc; omega) (fun x hx => ?_) ?_ (fun k hk => h4 k (by simpa using hk)) ?_⟩
  · rw [hbit]
    rcases List.mem_append.1 hx with hx | hx
    · exact ⟨hMn x hx, fun e => haM (e ▸ hx)⟩
    · obtain rfl : x = b := by simpa using hx
      exact ⟨hb, fun e => hne e.symm⟩
  · rw [List.nodup_append]
    exact ⟨h2, by simp, fun x hx y hy e => by
      obtain rfl : y = b := by simpa using hy
      exact hbM (e ▸ hx)⟩
  · have : (a :: (M ++ [b])).getD (M ++ [b]).length 0 = b := by simp [List.getD]
    rw [this]; exact hba
theorem ext_side (hd : ∀ a b, nb ns a b = true → sd ns a ≠ sd ns b) {f : Nat} : ∀ (M : List Nat) (a x : Nat), Ext ns f a x M → (sd ns a + M.length + 1) % 2 = sd ns f
  | [], a, x, h => by
    have h1 := hd a f h
    have h2 : sd ns a < 2 := Nat.mod_lt _ (by omega)
    have h3 : sd ns f < 2 := Nat.mod_lt _ (by omega)
    simp; omega
  | i :: M, a, x, ⟨h1, _, h3⟩ => by
    have h4 := ext_side hd M i _ h3
    have h5 := hd a i h1
    have h2 : sd ns a < 2 := Nat.mod_lt _ (by omega)
    have h6 : sd ns i < 2 := Nat.mod_lt _ (by omega)
    simp; omega
end
end Go.Proofs.YtfeihakciioheaaDoor
