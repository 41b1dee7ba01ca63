/- RAMSEY; GREENWOOD, GLEASON: of six three, of nine three or four. -/
import Derived.Test.YtiopngegkpbfhaaCrowdLaw
namespace Go.Proofs.Ytiopngegkpbfhaa
open Go.RowKit

/-- some k of a list, each two of which have each other -/
def Some' (a : Nat → Nat → Bool) (k : Nat) (U : List Nat) : Prop := ∃ s : List Nat, s.Nodup ∧ (∀ x ∈ s, x ∈ U) ∧ k ≤ s.length ∧ ∀ x ∈ s, ∀ y ∈ s, x ≠ y → a x y = true
theorem Some'.sub {a : Nat → Nat → Bool} {k : Nat} {U V : List Nat} (h : Some' a k U) (hs : ∀ x ∈ U, x ∈ V) : Some' a k V := by
  obtain ⟨s, h1, h2, h3, h4⟩ := h
  exact ⟨s, h1, fun x hx => hs x (h2 x hx), h3, h4⟩
theorem Some'.more {a : Nat → Nat → Bool} (sym : ∀ x y, a x y = a y x) {k v : Nat} {U : List Nat} (hv : v ∈ U) {p : Nat → Bool} (hp : ∀ x, p x = true → x ≠ v ∧ a v x = true) (h : Some' a k (U.filter p)) : Some' a (k + 1) U := by
  obtain ⟨s, h1, h2, h3, h4⟩ := h
  have hm : ∀ x ∈ s, x ∈ U ∧ x ≠ v ∧ a v x = true := fun x hx => by
    have := List.mem_filter.1 (h2 x hx)
    exact ⟨this.1, hp x this.2⟩
  refine ⟨v :: s, List.nodup_cons.2 ⟨fun hh => (hm v hh).2.1 rfl, h1⟩, fun x hx => ?_, by simp; omega, fun x hx y hy hne => ?_⟩
  · rcases List.mem_cons.1 hx with rfl | hx
    · exact hv
    · exact (hm x hx).1
  · rcases List.mem_cons.1 hx with hx1 | hx1
    · rcases List.mem_cons.1 hy with hy1 | hy1
      · exact absurd (hx1.trans hy1.symm) hne
      · rw [hx1]; exact (hm y hy1).2.2
    · rcases List.mem_cons.1 hy with hy1 | hy1
      · rw [hy1, sym]; exact (hm x hx1).2.2
      · exact h4 x hx1 y hy1 hne
/-- two relations, of which each two have one -/
structure Two (a c : Nat → Nat → Bool) : Prop where
  sa : ∀ x y, a x y = a y x
  sc : ∀ x y, c x y = c y x
  tot : ∀ x y, x ≠ y → a x y = true ∨ c x y = true
  ia : ∀ x, a x x = false
  ic : ∀ x, c x x = false
theorem Two.swap {a c : Nat → Nat → Bool} (h : Two a c) : Two c a := ⟨h.sc, h.sa, fun x y hne => (h.tot x y hne).symm, h.ic, h.ia⟩
theorem ram2 {a c : Nat → Nat → Bool} (h : Two a c) {k : Nat} {U : List Nat} (hn : U.Nodup) (hl : k ≤ U.length) : Some' a 2 U ∨ Some' c k U := by
  by_cases he : ∃ x ∈ U, ∃ y ∈ U, x ≠ y ∧ a x y = true
  · obtain ⟨x, hx, y, hy, hne, hxy⟩ := he
    refine .inl ⟨[x, y], by simp [hne], fun z hz => ?_, Nat.le_refl _, fun u hu v hv huv => ?_⟩
    · simp at hz; rcases hz with rfl | rfl <;> assumption
    · simp at hu hv
      rcases hu with rfl | rfl <;> rcases hv with rfl | rfl
      · exact absurd rfl huv
      · exact hxy
      · rw [h.sa]; exact hxy
      · exact absurd rfl huv
  · refine .inr ⟨U, hn, fun x hx => hx, hl, fun x hx y hy hne => ?_⟩
    rcases h.tot x y hne with h1 | h1
    · exact absurd ⟨x, hx, y, hy, hne, h1⟩ he
    · exact h1
/-- who has v by the one, and who has not -/
theorem parts_len {a c : Nat → Nat → Bool} (h : Two a c) (v : Nat) : ∀ (U : List Nat), U.Nodup → v ∈ U → (U.filter (a v)).length + (U.filter fun x => !(x == v || a v x)).length + 1 = U.length := by
  intro U hn hv
  have h1 := closed_len a v (h.ia v) U hn hv
  have h2 := lsum_split (fun x => x == v || a v x) (fun _ => 1) U
  rw [lsum_const, lsum_const, lsum_const] at h2
  unfold dg at h1
  omega
theorem ram33 {a c : Nat → Nat → Bool} (h : Two a c) {U : List Nat} (hn : U.Nodup) (hl : 6 ≤ U.length) : Some' a 3 U ∨ Some' c 3 U := by
  obtain ⟨v, hv⟩ : ∃ v, v ∈ U := by
    cases U with
    | nil => simp at hl
    | cons x U => exact ⟨x, by simp⟩
  have hp := parts_len h v U hn hv
  have ha : ∀ x, a v x = true → x ≠ v ∧ a v x = true := fun x hx => ⟨(fun e => by subst e; rw [h.ia] at hx; cases hx), hx⟩
  have hc : ∀ x, (!(x == v || a v x)) = true → x ≠ v ∧ c v x = true := fun x hx => by
    simp at hx
    refine ⟨hx.1, ?_⟩
    rcases h.tot v x (fun e => hx.1 e.symm) with h1 | h1
    · rw [hx.2] at h1; cases h1
    · exact h1
  by_cases h3 : 3 ≤ (U.filter (a v)).length
  · rcases ram2 h (hn.sublist List.filter_sublist) h3 with h4 | h4
    · exact .inl (h4.more h.sa hv ha)
    · exact .inr (h4.sub fun x hx => (List.mem_filter.1 hx).1)
  · rcases ram2 h.swap (k := 3) (hn.sublist List.filter_sublist) (show 3 ≤ (U.filter fun x => !(x == v || a v x)).length by omega) with h4 | h4
    · exact .inr (h4.more h.sc hv hc)
    · exact .inl (h4.sub fun x hx => (List.mem_filter.1 hx).1)
theorem lsum_add' (U : List Nat) (g h : Nat → Nat) : lsum U (fun i => g i + h i) = lsum U g + lsum U h := by
  induction U with
  | nil => rfl
  | cons x U ih => rw [lsum_cons, lsum_cons, lsum_cons, ih]; omega
/-- all degrees together are even -/
theorem deg_even {a : Nat → Nat → Bool} (sym : ∀ x y, a x y = a y x) (irr : ∀ x, a x x = false) : ∀ (U : List Nat), lsum U (dg a U) % 2 = 0
  | [] => rfl
  | x :: U => by
    have ih := deg_even sym irr U
    have h1 : dg a (x :: U) x = dg a U x := by unfold dg; rw [List.filter_cons, irr]; rfl
    have h2 : ∀ y, dg a (x :: U) y = dg a U y + if a y x then 1 else 0 := fun y => by
      unfold dg; rw [List.filter_cons]; cases a y x <;> simp
    have h3 : ∀ V : List Nat, lsum V (fun y => if a y x then 1 else 0) = (V.filter (a x)).length := by
      intro V
      induction V with
      | nil => rfl
      | cons z V ih => rw [lsum_cons, ih, List.filter_cons, sym z x]; cases a x z <;> simp; omega
    have h4 : lsum U (dg a (x :: U)) = lsum U (dg a U) + dg a U x := by
      have : lsum U (dg a (x :: U)) = lsum U (fun y => dg a U y + if a y x then 1 else 0) := by
        unfold lsum; congr 1; exact List.map_congr_left fun y _ => h2 y
      rw [this, lsum_add', h3]; rfl
    rw [lsum_cons, h1, h4]
    omega
theorem ram34 {a c : Nat → Nat → Bool} (h : Two a c) {U0 : List Nat} (hn0 : U0.Nodup) (hl0 : 9 ≤ U0.length) : Some' a 3 U0 ∨ Some' c 4 U0 := by
  have hn : (U0.take 9).Nodup := hn0.sublist (List.take_sublist _ _)
  have hl : (U0.take 9).length = 9 := by simp; omega
  have hsub : ∀ x ∈ U0.take 9, x ∈ U0 := fun x hx => List.mem_of_mem_take hx
  generalize U0.take 9 = U at *
  have ha : ∀ v x, a v x = true → x ≠ v ∧ a v x = true := fun v x hx => ⟨(fun e => by subst e; rw [h.ia] at hx; cases hx), hx⟩
  have hc : ∀ v x, (!(x == v || a v x)) = true → x ≠ v ∧ c v x = true := fun v x hx => by
    simp at hx
    refine ⟨hx.1, ?_⟩
    rcases h.tot v x (fun e => hx.1 e.symm) with h1 | h1
    · rw [hx.2] at h1; cases h1
    · exact h1
  by_cases h4 : ∃ v ∈ U, 4 ≤ (U.filter (a v)).length
  · obtain ⟨v, hv, h4⟩ := h4
    rcases ram2 h (hn.sublist List.filter_sublist) h4 with h5 | h5
    · exact .inl ((h5.more h.sa hv (ha v)).sub hsub)
    · exact .inr ((h5.sub fun x hx => (List.mem_filter.1 hx).1).sub hsub)
  · by_cases h6 : ∃ v ∈ U, 6 ≤ (U.filter fun x => !(x == v || a v x)).length
    · obtain ⟨v, hv, h6⟩ := h6
      rcases ram33 h (hn.sublist List.filter_sublist) h6 with h5 | h5
      · exact .inl ((h5.sub fun x hx => (List.mem_filter.1 hx).1).sub hsub)
      · exact .inr ((h5.more h.sc hv (hc v)).sub hsub)
    · exfalso
      have h3 : ∀ v ∈ U, dg a U v = 3 := fun v hv => by
        have h7 := parts_len h v U hn hv
        have h8 : ¬ 4 ≤ (U.filter (a v)).length := fun hh => h4 ⟨v, hv, hh⟩
        have h9 : ¬ 6 ≤ (U.filter fun x => !(x == v || a v x)).length := fun hh => h6 ⟨v, hv, hh⟩
        unfold dg
        omega
      have h7 : lsum U (dg a U) = lsum U (fun _ => 3) := by
        unfold lsum; congr 1; exact List.map_congr_left h3
      have h8 := deg_even h.sa h.ia U
      rw [h7, lsum_const, hl] at h8
      omega
def notA (es : List E) (x y : Nat) : Bool := decide (x ≠ y) && !adj es x y
theorem two_adj {n : Nat} {es : List E} (hok : ∀ e ∈ es, okE n e) : Two (adj es) (notA es) where
  sa := adj_symm es
  sc := fun x y => by
    unfold notA
    rw [adj_symm es x y]
    congr 1
    exact decide_eq_decide.2 ⟨fun h => h.symm, fun h => h.symm⟩
  tot := fun x y hne => by
    unfold notA
    cases adj es x y
    · exact .inr (by simp [hne])
    · exact .inl rfl
  ia := adj_irr hok
  ic := fun x => by simp [notA]
theorem some_cl {n k b : Nat} (hn : n ≤ 10) {es : List E} (hok : ∀ e ∈ es, okE n e) (hm : MaxCl (nearW n es) n b) (h : Some' (adj es) k (List.range n)) : k ≤ popc 10 b := by
  obtain ⟨s, h1, h2, h3, h4⟩ := h
  refine Nat.le_trans (Nat.le_trans h3 ?_) (hm.2.2 _ (lw_lt n s) ((isCl_near hok (lw_lt n s)).2 fun i j hj hi hjs => h4 i ((lw_bit s i).1 hi).2 j ((lw_bit s j).1 hjs).2 (by omega)))
  unfold popc
  refine h1.length_le_of_subset fun x hx => ?_
  have := List.mem_range.1 (h2 x hx)
  rw [List.mem_filter]
  exact ⟨by simp; omega, (lw_bit s x).2 ⟨this, hx⟩⟩
theorem some_in {n k b : Nat} (hn : n ≤ 10) {es : List E} (hok : ∀ e ∈ es, okE n e) (hm : MaxCl (othW n es) n b) (h : Some' (notA es) k (List.range n)) : k ≤ popc 10 b := by
  obtain ⟨s, h1, h2, h3, h4⟩ := h
  refine Nat.le_trans (Nat.le_trans h3 ?_) (hm.2.2 _ (lw_lt n s) ((isCl_oth hn hok (lw_lt n s)).2 fun i j hj hi hjs => by
    have := h4 i ((lw_bit s i).1 hi).2 j ((lw_bit s j).1 hjs).2 (by omega)
    unfold notA at this
    simp at this
    exact this.2))
  unfold popc
  refine h1.length_le_of_subset fun x hx => ?_
  have := List.mem_range.1 (h2 x hx)
  rw [List.mem_filter]
  exact ⟨by simp; omega, (lw_bit s x).2 ⟨this, hx⟩⟩
theorem ramsey_law {n x y : Nat} (hn : n ≤ 10) {es : List E} (hok : ∀ e ∈ es, okE n e) (hx : MaxCl (nearW n es) n x) (hy : MaxCl (othW n es) n y) :
    (n < 6 ∨ 3 ≤ popc 10 x ∨ 3 ≤ popc 10 y) ∧ (n < 9 ∨ 3 ≤ popc 10 x ∨ 4 ≤ popc 10 y) ∧ (n < 9 ∨ 4 ≤ popc 10 x ∨ 3 ≤ popc 10 y) := by
  have h := two_adj hok
  have hr : (List.range n).Nodup := List.nodup_range
  refine ⟨?_, ?_, ?_⟩
  · by_cases h6 : n < 6
    · exact .inl h6
    · rcases ram33 h hr (by simp; omega) with h1 | h1
      · exact .inr (.inl (some_cl hn hok hx h1))
      · exact .inr (.inr (some_in hn hok hy h1))
  · by_cases h9 : n < 9
    · exact .inl h9
    · rcases ram34 h hr (by simp; omega) with h1 | h1
      · exact .inr (.inl (some_cl hn hok hx h1))
      · exact .inr (.inr (some_in hn hok hy h1))
  · by_cases h9 : n < 9
    · exact .inl h9
    · rcases ram34 h.swap hr (by simp; omega) with h1 | h1
      · exact .inr (.inr (some_in hn hok hy h1))
      · exact .inr (.inl (some_cl hn hok hx h1))
end Go.Proofs.Ytiopngegkpbfhaa
