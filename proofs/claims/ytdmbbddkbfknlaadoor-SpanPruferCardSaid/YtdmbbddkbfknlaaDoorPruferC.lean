/- span: edges in a graph's list, and trees. Plain. -/
import Derived.Test.YtdmbbddkbfknlaaDoorPruferB
import Derived.Test.YtdmbbddkbfknlaaDoorOkL
import Derived.Test.YtdmbbddkbfknlaaDoorAdj
namespace Go.Proofs.YtdmbbddkbfknlaaDoor
open Go.RowKit

theorem dsum_add {r s t : Nat → Nat → Bool} {W : List Nat} (h : ∀ x ∈ W, ∀ y ∈ W, t x y = (r x y || s x y) ∧ ¬ (r x y = true ∧ s x y = true)) : dsum t W = dsum r W + dsum s W := by
  rw [dsum_sum, dsum_sum, dsum_sum]
  have h1 : ∀ x ∈ W, degW t W x = degW r W x + degW s W x := fun x hx => by
    unfold degW
    have : ∀ V : List Nat, (∀ y ∈ V, y ∈ W) → V.countP (t x) = V.countP (r x) + V.countP (s x) := fun V => by
      induction V with
      | nil => intro _; rfl
      | cons y V ih =>
        intro hV
        rw [List.countP_cons, List.countP_cons, List.countP_cons, ih fun z hz => hV z (List.mem_cons_of_mem _ hz)]
        obtain ⟨e1, e2⟩ := h x hx y (hV y (by simp))
        rw [e1]
        cases hr : r x y <;> cases hs : s x y
        · simp
        · simp; omega
        · simp; omega
        · exact absurd ⟨hr, hs⟩ e2
    exact this W fun _ h => h
  have h2 : ∀ V : List Nat, (∀ x ∈ V, x ∈ W) → (V.map (degW t W)).sum = (V.map (degW r W)).sum + (V.map (degW s W)).sum := fun V => by
    induction V with
    | nil => intro _; rfl
    | cons x V ih =>
      intro hV
      have e1 := ih fun z hz => hV z (List.mem_cons_of_mem _ hz)
      have e2 := h1 x (hV x (by simp))
      simp only [List.map_cons, List.sum_cons]; omega
  exact h2 W fun _ h => h
theorem dsum_zero {r : Nat → Nat → Bool} {W : List Nat} (h : ∀ x ∈ W, ∀ y ∈ W, r x y = false) : dsum r W = 0 := by
  induction W with
  | nil => rfl
  | cons i W ih =>
    rw [dsum, ih fun x hx y hy => h x (List.mem_cons_of_mem _ hx) y (List.mem_cons_of_mem _ hy), h i (by simp) i (by simp)]
    have e1 : W.countP (r i) = 0 := List.countP_eq_zero.2 fun y hy => by rw [h i (by simp) y (List.mem_cons_of_mem _ hy)]; exact Bool.noConfusion
    have e2 : W.countP (fun x => r x i) = 0 := List.countP_eq_zero.2 fun y hy => by rw [h y (List.mem_cons_of_mem _ hy) i (by simp)]; exact Bool.noConfusion
    rw [e1, e2]; rfl
theorem dsum_one {W : List Nat} (hn : W.Nodup) {a b : Nat} (ha : a ∈ W) (hb : b ∈ W) (hab : a ≠ b) : dsum (adjP [(a, b)]) W = 2 := by
  have hr : ∀ x y, adjP [(a, b)] x y = true ↔ (x = a ∧ y = b) ∨ (x = b ∧ y = a) := fun x y => by rw [adjP_iff]; simp; omega
  have hf : ∀ x y, ¬ ((x = a ∧ y = b) ∨ (x = b ∧ y = a)) → adjP [(a, b)] x y = false := fun x y h => by
    cases hh : adjP [(a, b)] x y
    · rfl
    · exact absurd ((hr x y).1 hh) h
  rw [dsum_perm (List.perm_cons_erase ha)]
  have hn' := hn.erase a
  have hb' : b ∈ W.erase a := (List.mem_erase_of_ne fun e => hab e.symm).2 hb
  have hna : a ∉ W.erase a := hn.not_mem_erase
  rw [dsum, hf a a (by omega)]
  have e1 : (W.erase a).countP (adjP [(a, b)] a) = 1 := by
    have : (W.erase a).countP (adjP [(a, b)] a) = (W.erase a).count b := by
      rw [List.count_eq_countP]
      exact List.countP_congr fun y _ => by rw [hr, beq_iff_eq]; omega
    rw [this, List.Nodup.count hn', if_pos hb']
  have e2 : (W.erase a).countP (fun x => adjP [(a, b)] x a) = 1 := by
    rw [← e1]
    exact List.countP_congr fun y _ => by rw [hr, hr]; omega
  rw [e1, e2, dsum_zero fun x hx y hy => hf x y (by
    have : x ≠ a := fun e => hna (e ▸ hx)
    have : y ≠ a := fun e => hna (e ▸ hy)
    omega)]
  rfl
def sameP (e f : Nat × Nat) : Prop := (e.1 = f.1 ∧ e.2 = f.2) ∨ (e.1 = f.2 ∧ e.2 = f.1)
theorem hands {W : List Nat} (hn : W.Nodup) : ∀ {es : List (Nat × Nat)}, (∀ e ∈ es, e.1 ∈ W ∧ e.2 ∈ W ∧ e.1 ≠ e.2) → es.Pairwise (fun e f => ¬ sameP e f) → dsum (adjP es) W = 2 * es.length
  | [], _, _ => dsum_zero fun _ _ _ _ => rfl
  | e :: es, h1, h2 => by
    rw [List.pairwise_cons] at h2
    obtain ⟨ha, hb, hab⟩ := h1 e (by simp)
    rw [dsum_add (r := adjP [e]) (s := adjP es) fun x _ y _ => ⟨by unfold adjP; simp, fun ⟨h3, h4⟩ => ?_⟩, dsum_one hn ha hb hab, hands hn (fun f hf => h1 f (List.mem_cons_of_mem _ hf)) h2.2]
    · simp only [List.length_cons]; omega
    · rw [adjP_iff] at h3 h4
      have h3 : (x, y) = e ∨ (y, x) = e := by simpa using h3
      rcases h3 with rfl | rfl
      · rcases h4 with h4 | h4
        · exact h2.1 _ h4 (.inl ⟨rfl, rfl⟩)
        · exact h2.1 _ h4 (.inr ⟨rfl, rfl⟩)
      · rcases h4 with h4 | h4
        · exact h2.1 _ h4 (.inr ⟨rfl, rfl⟩)
        · exact h2.1 _ h4 (.inl ⟨rfl, rfl⟩)
/-- a graph's edges as pairs of nodes -/
def prs (es : List E) : List (Nat × Nat) := es.map fun e => (e.1.toNat, e.2.1.toNat)
theorem adj_prs {n : Nat} {es : List E} (hok : ∀ e ∈ es, okE n e) (x y : Nat) : adj es x y = adjP (prs es) x y := by
  rw [Bool.eq_iff_iff]
  unfold adj adjP prs
  rw [List.any_map, List.any_eq_true, List.any_eq_true]
  constructor
  · rintro ⟨e, he, h⟩
    refine ⟨e, he, ?_⟩
    obtain ⟨a, b, ha, hb, _⟩ := hok e he
    unfold adjE at h
    simp [ha, hb] at h ⊢
    omega
  · rintro ⟨e, he, h⟩
    refine ⟨e, he, ?_⟩
    obtain ⟨a, b, ha, hb, _⟩ := hok e he
    unfold adjE
    simp [ha, hb] at h ⊢
    omega
theorem prs_ok {n : Nat} {es : List E} (h : OkL n es) : (∀ e ∈ prs es, e.1 ∈ List.range n ∧ e.2 ∈ List.range n ∧ e.1 ≠ e.2) ∧ (prs es).Pairwise (fun e f => ¬ sameP e f) := by
  have hok := h.ok
  constructor
  · intro e he
    obtain ⟨f, hf, rfl⟩ := List.mem_map.1 he
    obtain ⟨a, b, ha, hb, h1, h2, h3⟩ := hok f hf
    simp [ha, hb]; omega
  · unfold prs
    rw [List.pairwise_map]
    refine List.Pairwise.imp_of_mem (fun {e f} he hf hs hsame => ?_) h.two
    obtain ⟨a, b, ha, hb, _⟩ := hok e he
    obtain ⟨a', b', ha', hb', _⟩ := hok f hf
    unfold sameP at hsame
    unfold sameE at hs
    simp [ha, hb, ha', hb'] at hs hsame
    omega
/-- and back: pairs of nodes as a graph's edges -/
def toE (ps : List (Nat × Nat)) : List E := ps.map fun e => ((e.1 : Int), (e.2 : Int), (0 : Int))
theorem prs_toE (ps : List (Nat × Nat)) : prs (toE ps) = ps := by
  unfold prs toE
  rw [List.map_map]
  have : ((fun (e : E) => (e.1.toNat, e.2.1.toNat)) ∘ fun (e : Nat × Nat) => ((e.1 : Int), (e.2 : Int), (0 : Int))) = id := by funext e; simp
  rw [this, List.map_id]
theorem toE_ok {n : Nat} {ps : List (Nat × Nat)} (h1 : ∀ e ∈ ps, e.1 ∈ List.range n ∧ e.2 ∈ List.range n ∧ e.1 ≠ e.2) (h2 : ps.Pairwise (fun e f => ¬ sameP e f)) : OkL n (toE ps) := by
  constructor
  · intro e he
    obtain ⟨f, hf, rfl⟩ := List.mem_map.1 he
    obtain ⟨h3, h4, h5⟩ := h1 f hf
    simp only [List.mem_range] at h3 h4
    refine ⟨by simp [outE]; omega, by simp; omega, by simp [heavyE]⟩
  · unfold toE
    rw [List.pairwise_map]
    refine h2.imp fun {e f} hs => ?_
    unfold sameP at hs
    unfold sameE
    simp
    omega
end Go.Proofs.YtdmbbddkbfknlaaDoor
