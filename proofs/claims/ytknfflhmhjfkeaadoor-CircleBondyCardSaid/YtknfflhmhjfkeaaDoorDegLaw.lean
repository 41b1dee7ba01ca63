/- Degrees of a graph as words: the parts of XCrowdLaw that need no function of the crowd's seat. -/
import Derived.Test.YtknfflhmhjfkeaaDoorCaro
import Derived.Test.YtknfflhmhjfkeaaDoorAdj
namespace Go.Proofs.YtknfflhmhjfkeaaDoor
open Go.RowKit

theorem adj_symm (es : List E) (i j : Nat) : adj es i j = adj es j i := by
  unfold adj
  congr 1
  funext e
  unfold adjE
  exact Bool.or_comm _ _
theorem adj_irr {n : Nat} {es : List E} (hok : ∀ e ∈ es, okE n e) (i : Nat) : adj es i i = false := by
  unfold adj
  refine List.any_eq_false.2 fun e he => ?_
  obtain ⟨x, y, hx, hy, _, _, hne⟩ := hok e he
  unfold adjE
  rw [hx, hy]
  simp
  omega
theorem adj_lt {n : Nat} {es : List E} (hok : ∀ e ∈ es, okE n e) {i j : Nat} (h : adj es i j = true) : i < n ∧ j < n := by
  obtain ⟨e, he, h⟩ := List.any_eq_true.1 h
  obtain ⟨x, y, hx, hy, hxn, hyn, _⟩ := hok e he
  unfold adjE at h
  rw [hx, hy] at h
  simp at h
  omega
/-- how many edges a node has -/
def incE (i : Nat) (e : E) : Bool := e.1 == (i : Int) || e.2.1 == (i : Int)
def degE (es : List E) (i : Nat) : Nat := (es.filter (incE i)).length
theorem deg_near {n : Nat} (hn : n ≤ 10) (es : List E) (hok : ∀ e ∈ es, okE n e) (hd : ∀ j, j < es.length → echkAt n es j = 0) (i : Nat) (hi : i < n) : ∀ k, k ≤ es.length → popc 10 ((nearW n (es.take k)).getD i 0) = degE (es.take k) i
  | 0, _ => by simp [nearW, degE, popc_zero, List.getD, hi]
  | k + 1, hk => by
    have ih := deg_near hn es hok hd i hi k (by omega)
    have hke : k < es.length := by omega
    rw [take_succ_getD' es (0, 0, 0) k hke, nearW_snoc]
    have hmem : es.getD k (0, 0, 0) ∈ es := by simp [List.getD, hke]
    obtain ⟨x, y, hx, hy, hxn, hyn, hne⟩ := hok _ hmem
    have hz := hd k hke
    rw [echkAt] at hz
    have hany : (es.take k).any (sameE (es.getD k (0, 0, 0))) = false := by
      cases h : (es.take k).any (sameE (es.getD k (0, 0, 0)))
      · rfl
      · unfold echk at hz
        rw [h] at hz
        split at hz
        · omega
        · split at hz
          · omega
          · simp at hz
    have hok' : ∀ e ∈ es.take k, okE n e := fun e he => hok e (List.mem_of_mem_take he)
    have hadj : ∀ i j, (i = x ∧ j = y) ∨ (i = y ∧ j = x) → adj (es.take k) i j = false := by
      intro i j hij
      unfold adj
      refine List.any_eq_false.2 fun f hf => ?_
      have := List.any_eq_false.1 hany f hf
      unfold sameE at this
      rw [hx, hy] at this
      unfold adjE
      simp only [Bool.or_eq_true, Bool.and_eq_true, beq_iff_eq] at this ⊢
      rcases hij with ⟨rfl, rfl⟩ | ⟨rfl, rfl⟩ <;> omega
    have hb1 : ((nearW n (es.take k)).getD x 0).testBit y = false := by rw [nearW_bit _ hok' x y hxn]; exact hadj x y (.inl ⟨rfl, rfl⟩)
    have hb2 : ((nearW n (es.take k)).getD y 0).testBit x = false := by rw [nearW_bit _ hok' y x hyn]; exact hadj y x (.inr ⟨rfl, rfl⟩)
    have hde : degE (es.take k ++ [es.getD k (0, 0, 0)]) i = degE (es.take k) i + if x = i ∨ y = i then 1 else 0 := by
      unfold degE
      rw [List.filter_append, List.length_append]
      congr 1
      unfold incE
      rw [List.filter_cons, hx, hy]
      by_cases h : x = i ∨ y = i
      · rw [if_pos h, if_pos (by simp; omega)]; rfl
      · rw [if_neg h, if_neg (by simp; omega)]; rfl
    rw [hde, ← ih]
    unfold nstep
    rw [hx, hy, Int.toNat_natCast, Int.toNat_natCast, orAt_getD _ y x i (by rw [orAt_length, nearW_length]; exact hyn), orAt_getD _ x y y (by rw [nearW_length]; exact hxn), orAt_getD _ x y i (by rw [nearW_length]; exact hxn), if_neg hne]
    by_cases h1 : y = i
    · subst h1
      rw [if_pos rfl, popc_or _ _ hb2, if_pos (by omega), if_pos (.inr rfl)]
    · rw [if_neg h1]
      by_cases h2 : x = i
      · subst h2
        rw [if_pos rfl, popc_or _ _ hb1, if_pos (by omega), if_pos (.inl rfl)]
      · rw [if_neg h2, if_neg (by omega)]; rfl
theorem dg_deg {n : Nat} (hn : n ≤ 10) {es : List E} (hok : ∀ e ∈ es, okE n e) (hd : ∀ j, j < es.length → echkAt n es j = 0) {i : Nat} (hi : i < n) : dg (adj es) (List.range n) i = degE es i := by
  have h := deg_near hn es hok hd i hi es.length (Nat.le_refl _)
  rw [List.take_of_length_le (Nat.le_refl _)] at h
  rw [← h]
  unfold dg popc
  have e1 : (List.range 10).filter (fun j => ((nearW n es).getD i 0).testBit j) = (List.range 10).filter (adj es i) := List.filter_congr fun j _ => nearW_bit es hok i j hi
  have e2 : (List.range 10).filter (adj es i) = (List.range n).filter (adj es i) := by
    have : List.range 10 = List.range n ++ (List.range (10 - n)).map (n + ·) := by
      rw [← List.range_add]; congr 1; omega
    rw [this, List.filter_append]
    have h0 : ((List.range (10 - n)).map (n + ·)).filter (adj es i) = [] := by
      rw [List.filter_eq_nil_iff]
      intro j hj
      rw [List.mem_map] at hj
      obtain ⟨k, _, rfl⟩ := hj
      intro hh
      have := (adj_lt hok hh).2
      omega
    rw [h0, List.append_nil]
  rw [e1, e2]
end Go.Proofs.YtknfflhmhjfkeaaDoor
