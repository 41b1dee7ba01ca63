/- Who has an edge with whom: bits of words, and edges; all degrees together are twice as many as edges. No program in sight. -/
import Derived.Test.YtnkmfnnkophccaaDoorNear
import Derived.Test.YtnkmfnnkophccaaDoorPopc
namespace Go.Proofs.YtnkmfnnkophccaaDoor
open Go.RowKit

theorem popc_succ (k x : Nat) : popc (k + 1) x = popc k x + if x.testBit k then 1 else 0 := by
  unfold popc
  rw [List.range_succ, List.filter_append, List.length_append]
  cases h : x.testBit k <;> simp [h]
theorem popc_or (x j : Nat) (h : x.testBit j = false) : ∀ k, popc k (x ||| 2 ^ j) = popc k x + if j < k then 1 else 0
  | 0 => by simp [popc]
  | k + 1 => by
    rw [popc_succ, popc_succ, popc_or x j h k, Nat.testBit_or, Nat.testBit_two_pow]
    by_cases hjk : j = k
    · subst hjk; simp [h]
    · by_cases hlt : j < k
      · simp [hjk, hlt, show j < k + 1 by omega]; omega
      · simp [hjk, hlt, show ¬ j < k + 1 by omega]
theorem sum_set (f : Nat → Nat) : ∀ (l : List Nat) (i v : Nat), i < l.length → ((l.set i v).map f).sum + f (l.getD i 0) = (l.map f).sum + f v
  | [], i, v, h => absurd h (by simp)
  | a :: l, 0, v, _ => by simp; omega
  | a :: l, i + 1, v, h => by
    have := sum_set f l i v (by simpa using h)
    simp only [List.set_cons_succ, List.map_cons, List.sum_cons, List.getD_cons_succ]
    omega
theorem sum_orAt (l : List Nat) (i j : Nat) (hi : i < l.length) (hj : j < 10) (h : (l.getD i 0).testBit j = false) : ((orAt l i j).map (popc 10)).sum = (l.map (popc 10)).sum + 1 := by
  have := sum_set (popc 10) l i (l.getD i 0 ||| 2 ^ j) hi
  rw [popc_or _ _ h 10, if_pos hj] at this
  unfold orAt
  omega
theorem orAt_getD (l : List Nat) (i j k : Nat) (hi : i < l.length) : (orAt l i j).getD k 0 = if i = k then l.getD i 0 ||| 2 ^ j else l.getD k 0 := by
  unfold orAt
  simp only [List.getD, List.getElem?_set]
  by_cases h : i = k
  · subst h; simp [hi]
  · simp [h]
/-- have two nodes an edge? -/
def adjE (i j : Nat) (e : E) : Bool := (e.1 == (i : Int) && e.2.1 == (j : Int)) || (e.1 == (j : Int) && e.2.1 == (i : Int))
def adj (es : List E) (i j : Nat) : Bool := es.any (adjE i j)
theorem nearW_bit {n : Nat} : ∀ (es : List E), (∀ e ∈ es, okE n e) → ∀ i j, i < n → ((nearW n es).getD i 0).testBit j = adj es i j := by
  have key : ∀ (k : Nat) (es : List E), es.length = k → (∀ e ∈ es, okE n e) → ∀ i j, i < n → ((nearW n es).getD i 0).testBit j = adj es i j := by
    intro k
    induction k with
    | zero =>
      intro es hl _ i j hi
      have : es = [] := List.eq_nil_of_length_eq_zero hl
      subst this
      simp [nearW, adj, hi]
    | succ k ih =>
      intro es hl hok i j hi
      rcases List.eq_nil_or_concat es with rfl | ⟨es', e, rfl⟩
      · simp at hl
      · rw [List.concat_eq_append] at *
        have ih := ih es' (by simpa using hl) (fun e' he' => hok e' (by simp [he'])) i j hi
        obtain ⟨x, y, hx, hy, hxn, hyn, hne⟩ := hok e (by simp)
        rw [nearW_snoc]
        unfold nstep
        rw [hx, hy, Int.toNat_natCast, Int.toNat_natCast, orAt_getD _ y x i (by rw [orAt_length, nearW_length]; exact hyn), orAt_getD _ x y y (by rw [nearW_length]; exact hxn), orAt_getD _ x y i (by rw [nearW_length]; exact hxn), if_neg hne]
        have ha : adj (es' ++ [e]) i j = (adj es' i j || adjE i j e) := by simp [adj]
        rw [ha, ← ih]
        unfold adjE
        rw [hx, hy]
        by_cases h1 : y = i
        · subst h1
          rw [if_pos rfl, Nat.testBit_or, Nat.testBit_two_pow]
          congr 1
          by_cases h2 : x = j <;> simp [h2] <;> omega
        · rw [if_neg h1]
          by_cases h2 : x = i
          · subst h2
            rw [if_pos rfl, Nat.testBit_or, Nat.testBit_two_pow]
            congr 1
            by_cases h3 : y = j <;> simp [h3] <;> omega
          · rw [if_neg h2]
            simp
            omega
  exact fun es => key es.length es rfl
theorem sum_near {n : Nat} (hn : n ≤ 10) (es : List E) (hok : ∀ e ∈ es, okE n e) (hd : ∀ j, j < es.length → echkAt n es j = 0) : ∀ k, k ≤ es.length → ((nearW n (es.take k)).map (popc 10)).sum = 2 * k
  | 0, _ => by simp [nearW, popc_zero]
  | k + 1, hk => by
    have ih := sum_near hn es hok hd k (by omega)
    have hke : k < es.length := by omega
    rw [take_succ_getD' es (0, 0, 0) k hke, nearW_snoc]
    have hmem : es.getD k (0, 0, 0) ∈ es := by simp [List.getD, hke]
    obtain ⟨x, y, hx, hy, hxn, hyn, hne⟩ := hok _ hmem
    have hz := hd k hke
    rw [echkAt] at hz
    have hany : (es.take k).any (sameE (es.getD k (0, 0, 0))) = false := by
      cases h : (es.take k).any (sameE (es.getD k (0, 0, 0)))
      · rfl
      · unfold echk at hz
        rw [h] at hz
        split at hz
        · omega
        · split at hz
          · omega
          · simp at hz
    have hok' : ∀ e ∈ es.take k, okE n e := fun e he => hok e (List.mem_of_mem_take he)
    have hadj : ∀ i j, (i = x ∧ j = y) ∨ (i = y ∧ j = x) → adj (es.take k) i j = false := by
      intro i j hij
      unfold adj
      refine List.any_eq_false.2 fun f hf => ?_
      have := List.any_eq_false.1 hany f hf
      unfold sameE at this
      rw [hx, hy] at this
      unfold adjE
      simp only [Bool.or_eq_true, Bool.and_eq_true, beq_iff_eq] at this ⊢
      rcases hij with ⟨rfl, rfl⟩ | ⟨rfl, rfl⟩ <;> omega
    have hb1 : ((nearW n (es.take k)).getD x 0).testBit y = false := by rw [nearW_bit _ hok' x y hxn]; exact hadj x y (.inl ⟨rfl, rfl⟩)
    have hb2 : ((nearW n (es.take k)).getD y 0).testBit x = false := by rw [nearW_bit _ hok' y x hyn]; exact hadj y x (.inr ⟨rfl, rfl⟩)
    unfold nstep
    rw [hx, hy, Int.toNat_natCast, Int.toNat_natCast]
    have hl := nearW_length n (es.take k)
    rw [sum_orAt _ y x (by rw [orAt_length, hl]; exact hyn) (by omega) (by rw [orAt_getD _ x y y (by rw [hl]; exact hxn), if_neg hne]; exact hb2), sum_orAt _ x y (by rw [hl]; exact hxn) (by omega) hb1, ih]
    omega
end Go.Proofs.YtnkmfnnkophccaaDoor
