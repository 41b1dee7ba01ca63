/- CARO, WEI; TURAN, for graphs as words. No program in sight. -/
import Derived.Test.YtnpgnohnpbdblaaDoorCaro
import Derived.Test.YtnpgnohnpbdblaaDoorAdj
import Derived.Test.YtnpgnohnpbdblaaDoorCrowd
namespace Go.Proofs.YtnpgnohnpbdblaaDoor
open Go.RowKit

theorem adj_symm (es : List E) (i j : Nat) : adj es i j = adj es j i := by
  unfold adj
  congr 1
  funext e
  unfold adjE
  exact Bool.or_comm _ _
theorem adj_irr {n : Nat} {es : List E} (hok : ∀ e ∈ es, okE n e) (i : Nat) : adj es i i = false := by
  unfold adj
  refine List.any_eq_false.2 fun e he => ?_
  obtain ⟨x, y, hx, hy, _, _, hne⟩ := hok e he
  unfold adjE
  rw [hx, hy]
  simp
  omega
theorem adj_lt {n : Nat} {es : List E} (hok : ∀ e ∈ es, okE n e) {i j : Nat} (h : adj es i j = true) : i < n ∧ j < n := by
  obtain ⟨e, he, h⟩ := List.any_eq_true.1 h
  obtain ⟨x, y, hx, hy, hxn, hyn, _⟩ := hok e he
  unfold adjE at h
  rw [hx, hy] at h
  simp at h
  omega
theorem isCl_near {n : Nat} {es : List E} (hok : ∀ e ∈ es, okE n e) {s : Nat} (hs : s < 2 ^ n) : isCl (nearW n es) s ↔ ∀ i j, j < i → s.testBit i = true → s.testBit j = true → adj es i j = true := by
  unfold isCl
  constructor
  · intro h i j hj hi hjs
    have hin : i < n := Classical.byContradiction fun hh => by rw [tb_high hs (by omega)] at hi; cases hi
    rw [← nearW_bit es hok i j hin]; exact h i j hj hi hjs
  · intro h i j hj hi hjs
    have hin : i < n := Classical.byContradiction fun hh => by rw [tb_high hs (by omega)] at hi; cases hi
    rw [nearW_bit es hok i j hin]; exact h i j hj hi hjs
theorem othW_bit {n : Nat} (hn : n ≤ 10) {es : List E} (hok : ∀ e ∈ es, okE n e) (i j : Nat) (hi : i < n) : ((othW n es).getD i 0).testBit j = (decide (j < n) && !adj es i j) := by
  have hl := nearW_length n es
  have hlt := nearW_lt hn hok
  have h1 : (othW n es).getD i 0 = andN (2 ^ n - 1) ((nearW n es).getD i 0) := by
    unfold othW
    simp [List.getD, show i < (nearW n es).length by omega]
  have h2 := getD_lt1024' hlt i
  have h3 : 2 ^ n ≤ 2 ^ 10 := Nat.pow_le_pow_right (by omega) hn
  rw [h1, testBit_andN (by omega) (by omega), Nat.testBit_two_pow_sub_one, nearW_bit es hok i j hi]
theorem isCl_oth {n : Nat} (hn : n ≤ 10) {es : List E} (hok : ∀ e ∈ es, okE n e) {s : Nat} (hs : s < 2 ^ n) : isCl (othW n es) s ↔ ∀ i j, j < i → s.testBit i = true → s.testBit j = true → adj es i j = false := by
  have hb : ∀ i, s.testBit i = true → i < n := fun i hi => Classical.byContradiction fun hh => by rw [tb_high hs (by omega)] at hi; cases hi
  unfold isCl
  constructor
  · intro h i j hj hi hjs
    have := h i j hj hi hjs
    rw [othW_bit hn hok i j (hb i hi)] at this
    simp at this
    exact this.2
  · intro h i j hj hi hjs
    rw [othW_bit hn hok i j (hb i hi), h i j hj hi hjs]
    simp [hb j hjs]
/-- a list of nodes as a word -/
def lw (n : Nat) (s : List Nat) : Nat := wordOf n s.contains
theorem lw_bit {n : Nat} (s : List Nat) (i : Nat) : (lw n s).testBit i = true ↔ i < n ∧ i ∈ s := by
  unfold lw; rw [wordOf_bit]; simp
theorem lw_lt (n : Nat) (s : List Nat) : lw n s < 2 ^ n := wordOf_lt _ n
theorem lw_popc {n : Nat} (hn : n ≤ 10) {s : List Nat} (hs : s.Sublist (List.range n)) : s.length ≤ popc 10 (lw n s) := by
  unfold popc
  refine (List.nodup_range.sublist hs).length_le_of_subset fun x hx => ?_
  have := List.mem_range.1 (hs.subset hx)
  rw [List.mem_filter]
  exact ⟨by simp; omega, (lw_bit s x).2 ⟨this, hx⟩⟩
/-- how many edges a node has -/
def incE (i : Nat) (e : E) : Bool := e.1 == (i : Int) || e.2.1 == (i : Int)
def degE (es : List E) (i : Nat) : Nat := (es.filter (incE i)).length
theorem deg_near {n : Nat} (hn : n ≤ 10) (es : List E) (hok : ∀ e ∈ es, okE n e) (hd : ∀ j, j < es.length → echkAt n es j = 0) (i : Nat) (hi : i < n) : ∀ k, k ≤ es.length → popc 10 ((nearW n (es.take k)).getD i 0) = degE (es.take k) i
  | 0, _ => by simp [nearW, degE, popc_zero, List.getD, hi]
  | k + 1, hk => by
    have ih := deg_near hn es hok hd i hi k (by omega)
    have hke : k < es.length := by omega
    rw [take_succ_getD' es (0, 0, 0) k hke, nearW_snoc]
    have hmem : es.getD k (0, 0, 0) ∈ es := by simp [List.getD, hke]
    obtain ⟨x, y, hx, hy, hxn, hyn, hne⟩ := hok _ hmem
    have hz := hd k hke
    rw [echkAt] at hz
    have hany : (es.take k).any (sameE (es.getD k (0, 0, 0))) = false := by
      cases h : (es.take k).any (sameE (es.getD k (0, 0, 0)))
      · rfl
      · unfold echk at hz
        rw [h] at hz
        split at hz
        · omega
        · split at hz
          · omega
          · simp at hz
    have hok' : ∀ e ∈ es.take k, okE n e := fun e he => hok e (List.mem_of_mem_take he)
    have hadj : ∀ i j, (i = x ∧ j = y) ∨ (i = y ∧ j = x) → adj (es.take k) i j = false := by
      intro i j hij
      unfold adj
      refine List.any_eq_false.2 fun f hf => ?_
      have := List.any_eq_false.1 hany f hf
      unfold sameE at this
      rw [hx, hy] at this
      unfold adjE
      simp only [Bool.or_eq_true, Bool.and_eq_true, beq_iff_eq] at this ⊢
      rcases hij with ⟨rfl, rfl⟩ | ⟨rfl, rfl⟩ <;> omega
    have hb1 : ((nearW n (es.take k)).getD x 0).testBit y = false := by rw [nearW_bit _ hok' x y hxn]; exact hadj x y (.inl ⟨rfl, rfl⟩)
    have hb2 : ((nearW n (es.take k)).getD y 0).testBit x = false := by rw [nearW_bit _ hok' y x hyn]; exact hadj y x (.inr ⟨rfl, rfl⟩)
    have hde : degE (es.take k ++ [es.getD k (0, 0, 0)]) i = degE (es.take k) i + if x = i ∨ y = i then 1 else 0 := by
      unfold degE
      rw [List.filter_append, List.length_append]
      congr 1
      unfold incE
      rw [List.filter_cons, hx, hy]
      by_cases h : x = i ∨ y = i
      · rw [if_pos h, if_pos (by simp; omega)]; rfl
      · rw [if_neg h, if_neg (by simp; omega)]; rfl
    rw [hde, ← ih]
    unfold nstep
    rw [hx, hy, Int.toNat_natCast, Int.toNat_natCast, orAt_getD _ y x i (by rw [orAt_length, nearW_length]; exact hyn), orAt_getD _ x y y (by rw [nearW_length]; exact hxn), orAt_getD _ x y i (by rw [nearW_length]; exact hxn), if_neg hne]
    by_cases h1 : y = i
    · subst h1
      rw [if_pos rfl, popc_or _ _ hb2, if_pos (by omega), if_pos (.inr rfl)]
    · rw [if_neg h1]
      by_cases h2 : x = i
      · subst h2
        rw [if_pos rfl, popc_or _ _ hb1, if_pos (by omega), if_pos (.inl rfl)]
      · rw [if_neg h2, if_neg (by omega)]; rfl
theorem dg_deg {n : Nat} (hn : n ≤ 10) {es : List E} (hok : ∀ e ∈ es, okE n e) (hd : ∀ j, j < es.length → echkAt n es j = 0) {i : Nat} (hi : i < n) : dg (adj es) (List.range n) i = degE es i := by
  have h := deg_near hn es hok hd i hi es.length (Nat.le_refl _)
  rw [List.take_of_length_le (Nat.le_refl _)] at h
  rw [← h]
  unfold dg popc
  have e1 : (List.range 10).filter (fun j => ((nearW n es).getD i 0).testBit j) = (List.range 10).filter (adj es i) := List.filter_congr fun j _ => nearW_bit es hok i j hi
  have e2 : (List.range 10).filter (adj es i) = (List.range n).filter (adj es i) := by
    have : List.range 10 = List.range n ++ (List.range (10 - n)).map (n + ·) := by
      rw [← List.range_add]; congr 1; omega
    rw [this, List.filter_append]
    have h0 : ((List.range (10 - n)).map (n + ·)).filter (adj es i) = [] := by
      rw [List.filter_eq_nil_iff]
      intro j hj
      rw [List.mem_map] at hj
      obtain ⟨k, _, rfl⟩ := hj
      intro hh
      have := (adj_lt hok hh).2
      omega
    rw [h0, List.append_nil]
  rw [e1, e2]
theorem f2520 (d : Nat) : (d + 1) * (2520 / (d + 1)) ≤ 2520 := Nat.mul_div_le _ _
theorem f2520_anti (d e : Nat) (h : d ≤ e) : 2520 / (e + 1) ≤ 2520 / (d + 1) := Nat.div_le_div_left (by omega) (by omega)
theorem wei_law {n b : Nat} (hn : n ≤ 10) {es : List E} (hok : ∀ e ∈ es, okE n e) (hd : ∀ j, j < es.length → echkAt n es j = 0) (hm : MaxCl (othW n es) n b) : lsum (List.range n) (fun i => 2520 / (degE es i + 1)) ≤ 2520 * popc 10 b := by
  obtain ⟨s, h1, h2, h3⟩ := caro (adj es) (adj_symm es) (adj_irr hok) (fun d => 2520 / (d + 1)) 2520 (fun d e => f2520_anti d e) f2520 n (List.range n) (by simp) List.nodup_range
  have h4 : isCl (othW n es) (lw n s) := (isCl_oth hn hok (lw_lt n s)).2 fun i j _ hi hj => h2 i ((lw_bit s i).1 hi).2 j ((lw_bit s j).1 hj).2
  have h5 := hm.2.2 _ (lw_lt n s) h4
  have h6 := lw_popc hn h1
  have h7 : lsum (List.range n) (fun i => 2520 / (degE es i + 1)) = lsum (List.range n) (fun i => 2520 / (dg (adj es) (List.range n) i + 1)) := by
    unfold lsum
    congr 1
    exact List.map_congr_left fun i hi => by rw [dg_deg hn hok hd (List.mem_range.1 hi)]
  rw [h7]
  exact Nat.le_trans h3 (Nat.mul_le_mul_left _ (Nat.le_trans h6 h5))
end Go.Proofs.YtnpgnohnpbdblaaDoor
