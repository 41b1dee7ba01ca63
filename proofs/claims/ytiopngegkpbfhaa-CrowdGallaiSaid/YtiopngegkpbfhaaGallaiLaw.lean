/- GALLAI: no program in sight. -/
import Derived.Test.YtiopngegkpbfhaaCrowdLaw
import Derived.Test.YtiopngegkpbfhaaCovers
import Derived.Test.YtiopngegkpbfhaaRefEdge
namespace Go.Proofs.Ytiopngegkpbfhaa
open Go.RowKit

theorem andN_zero {y x : Nat} (hy : y < 4294967296) (hx : x < 4294967296) : andN y x = 0 ↔ ∀ j, y.testBit j = true → x.testBit j = true := by
  constructor
  · intro h j hj
    have := testBit_andN hx hy j
    rw [h, hj] at this
    simpa using this
  · intro h
    apply Nat.eq_of_testBit_eq
    intro j
    rw [testBit_andN hx hy]
    cases hj : y.testBit j
    · simp
    · simp [h j hj]
theorem compl_bit {N x : Nat} (hN : N ≤ 10) (hx : x < 4294967296) (i : Nat) : (andN (2 ^ N - 1) x).testBit i = (decide (i < N) && !x.testBit i) := by
  have h2 : 2 ^ N ≤ 2 ^ 10 := Nat.pow_le_pow_right (by omega) hN
  rw [testBit_andN hx (by omega), Nat.testBit_two_pow_sub_one]
theorem popc_compl {N x : Nat} (hN : N ≤ 10) (hx : x < 2 ^ N) (hx2 : x < 4294967296) : ∀ k, popc k (andN (2 ^ N - 1) x) + popc k x = min k N
  | 0 => by simp [popc]
  | k + 1 => by
    have ih := popc_compl hN hx hx2 k
    rw [popc_next, popc_next, compl_bit hN hx2]
    by_cases hk : k < N
    · cases x.testBit k <;> simp [hk] <;> omega
    · rw [tb_high hx (by omega)]
      simp [hk]; omega
theorem covers_iff {L : List Nat} {N x : Nat} (hL : ∀ y ∈ L, y < 1024) (hx : x < 1024) : coversB L N x = true ↔ ∀ i, i < N → x.testBit i = false → ∀ j, (L.getD i 0).testBit j = true → x.testBit j = true := by
  unfold coversB
  rw [Bool.not_eq_true', List.any_eq_false]
  constructor
  · intro h i hi hxi
    have h1 := h i (List.mem_range.2 hi)
    unfold badC at h1
    rw [hxi] at h1
    have h2 := getD_lt1024' hL i
    simp at h1
    exact (andN_zero (by simpa [List.getD] using (show L.getD i 0 < 4294967296 by omega)) (by omega)).1 (by simpa [List.getD] using h1)
  · intro h i hi
    unfold badC
    have h2 := getD_lt1024' hL i
    cases hxi : x.testBit i
    · have := (andN_zero (by omega) (by omega)).2 (h i (List.mem_range.1 hi) hxi)
      rw [this]; simp
    · simp
theorem loose_iff {n : Nat} {es : List E} (hok : ∀ e ∈ es, okE n e) (x : Nat) : looseB es x = true ↔ ∀ i j, adj es i j = true → ¬ (x.testBit i = true ∧ x.testBit j = true) := by
  unfold looseB
  rw [Bool.not_eq_true', List.any_eq_false]
  constructor
  · rintro h i j ha ⟨h1, h2⟩
    obtain ⟨e, he, hadj⟩ := List.any_eq_true.1 ha
    have h3 := h e he
    unfold tight at h3
    unfold adjE at hadj
    simp only [Bool.or_eq_true, Bool.and_eq_true, beq_iff_eq] at hadj
    rcases hadj with ⟨e1, e2⟩ | ⟨e1, e2⟩
    · rw [e1, e2, Int.toNat_natCast, Int.toNat_natCast, h1, h2] at h3; simp at h3
    · rw [e1, e2, Int.toNat_natCast, Int.toNat_natCast, h1, h2] at h3; simp at h3
  · intro h e he
    obtain ⟨a, b, h1, h2, _⟩ := hok e he
    have ha : adj es a b = true := List.any_eq_true.2 ⟨e, he, by unfold adjE; rw [h1, h2]; simp⟩
    have := h a b ha
    unfold tight
    rw [h1, h2, Int.toNat_natCast, Int.toNat_natCast]
    simpa using this
structure Gal (es : List E) (n a c : Nat) : Prop where
  a1 : andN a (2 ^ n - 1) = 0
  c1 : andN c (2 ^ n - 1) = 0
  la : looseB es a = true
  lc : looseB es (andN (2 ^ n - 1) c) = true
  sum : popc 10 a + popc 10 c = n
theorem gallai_law {n a c : Nat} (hn : n ≤ 10) {es : List E} (hok : ∀ e ∈ es, okE n e) (ha : MaxCl (othW n es) n a) (hc : MinCov (nearW n es) n c) : Gal es n a c := by
  have hp10 : 2 ^ n ≤ 2 ^ 10 := Nat.pow_le_pow_right (by omega) hn
  have hL := nearW_lt hn hok
  have a2 : a < 2 ^ n := ha.2.1
  have c2 : c < 2 ^ n := hc.2.1
  have hfull : ∀ x, x < 2 ^ n → andN x (2 ^ n - 1) = 0 := fun x hx => (andN_zero (by omega) (by omega)).2 (subW_full hx)
  have hind := (isCl_oth hn hok a2).1 ha.1
  have hind2 : ∀ i j, a.testBit i = true → a.testBit j = true → adj es i j = false := fun i j h1 h2 => by
    rcases Nat.lt_trichotomy i j with h | rfl | h
    · rw [adj_symm]; exact hind j i h h2 h1
    · exact adj_irr hok _
    · exact hind i j h h1 h2
  have hcov := (covers_iff hL (show c < 1024 by omega)).1 hc.1
  have hcov2 : ∀ i j, adj es i j = true → c.testBit i = true ∨ c.testBit j = true := fun i j h => by
    cases h1 : c.testBit i
    · exact .inr (hcov i (adj_lt hok h).1 h1 j (by rw [nearW_bit es hok i j (adj_lt hok h).1]; exact h))
    · exact .inl rfl
  have hcc := compl_bit (N := n) (x := c) hn (by omega)
  have hca := compl_bit (N := n) (x := a) hn (by omega)
  have hlc : ∀ i j, adj es i j = true → ¬ ((andN (2 ^ n - 1) c).testBit i = true ∧ (andN (2 ^ n - 1) c).testBit j = true) := fun i j h => by
    rw [hcc, hcc]
    rcases hcov2 i j h with h1 | h1 <;> simp [h1]
  have hltc : andN (2 ^ n - 1) c < 2 ^ n := by have := andN_le (2 ^ n - 1) c; have := Nat.two_pow_pos n; omega
  have hlta : andN (2 ^ n - 1) a < 2 ^ n := by have := andN_le (2 ^ n - 1) a; have := Nat.two_pow_pos n; omega
  have h1 := ha.2.2 _ hltc ((isCl_oth hn hok hltc).2 fun i j _ hi hj => by
    cases h : adj es i j
    · rfl
    · exact absurd ⟨hi, hj⟩ (hlc i j h))
  have h2 := hc.2.2 _ hlta ((covers_iff hL (by omega)).2 fun i hi hni j hj => by
    rw [nearW_bit es hok i j hi] at hj
    rw [hca] at hni ⊢
    have hai : a.testBit i = true := by simpa [hi] using hni
    have := (adj_lt hok hj).2
    simp [this]
    cases h : a.testBit j
    · rfl
    · have := hind2 i j hai h; rw [this] at hj; cases hj)
  have h3 := popc_compl hn c2 (by omega) 10
  have h4 := popc_compl hn a2 (by omega) 10
  exact ⟨hfull a a2, hfull c c2, (loose_iff hok a).2 (fun i j h ⟨h5, h6⟩ => by rw [hind2 i j h5 h6] at h; cases h), (loose_iff hok _).2 hlc, by omega⟩
end Go.Proofs.Ytiopngegkpbfhaa
