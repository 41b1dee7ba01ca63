/- Berge, Hall, Konig, at what is told. No program in sight. -/
import Derived.Test.YtepphkloghaihaaDoorBerCover
namespace Go.Proofs.YtepphkloghaihaaDoor

theorem word_of (S : Nat → Bool) : ∀ n : Nat, (∀ i, S i = true → i < n) → ∃ u, u < 2 ^ n ∧ ∀ i, u.testBit i = S i
  | 0, h => ⟨0, by simp, fun i => by
    cases hs : S i
    · simp
    · have := h i hs; omega⟩
  | n + 1, h => by
    obtain ⟨u, hu, hb⟩ := word_of (fun i => S i && decide (i < n)) n fun i hi => by simp at hi; exact hi.2
    cases hs : S n
    · refine ⟨u, by have := Nat.pow_lt_pow_right (a := 2) (by omega) (show n < n + 1 by omega); omega, fun i => ?_⟩
      rw [hb]
      by_cases hi : i < n
      · simp [hi]
      · cases hsi : S i
        · simp
        · have := h i hsi
          obtain rfl : i = n := by omega
          rw [hs] at hsi; cases hsi
    · refine ⟨u ||| 2 ^ n, Nat.or_lt_two_pow (by have := Nat.pow_lt_pow_right (a := 2) (by omega) (show n < n + 1 by omega); omega) (Nat.pow_lt_pow_right (by omega) (by omega)), fun i => ?_⟩
      rw [Nat.testBit_or, hb, Nat.testBit_two_pow]
      by_cases hi : n = i
      · subst hi; simp [hs]
      · by_cases hi2 : i < n
        · simp [hi, hi2]
        · cases hsi : S i
          · simp [hi]
          · have := h i hsi; omega
theorem df_cnt {ns : List Nat} {n u : Nat} (hu : u < 2 ^ n) (hn : n ≤ 8) : dfW ns n u = (cnt8 u.testBit : Int) - cnt8 (NS ns u.testBit) := by
  unfold dfW
  rw [← cnt_popc u, ← cnt_popc (frW ns u n), cnt_congr fun j _ => fr_NS (ns := ns) hu hn j]
/-- HALL, ORE -/
theorem hall {ns : List Nat} {n K b : Nat} (hl : ns.length = n) (hn : n ≤ 8) (hM : Mx ns K) (hb : b < 2 ^ n) (hmax : ∀ u, u < 2 ^ n → dfW ns n u ≤ dfW ns n b) : (n : Int) - K = dfW ns n b := by
  obtain ⟨⟨P, hP, rfl⟩, S, hS, hd⟩ := hM
  obtain ⟨u, hu, hub⟩ := word_of S n fun i hi => by rw [← hl]; exact hS i hi
  have h1 := hmax u hu
  rw [df_cnt hu hn] at h1
  have e : u.testBit = S := funext hub
  rw [e] at h1
  have h2 := hP.le (by omega) (S := b.testBit) fun m hm => by rw [hl]; exact lt_of_bit hb hm
  rw [hl] at h2 hd
  rw [df_cnt hb hn] at h1 ⊢
  omega
theorem andN_compl {n b : Nat} (hn : n ≤ 8) (hb : b < 2 ^ n) (i : Nat) : (andN (2 ^ n - 1) b).testBit i = (decide (i < n) && !b.testBit i) := by
  have h8 : 2 ^ n ≤ 2 ^ 8 := Nat.pow_le_pow_right (by omega) hn
  rw [testBit_andN (by omega) (by omega), Nat.testBit_two_pow_sub_one]
theorem cv_df {ns : List Nat} {n b : Nat} (hn : n ≤ 8) (hb : b < 2 ^ n) : cvW ns n b = (n : Int) - dfW ns n (andN (2 ^ n - 1) b) := by
  unfold cvW dfW
  have h1 : popc 8 b + popc 8 (andN (2 ^ n - 1) b) = n := by
    rw [← cnt_popc, ← cnt_popc]
    have h := cnt_split (fun i => decide (i < n)) b.testBit
    rw [cnt_below n hn] at h
    have e1 : cnt8 (fun j => decide (j < n) && b.testBit j) = cnt8 b.testBit := cnt_congr fun j _ => by
      cases hj : b.testBit j
      · simp
      · simp [lt_of_bit hb hj]
    have e2 : cnt8 (fun j => decide (j < n) && !b.testBit j) = cnt8 (andN (2 ^ n - 1) b).testBit := cnt_congr fun j _ => (andN_compl hn hb j).symm
    omega
  omega
theorem compl_lt {n b : Nat} : andN (2 ^ n - 1) b < 2 ^ n := by
  have := andN_le (2 ^ n - 1) b
  have := Nat.two_pow_pos n
  omega
theorem compl_compl {n b : Nat} (hn : n ≤ 8) (hb : b < 2 ^ n) : andN (2 ^ n - 1) (andN (2 ^ n - 1) b) = b := by
  apply Nat.eq_of_testBit_eq
  intro i
  rw [andN_compl hn compl_lt, andN_compl hn hb]
  cases hi : b.testBit i
  · by_cases h : i < n <;> simp [h]
  · simp [lt_of_bit hb hi]
/-- KONIG -/
theorem konig {ns : List Nat} {n K b : Nat} (hl : ns.length = n) (hn : n ≤ 8) (hM : Mx ns K) (hb : b < 2 ^ n) (hmin : ∀ u, u < 2 ^ n → cvW ns n b ≤ cvW ns n u) : (K : Int) = cvW ns n b := by
  have h := hall (b := andN (2 ^ n - 1) b) hl hn hM compl_lt fun u hu => by
    have h1 := hmin _ (compl_lt (n := n) (b := u))
    rw [cv_df hn hb, cv_df hn compl_lt, compl_compl hn hu] at h1
    omega
  rw [cv_df hn hb]; omega
theorem fr_sup {ns : List Nat} (m i j : Nat) : ∀ n, i < n → m.testBit i = true → (ns.getD i 0).testBit j = true → (frW ns m n).testBit j = true := fun n hi hm hj => by
  rw [frW_bit, List.any_eq_true]
  exact ⟨i, by simpa using hi, by rw [hm]; exact hj⟩
/-- what is covered -/
theorem covered {ns : List Nat} {n b : Nat} (hns : ∀ i, ns.getD i 0 < 256) (hn : n ≤ 8) (hb : b < 2 ^ n) (i : Nat) (hi : i < n) (hbi : b.testBit i = false) : andN (ns.getD i 0) (frW ns (andN (2 ^ n - 1) b) n) = 0 := by
  apply Nat.eq_of_testBit_eq
  intro j
  rw [testBit_andN (by have := frW_lt hns (andN (2 ^ n - 1) b) n; omega) (by have := hns i; omega), Nat.zero_testBit]
  cases hj : (ns.getD i 0).testBit j
  · rfl
  · rw [fr_sup _ i j n hi (by rw [andN_compl hn hb, hbi]; simp [hi]) hj]; rfl
/-- the pairing of a list, by the right -/
def byR (l : List Int) (j : Nat) : Int := match (List.range l.length).find? fun i => l.getD i 0 == (j : Int) with | some i => (i : Int) | none => -1
theorem byR_some {l : List Int} {j : Nat} {i : Int} (h : byR l j = i) (h0 : 0 ≤ i) : i.toNat < l.length ∧ l.getD i.toNat 0 = (j : Int) := by
  unfold byR at h
  split at h
  · rename_i k hk
    subst h
    have h1 := List.find?_some hk
    have h2 := List.mem_of_find?_eq_some hk
    simp only [List.mem_range, beq_iff_eq] at h1 h2
    exact ⟨by omega, by simpa using h1⟩
  · omega
theorem byR_none {l : List Int} {j : Nat} (h : byR l j < 0) : ∀ i, i < l.length → l.getD i 0 ≠ (j : Int) := by
  unfold byR at h
  split at h
  · omega
  · rename_i hk
    rw [List.find?_eq_none] at hk
    intro i hi e
    exact hk i (by simpa using hi) (by simpa using e)
theorem prd_cnt (ls : List Int) : ∀ k, k ≤ 8 → prd ls k = cnt8 fun i => decide (i < k) && decide (0 ≤ ls.getD i 0)
  | 0, _ => by
    have : (cnt8 fun i => decide (i < 0) && decide (0 ≤ ls.getD i 0)) = cnt8 fun _ => false := cnt_congr fun j _ => by simp
    rw [this]; rfl
  | k + 1, h => by
    rw [prd, prd_cnt ls k (by omega), cnt_split (fun i => decide (i < k + 1) && decide (0 ≤ ls.getD i 0)) fun i => decide (i < k)]
    have e1 : (cnt8 fun j => (decide (j < k + 1) && decide (0 ≤ ls.getD j 0)) && decide (j < k)) = cnt8 fun i => decide (i < k) && decide (0 ≤ ls.getD i 0) := cnt_congr fun j _ => by
      by_cases hj : j < k
      · simp [hj, show j < k + 1 by omega]
      · simp [hj]
    have e2 : (cnt8 fun j => (decide (j < k + 1) && decide (0 ≤ ls.getD j 0)) && !decide (j < k)) = if 0 ≤ ls.getD k 0 then 1 else 0 := by
      have : (cnt8 fun j => (decide (j < k + 1) && decide (0 ≤ ls.getD j 0)) && !decide (j < k)) = cnt8 fun j => decide (j = k) && decide (0 ≤ ls.getD k 0) := cnt_congr fun j _ => by
        by_cases hj : j = k
        · subst hj; simp
        · by_cases h2 : j < k
          · simp [h2, hj]
          · simp [h2, hj, show ¬ j < k + 1 by omega]
      rw [this]
      split
      · rename_i h0
        have h3 : ∀ k, k < 8 → (cnt8 fun j => decide (j = k)) = 1 := by decide
        rw [← h3 k (by omega)]
        exact cnt_congr fun j _ => by rw [decide_eq_true h0, Bool.and_true]
      · rename_i h0
        have h3 : (cnt8 fun _ => false) = 0 := by decide
        rw [← h3]
        exact cnt_congr fun j _ => by rw [decide_eq_false h0, Bool.and_false]
    rw [e1, e2]
    split <;> omega
theorem bitI_some {x : Nat} {i : Int} (h : bitI x i = true) (hx : x < 256) : 0 ≤ i ∧ i < 8 ∧ x.testBit i.toNat = true := by
  simp only [bitI, Bool.and_eq_true, decide_eq_true_eq] at h
  refine ⟨h.1.1, ?_, h.2⟩
  have := lt_of_bit (n := 8) hx h.2
  omega
theorem Pg.pm {ns : List Nat} {ls : List Int} (hns : ∀ i, ns.getD i 0 < 256) (hn : ns.length ≤ 8) (h : Pg ns ls) : ∃ P, PM ns 0 P ∧ cntP P = prd ls ns.length := by
  have ok : ∀ i, i < ls.length → 0 ≤ ls.getD i 0 → ls.getD i 0 < 8 ∧ (ns.getD i 0).testBit (ls.getD i 0).toNat = true ∧ ∀ m, m < i → ls.getD m 0 ≠ ls.getD i 0 := fun i hi h0 => by
    have h1 := h.2 i hi
    unfold pOk at h1
    have hne : (ls.getD i 0 == -1) = false := beq_eq_false_iff_ne.2 (by omega)
    rw [hne, Bool.false_or, Bool.and_eq_true] at h1
    obtain ⟨h2, h3⟩ := h1
    have h4 := bitI_some h2 (hns i)
    refine ⟨h4.2.1, h4.2.2, fun m hm e => ?_⟩
    simp only [hasB, Bool.not_eq_true', List.any_eq_false, beq_iff_eq] at h3
    apply h3 (ls.getD m 0) _ e.symm
    rw [List.mem_iff_getElem]
    refine ⟨m, by simp; omega, ?_⟩
    simp [List.getD, show m < ls.length by omega]
  refine ⟨byR ls, ⟨fun j _ => ?_, fun j hj _ h0 => ?_, fun j j' hj hj' _ _ h0 e => ?_⟩, ?_⟩
  · rcases Int.lt_or_le (byR ls j) 0 with h0 | h0
    · have h1 : byR ls j = -1 := by
        unfold byR at h0 ⊢
        split at h0
        · omega
        · rfl
      omega
    · have := byR_some rfl h0
      rw [h.1] at this; omega
  · have h1 := byR_some rfl h0
    have h2 := ok _ h1.1 (by rw [h1.2]; omega)
    rw [h1.2] at h2
    simpa [nbr] using h2.2.1
  · have h1 := byR_some rfl h0
    have h2 := byR_some (l := ls) (j := j') rfl (by rw [← e]; exact h0)
    rw [← e] at h2
    omega
  · rw [prd_cnt _ _ hn]
    apply Nat.le_antisymm
    · refine cnt_inj (fun j => (byR ls j).toNat) (fun j hj hp => ?_) (fun j j' hj hj' hp hp' e => ?_)
      · simp only [decide_eq_true_eq] at hp
        have h1 := byR_some rfl hp
        rw [h.1] at h1
        refine ⟨by omega, ?_⟩
        simp only [Bool.and_eq_true, decide_eq_true_eq]
        exact ⟨h1.1, by rw [h1.2]; omega⟩
      · simp only [decide_eq_true_eq] at hp hp'
        have h1 := byR_some rfl hp
        have h2 := byR_some rfl hp'
        rw [← e] at h2
        omega
    · refine cnt_inj (fun i => (ls.getD i 0).toNat) (fun i hi hp => ?_) (fun i i' hi hi' hp hp' e => ?_)
      · simp only [Bool.and_eq_true, decide_eq_true_eq] at hp
        have h1 := ok i (by rw [h.1]; exact hp.1) hp.2
        refine ⟨by omega, ?_⟩
        simp only [decide_eq_true_eq]
        refine Int.not_lt.1 fun hlt => byR_none hlt i (by rw [h.1]; exact hp.1) ?_
        omega
      · simp only [Bool.and_eq_true, decide_eq_true_eq] at hp hp'
        have h1 := ok i (by rw [h.1]; exact hp.1) hp.2
        have h2 := ok i' (by rw [h.1]; exact hp'.1) hp'.2
        have e2 : ls.getD i 0 = ls.getD i' 0 := by omega
        rcases Nat.lt_trichotomy i i' with hlt | h3 | hlt
        · exact absurd e2 (h2.2.2 i hlt)
        · exact h3
        · exact absurd e2.symm (h1.2.2 i' hlt)
/-- BERGE -/
theorem berge {ns : List Nat} {ls : List Int} {K : Nat} (hns : ∀ i, ns.getD i 0 < 256) (hn : ns.length ≤ 8) (hM : Mx ns K) (h : Pg ns ls) : prd ls ns.length ≤ K := by
  obtain ⟨P, hP, e⟩ := h.pm hns hn
  rw [← e]
  exact hM.le hn hP
end Go.Proofs.YtepphkloghaihaaDoor
