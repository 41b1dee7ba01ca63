/- Fees, in plain Lean: what is left for those behind, for each set that is taken; the list; two lists of numbers; a row that is more by something. -/
import Derived.Test.YtfedkcnofbhlgaaPopc
namespace Go.Proofs.Ytfedkcnofbhlgaa

def far60 : Int := 1152921504606846976
/-- the least over the first columns, for row i, when w is taken -/
def mn (f : Nat → Nat → Int) (g : Nat → Int) (i w : Nat) : Nat → Int
  | 0 => far60
  | j + 1 => if w.testBit j then mn f g i w j else min (mn f g i w j) (f i j + g (w ||| 2 ^ j))
/-- what the last k rows cost at least, when w is taken -/
def bst (f : Nat → Nat → Int) (n : Nat) : Nat → Nat → Int
  | 0, _ => 0
  | k + 1, w => mn f (bst f n k) (n - (k + 1)) w n

theorem popc_snoc (k x : Nat) : popc (k + 1) x = popc k x + if x.testBit k then 1 else 0 := by
  unfold popc
  rw [List.range_succ, List.filter_append, List.length_append]
  cases h : x.testBit k <;> simp [h]
theorem popc_fits {k x : Nat} (hx : x < 2 ^ k) : ∀ m, popc (k + m) x = popc k x
  | 0 => rfl
  | m + 1 => by
    rw [← Nat.add_assoc, popc_snoc, popc_fits hx m]
    have : x.testBit (k + m) = false := Nat.testBit_lt_two_pow (Nat.lt_of_lt_of_le hx (Nat.pow_le_pow_right (by omega) (by omega)))
    simp [this]
theorem or_bit (w j i : Nat) : (w ||| 2 ^ j).testBit i = (w.testBit i || decide (j = i)) := by rw [Nat.testBit_or, Nat.testBit_two_pow]
theorem popc_or {w j : Nat} (h : w.testBit j = false) : ∀ k, popc k (w ||| 2 ^ j) = popc k w + if j < k then 1 else 0
  | 0 => by simp [popc]
  | k + 1 => by
    rw [popc_snoc, popc_snoc, popc_or h k, or_bit]
    by_cases hjk : j = k
    · subst hjk; simp [h]
    · by_cases h1 : j < k
      · simp [h1, hjk, show j < k + 1 by omega]; omega
      · simp [h1, hjk, show ¬ j < k + 1 by omega]
theorem popc_full {k x : Nat} (h : popc k x = k) : ∀ i, i < k → x.testBit i = true := by
  induction k with
  | zero => intro i hi; omega
  | succ k ih =>
    rw [popc_snoc] at h
    have := popc_le k x
    intro i hi
    cases hb : x.testBit k with
    | false => simp [hb] at h; omega
    | true =>
      simp [hb] at h
      by_cases hik : i = k
      · subst hik; exact hb
      · exact ih h i (by omega)
theorem popc_free {k x : Nat} (h : popc k x < k) : ∃ i, i < k ∧ x.testBit i = false := by
  induction k with
  | zero => omega
  | succ k ih =>
    rw [popc_snoc] at h
    cases hb : x.testBit k with
    | false => exact ⟨k, by omega, hb⟩
    | true =>
      simp [hb] at h
      obtain ⟨i, h1, h2⟩ := ih h
      exact ⟨i, by omega, h2⟩
theorem or_lt {w j n : Nat} (hw : w < 2 ^ n) (hj : j < n) : w ||| 2 ^ j < 2 ^ n := Nat.or_lt_two_pow hw (Nat.pow_lt_pow_right (by omega) hj)
theorem or_gt {w j : Nat} (h : w.testBit j = false) : w < w ||| 2 ^ j := by
  have h1 : w ≤ w ||| 2 ^ j := Nat.left_le_or
  have h2 : w ≠ w ||| 2 ^ j := fun e => by
    have := or_bit w j j
    rw [← e, h] at this
    simp at this
  omega

section
variable {f : Nat → Nat → Int} {g : Nat → Int} {i w : Nat}
theorem mn_le : ∀ {m j : Nat}, j < m → w.testBit j = false → mn f g i w m ≤ f i j + g (w ||| 2 ^ j)
  | m + 1, j, h, hb => by
    unfold mn
    by_cases hjm : j = m
    · subst hjm
      simp only [hb]
      exact Int.min_le_right _ _
    · have := mn_le (show j < m by omega) hb
      split
      · exact this
      · exact Int.le_trans (Int.min_le_left _ _) this
theorem mn_cases : ∀ m, mn f g i w m = far60 ∨ ∃ j, j < m ∧ w.testBit j = false ∧ mn f g i w m = f i j + g (w ||| 2 ^ j)
  | 0 => .inl rfl
  | m + 1 => by
    unfold mn
    cases hb : w.testBit m with
    | true =>
      rcases mn_cases m with h | ⟨j, h1, h2, h3⟩
      · exact .inl (by simpa using h)
      · exact .inr ⟨j, by omega, h2, by simpa using h3⟩
    | false =>
      simp only [Bool.false_eq_true, if_false]
      rcases Int.le_total (mn f g i w m) (f i m + g (w ||| 2 ^ m)) with h | h
      · rw [Int.min_eq_left h]
        rcases mn_cases m with h | ⟨j, h1, h2, h3⟩
        · exact .inl h
        · exact .inr ⟨j, by omega, h2, h3⟩
      · rw [Int.min_eq_right h]
        exact .inr ⟨m, by omega, hb, rfl⟩
theorem mn_ex {m : Nat} (hex : ∃ j, j < m ∧ w.testBit j = false) (hfar : ∀ j, j < m → w.testBit j = false → f i j + g (w ||| 2 ^ j) < far60) : ∃ j, j < m ∧ w.testBit j = false ∧ mn f g i w m = f i j + g (w ||| 2 ^ j) := by
  rcases mn_cases (f := f) (g := g) (i := i) (w := w) m with h | h
  · obtain ⟨j, h1, h2⟩ := hex
    have := mn_le (f := f) (g := g) (i := i) h1 h2
    have := hfar j h1 h2
    omega
  · exact h
end

section
variable {f : Nat → Nat → Int} {n : Nat}
/-- fees in range -/
def FeesIn (f : Nat → Nat → Int) (n : Nat) : Prop := ∀ i j, i < n → j < n → -1048576 ≤ f i j ∧ f i j ≤ 1048576
theorem bst_in (hn : n ≤ 8) (hf : FeesIn f n) : ∀ k, k ≤ n → ∀ w, popc n w = n - k → -(k * 1048576 : Int) ≤ bst f n k w ∧ bst f n k w ≤ k * 1048576
  | 0, _, w, _ => by simp [bst]
  | k + 1, hk, w, hw => by
    have ih := bst_in hn hf k (by omega)
    have hj : ∀ j, j < n → w.testBit j = false → -((k + 1 : Nat) * 1048576 : Int) ≤ f (n - (k + 1)) j + bst f n k (w ||| 2 ^ j) ∧ f (n - (k + 1)) j + bst f n k (w ||| 2 ^ j) ≤ (k + 1 : Nat) * 1048576 := fun j h1 h2 => by
      have := ih (w ||| 2 ^ j) (by rw [popc_or h2, if_pos h1]; omega)
      have := hf (n - (k + 1)) j (by omega) h1
      omega
    obtain ⟨j, h1, h2, h3⟩ := mn_ex (f := f) (g := bst f n k) (i := n - (k + 1)) (popc_free (k := n) (x := w) (by omega)) (fun j h1 h2 => by
      have := (hj j h1 h2).2
      unfold far60
      omega)
    have := hj j h1 h2
    show -((k + 1 : Nat) * 1048576 : Int) ≤ mn f (bst f n k) (n - (k + 1)) w n ∧ mn f (bst f n k) (n - (k + 1)) w n ≤ _
    rw [h3]
    exact this
theorem bst_ex (hn : n ≤ 8) (hf : FeesIn f n) {k w : Nat} (hk : k + 1 ≤ n) (hw : popc n w = n - (k + 1)) : ∃ j, j < n ∧ w.testBit j = false ∧ bst f n (k + 1) w = f (n - (k + 1)) j + bst f n k (w ||| 2 ^ j) := by
  refine mn_ex (f := f) (g := bst f n k) (i := n - (k + 1)) (popc_free (k := n) (x := w) (by omega)) (fun j h1 h2 => ?_)
  have := bst_in hn hf k (by omega) (w ||| 2 ^ j) (by rw [popc_or h2, if_pos h1]; omega)
  have := hf (n - (k + 1)) j (by omega) h1
  unfold far60
  omega
theorem bst_le {k w j : Nat} (hj : j < n) (hb : w.testBit j = false) : bst f n (k + 1) w ≤ f (n - (k + 1)) j + bst f n k (w ||| 2 ^ j) := mn_le hj hb

/-- is j the one that the list takes? -/
def isPk (f : Nat → Nat → Int) (n k w j : Nat) : Bool := !w.testBit j && (f (n - (k + 1)) j + bst f n k (w ||| 2 ^ j) == bst f n (k + 1) w)
def pk (f : Nat → Nat → Int) (n k w : Nat) : Nat := (List.range n).findIdx (isPk f n k w)
theorem findIdx_range {p : Nat → Bool} {n : Nat} (h : (List.range n).findIdx p < (List.range n).length) : p ((List.range n).findIdx p) = true := by
  have h1 := List.findIdx_getElem (p := p) (xs := List.range n) (w := h)
  have h2 : (List.range n)[(List.range n).findIdx p]? = some ((List.range n).findIdx p) := List.getElem?_range (by simpa using h)
  rw [List.getElem?_eq_getElem h] at h2
  injection h2 with h2
  rw [← h1]
  exact congrArg p h2.symm
theorem pk_lt (hn : n ≤ 8) (hf : FeesIn f n) {k w : Nat} (hk : k + 1 ≤ n) (hw : popc n w = n - (k + 1)) : pk f n k w < n ∧ isPk f n k w (pk f n k w) = true := by
  obtain ⟨j, h1, h2, h3⟩ := bst_ex hn hf hk hw
  have hlt : pk f n k w < (List.range n).length := List.findIdx_lt_length_of_exists ⟨j, by simpa using h1, by simp [isPk, h2, h3]⟩
  exact ⟨by simpa using hlt, findIdx_range hlt⟩
theorem pk_not {k w j : Nat} (h : j < pk f n k w) : isPk f n k w j = false := by
  have := List.not_of_lt_findIdx (p := isPk f n k w) (xs := List.range n) h
  simpa using this
theorem pk_of {k w j : Nat} (hjn : j < n) (h1 : ∀ i, i < j → isPk f n k w i = false) (h2 : isPk f n k w j = true) : pk f n k w = j := by
  have hlt : pk f n k w < (List.range n).length := List.findIdx_lt_length_of_exists ⟨j, by simpa using hjn, h2⟩
  have hat : isPk f n k w (pk f n k w) = true := findIdx_range hlt
  rcases Nat.lt_trichotomy (pk f n k w) j with h | h | h
  · have := h1 _ h
    rw [hat] at this
    cases this
  · exact h
  · rw [pk_not h] at h2
    cases h2
/-- what is taken when i rows have theirs -/
def wAt (f : Nat → Nat → Int) (n : Nat) : Nat → Nat
  | 0 => 0
  | i + 1 => wAt f n i ||| 2 ^ pk f n (n - (i + 1)) (wAt f n i)
def jAt (f : Nat → Nat → Int) (n i : Nat) : Nat := pk f n (n - (i + 1)) (wAt f n i)
theorem wAt_ok (hn : n ≤ 8) (hf : FeesIn f n) : ∀ i, i ≤ n → wAt f n i < 2 ^ n ∧ popc n (wAt f n i) = i
  | 0, _ => ⟨Nat.two_pow_pos n, by simp [wAt, popc_zero]⟩
  | i + 1, h => by
    obtain ⟨h1, h2⟩ := wAt_ok hn hf i (by omega)
    obtain ⟨h3, h4⟩ := pk_lt hn hf (k := n - (i + 1)) (w := wAt f n i) (by omega) (by omega)
    refine ⟨or_lt h1 h3, ?_⟩
    simp only [isPk, Bool.and_eq_true, Bool.not_eq_true'] at h4
    show popc n (wAt f n i ||| 2 ^ pk f n (n - (i + 1)) (wAt f n i)) = _
    rw [popc_or h4.1, if_pos h3, h2]
theorem jAt_ok (hn : n ≤ 8) (hf : FeesIn f n) {i : Nat} (hi : i < n) : jAt f n i < n ∧ (wAt f n i).testBit (jAt f n i) = false ∧ f i (jAt f n i) + bst f n (n - (i + 1)) (wAt f n (i + 1)) = bst f n (n - i) (wAt f n i) := by
  obtain ⟨h1, h2⟩ := wAt_ok hn hf i (by omega)
  obtain ⟨h3, h4⟩ := pk_lt hn hf (k := n - (i + 1)) (w := wAt f n i) (by omega) (by omega)
  simp only [isPk, Bool.and_eq_true, Bool.not_eq_true', beq_iff_eq] at h4
  obtain ⟨h5, h6⟩ := h4
  rw [show n - (n - (i + 1) + 1) = i by omega, show n - (i + 1) + 1 = n - i by omega] at h6
  exact ⟨h3, h5, h6⟩
theorem wAt_has {i m : Nat} (h : i < m) : (wAt f n m).testBit (jAt f n i) = true := by
  induction m with
  | zero => omega
  | succ m ih =>
    show (wAt f n m ||| 2 ^ jAt f n m).testBit _ = true
    rw [or_bit]
    by_cases him : i = m
    · subst him; simp
    · simp [ih (by omega)]
theorem jAt_once (hn : n ≤ 8) (hf : FeesIn f n) {i m : Nat} (h : i < m) (hm : m < n) : jAt f n i ≠ jAt f n m := fun e => by
  have h1 := wAt_has (f := f) (n := n) h
  rw [e, (jAt_ok hn hf hm).2.1] at h1
  cases h1
/-- the sum of the first m -/
def sumN (g : Nat → Int) : Nat → Int
  | 0 => 0
  | m + 1 => sumN g m + g m
theorem cost_at (hn : n ≤ 8) (hf : FeesIn f n) : ∀ m, m ≤ n → sumN (fun i => f i (jAt f n i)) m + bst f n (n - m) (wAt f n m) = bst f n n 0
  | 0, _ => by simp [sumN, wAt]
  | m + 1, h => by
    have ih := cost_at hn hf m (by omega)
    have := (jAt_ok hn hf (i := m) (by omega)).2.2
    simp only [sumN]
    omega
theorem cost_all (hn : n ≤ 8) (hf : FeesIn f n) : sumN (fun i => f i (jAt f n i)) n = bst f n n 0 := by
  have := cost_at hn hf n (Nat.le_refl _)
  rw [Nat.sub_self] at this
  simp only [bst] at this
  omega
/-- the sum over what is not taken -/
def sumOut (v : Nat → Int) (w : Nat) : Nat → Int
  | 0 => 0
  | j + 1 => sumOut v w j + if w.testBit j then 0 else v j
theorem sumOut_or {v : Nat → Int} {w j : Nat} (h : w.testBit j = false) : ∀ m, sumOut v w m = sumOut v (w ||| 2 ^ j) m + if j < m then v j else 0
  | 0 => by simp [sumOut]
  | m + 1 => by
    simp only [sumOut]
    rw [sumOut_or h m, or_bit]
    by_cases hjm : j = m
    · subst hjm; simp [h]
    · by_cases h1 : j < m
      · simp [h1, hjm, show j < m + 1 by omega]; omega
      · simp [h1, hjm, show ¬ j < m + 1 by omega]
theorem sumOut_full {v : Nat → Int} {w : Nat} : ∀ m, (∀ i, i < m → w.testBit i = true) → sumOut v w m = 0
  | 0, _ => rfl
  | m + 1, h => by simp only [sumOut]; rw [sumOut_full m fun i hi => h i (by omega), h m (by omega)]; simp
theorem sumOut_zero {v : Nat → Int} : ∀ m, sumOut v 0 m = sumN v m
  | 0 => rfl
  | m + 1 => by simp [sumOut, sumN, sumOut_zero m]
theorem dual_le (hn : n ≤ 8) (hf : FeesIn f n) {u v : Nat → Int} (huv : ∀ i j, i < n → j < n → u i + v j ≤ f i j) : ∀ k, k ≤ n → ∀ w, popc n w = n - k → sumN u n - sumN u (n - k) + sumOut v w n ≤ bst f n k w
  | 0, _, w, hw => by
    rw [sumOut_full n (popc_full (by omega))]
    simp [bst]
  | k + 1, hk, w, hw => by
    obtain ⟨j, h1, h2, h3⟩ := bst_ex hn hf hk hw
    rw [h3, sumOut_or h2, if_pos h1]
    have ih := dual_le hn hf huv k (by omega) (w ||| 2 ^ j) (by rw [popc_or h2, if_pos h1]; omega)
    have := huv (n - (k + 1)) j (by omega) h1
    have hs : sumN u (n - k) = sumN u (n - (k + 1)) + u (n - (k + 1)) := by
      rw [show n - k = n - (k + 1) + 1 by omega]
      rfl
    omega
theorem dual_all (hn : n ≤ 8) (hf : FeesIn f n) {u v : Nat → Int} (huv : ∀ i j, i < n → j < n → u i + v j ≤ f i j) : sumN u n + sumN v n ≤ bst f n n 0 := by
  have := dual_le hn hf huv n (Nat.le_refl _) 0 (by simp [popc_zero])
  rw [sumOut_zero, Nat.sub_self] at this
  simpa [sumN] using this
/-- one row more by b -/
def IsShift (f f' : Nat → Nat → Int) (n r : Nat) (b : Int) : Prop := ∀ i j, i < n → j < n → f' i j = if i = r then f i j + b else f i j
theorem shift_bst {f' : Nat → Nat → Int} {r : Nat} {b : Int} (hn : n ≤ 8) (hf : FeesIn f n) (hf' : FeesIn f' n) (hs : IsShift f f' n r b) : ∀ k, k ≤ n → ∀ w, popc n w = n - k → bst f' n k w = bst f n k w + if n - k ≤ r ∧ r < n then b else 0
  | 0, _, w, _ => by simp [bst]; omega
  | k + 1, hk, w, hw => by
    have ih := shift_bst hn hf hf' hs k (by omega)
    have hpt : ∀ j, j < n → w.testBit j = false → f' (n - (k + 1)) j + bst f' n k (w ||| 2 ^ j) = f (n - (k + 1)) j + bst f n k (w ||| 2 ^ j) + if n - (k + 1) ≤ r ∧ r < n then b else 0 := fun j h1 h2 => by
      rw [ih (w ||| 2 ^ j) (by rw [popc_or h2, if_pos h1]; omega), hs _ _ (by omega) h1]
      split <;> split <;> split <;> omega
    obtain ⟨j, h1, h2, h3⟩ := bst_ex hn hf hk hw
    obtain ⟨j', h1', h2', h3'⟩ := bst_ex hn hf' hk hw
    have a1 := bst_le (f := f') (k := k) h1 h2
    have a2 := bst_le (f := f) (k := k) h1' h2'
    have b1 := hpt j h1 h2
    have b2 := hpt j' h1' h2'
    omega
theorem shift_pk {f' : Nat → Nat → Int} {r : Nat} {b : Int} (hn : n ≤ 8) (hf : FeesIn f n) (hf' : FeesIn f' n) (hs : IsShift f f' n r b) {k w : Nat} (hk : k + 1 ≤ n) (hw : popc n w = n - (k + 1)) : pk f' n k w = pk f n k w := by
  have he : ∀ j, j < n → isPk f' n k w j = isPk f n k w j := fun j hj => by
    unfold isPk
    cases hb : w.testBit j with
    | true => rfl
    | false =>
      rw [shift_bst hn hf hf' hs k (by omega) (w ||| 2 ^ j) (by rw [popc_or hb, if_pos hj]; omega), shift_bst hn hf hf' hs (k + 1) hk w hw, hs _ _ (by omega) hj]
      simp only [Bool.not_false, Bool.true_and]
      rw [Bool.eq_iff_iff, beq_iff_eq, beq_iff_eq]
      split <;> split <;> split <;> omega
  obtain ⟨h1, h2⟩ := pk_lt hn hf hk hw
  exact pk_of h1 (fun i hi => by rw [he i (by omega)]; exact pk_not hi) (by rw [he _ h1]; exact h2)
theorem shift_at {f' : Nat → Nat → Int} {r : Nat} {b : Int} (hn : n ≤ 8) (hf : FeesIn f n) (hf' : FeesIn f' n) (hs : IsShift f f' n r b) : ∀ i, i ≤ n → wAt f' n i = wAt f n i
  | 0, _ => rfl
  | i + 1, h => by
    have ih := shift_at hn hf hf' hs i (by omega)
    have := (wAt_ok hn hf i (by omega)).2
    unfold wAt
    rw [ih, shift_pk hn hf hf' hs (by omega) (by omega)]
theorem shift_jAt {f' : Nat → Nat → Int} {r : Nat} {b : Int} (hn : n ≤ 8) (hf : FeesIn f n) (hf' : FeesIn f' n) (hs : IsShift f f' n r b) {i : Nat} (h : i < n) : jAt f' n i = jAt f n i := by
  have := (wAt_ok hn hf i (by omega)).2
  unfold jAt
  rw [shift_at hn hf hf' hs i (by omega), shift_pk hn hf hf' hs (by omega) (by omega)]
theorem shift_cost {f' : Nat → Nat → Int} {r : Nat} {b : Int} (hn : n ≤ 8) (hf : FeesIn f n) (hf' : FeesIn f' n) (hs : IsShift f f' n r b) (hr : r < n) : bst f' n n 0 = bst f n n 0 + b := by
  rw [shift_bst hn hf hf' hs n (Nat.le_refl _) 0 (by simp [popc_zero]), if_pos ⟨by omega, hr⟩]
end
end Go.Proofs.Ytfedkcnofbhlgaa
