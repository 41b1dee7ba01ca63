/- RADO, EDMONDS: who takes the most worth first. No program in sight. -/
import Derived.Test.YtglbabcefanooaaMeetLaw
import Derived.Test.YtglbabcefanooaaLotsChk
namespace Go.Proofs.Ytglbabcefanooaa

theorem popc_succ2 (k x : Nat) : popc (k + 1) x = popc k x + if x.testBit k then 1 else 0 := by
  unfold popc
  rw [List.range_succ, List.filter_append, List.length_append]
  cases h : x.testBit k <;> simp [h]
theorem popc_or2 (x j : Nat) (h : x.testBit j = false) : ∀ k, popc k (x ||| 2 ^ j) = popc k x + if j < k then 1 else 0
  | 0 => by simp [popc]
  | k + 1 => by
    rw [popc_succ2, popc_succ2, popc_or2 x j h k, Nat.testBit_or, Nat.testBit_two_pow]
    by_cases hjk : j = k
    · subst hjk; simp [h]
    · by_cases hlt : j < k
      · simp [hjk, hlt, show j < k + 1 by omega]; omega
      · simp [hjk, hlt, show ¬ j < k + 1 by omega]
/-- the words of the first k of an order, the last one first -/
def wdsF (ws y : List Nat) (k : Nat) : List Nat := ((y.take k).map fun i => ws.getD i 0).reverse
/-- what was taken of the first k -/
structure GdI (ws y : List Nat) (n k G : Nat) : Prop where
  lt : G < 2 ^ n
  bits : ∀ i, G.testBit i = true → i ∈ y.take k
  span : ∀ x, Sp (pick ws G n) x = Sp (wdsF ws y k) x
  free : rkS ws n G = popc n G
  cnt : ∀ j, j ≤ k → ((y.take j).filter G.testBit).length = rkL (wdsF ws y j)
section
variable {ws y : List Nat} {n k G : Nat}
theorem wdsF_succ (hk : k < y.length) : wdsF ws y (k + 1) = ws.getD (y.getD k 0) 0 :: wdsF ws y k := by
  unfold wdsF
  have e : y[k] = y.getD k 0 := by simp [List.getD, hk]
  rw [List.take_succ_eq_append_getElem hk, e, List.map_append, List.reverse_append]
  rfl
theorem GdI.start (n : Nat) : GdI ws y n 0 0 := by
  refine ⟨Nat.pow_pos (by omega), by simp, fun x => ?_, ?_, fun j hj => ?_⟩
  · have : pick ws 0 n = [] := by
      cases h : pick ws 0 n with
      | nil => rfl
      | cons a l =>
        obtain ⟨i, _, hi, _⟩ := (mem_pick n).1 (show a ∈ pick ws 0 n by rw [h]; exact List.mem_cons_self)
        simp at hi
    rw [this]; rfl
  · rw [rkS_zero.2 (by simp)]; exact (popc_zero n).symm
  · obtain rfl : j = 0 := by omega
    rfl
theorem nodup_take (hp : y.Perm (List.range n)) (hk : k < n) : y.getD k 0 ∉ y.take k ∧ y.getD k 0 < n := by
  have hl : y.length = n := by simpa using hp.length_eq
  have hnd : y.Nodup := hp.nodup_iff.2 List.nodup_range
  have e : y.getD k 0 = y[k]'(by omega) := by simp [List.getD, show k < y.length by omega]
  refine ⟨fun h => ?_, ?_⟩
  · rw [e] at h
    obtain ⟨i, hi, he⟩ := List.getElem_of_mem h
    rw [List.getElem_take] at he
    have hik : i < k := by simp at hi; omega
    exact (List.pairwise_iff_getElem.1 hnd) i k (by omega) (by omega) hik he
  · rw [e]; exact List.mem_range.1 (hp.mem_iff.1 (List.getElem_mem _))
theorem GdI.skip (h : GdI ws y n k G) (hk : k < y.length) (hs : Sp (wdsF ws y k) (ws.getD (y.getD k 0) 0) = true) (hnb : G.testBit (y.getD k 0) = false) : GdI ws y n (k + 1) G := by
  refine ⟨h.lt, fun i hi => ?_, fun x => ?_, h.free, fun j hj => ?_⟩
  · have := h.bits i hi
    rw [List.take_succ_eq_append_getElem hk]
    exact List.mem_append_left _ this
  · rw [wdsF_succ hk, Sp_same hs]; exact h.span x
  · rcases Nat.lt_or_ge j (k + 1) with h1 | h1
    · exact h.cnt j (by omega)
    · obtain rfl : j = k + 1 := by omega
      rw [wdsF_succ hk, rkL_cons, if_pos hs, ← h.cnt k (Nat.le_refl _), List.take_succ_eq_append_getElem hk, List.filter_append]
      have e : y[k] = y.getD k 0 := by simp [List.getD, hk]
      rw [e]
      generalize y.getD k 0 = v at *
      simp [hnb]
theorem GdI.take (h : GdI ws y n k G) (hw : ∀ i, ws.getD i 0 < 1024) (hp : y.Perm (List.range n)) (hk : k < n) (hs : Sp (wdsF ws y k) (ws.getD (y.getD k 0) 0) = false) : GdI ws y n (k + 1) (G ||| 2 ^ y.getD k 0) := by
  have hl : y.length = n := by simpa using hp.length_eq
  obtain ⟨hni, hin⟩ := nodup_take hp hk
  have hky : k < y.length := by omega
  have e : y[k] = y.getD k 0 := by simp [List.getD, hky]
  have hnb : G.testBit (y.getD k 0) = false := by
    cases hb : G.testBit (y.getD k 0)
    · rfl
    · exact absurd (h.bits _ hb) hni
  have hbit : ∀ i, (G ||| 2 ^ y.getD k 0).testBit i = (G.testBit i || decide (y.getD k 0 = i)) := fun i => by rw [Nat.testBit_or, Nat.testBit_two_pow]
  refine ⟨Nat.or_lt_two_pow h.lt (Nat.pow_lt_pow_right (by omega) hin), fun i hi => ?_, fun x => ?_, ?_, fun j hj => ?_⟩
  · rw [hbit, Bool.or_eq_true, decide_eq_true_iff] at hi
    rw [List.take_succ_eq_append_getElem hky, List.mem_append, e]
    rcases hi with hi | rfl
    · exact .inl (h.bits i hi)
    · exact .inr (by simp)
  · rw [wdsF_succ hky]
    have hm : ∀ w, w ∈ pick ws (G ||| 2 ^ y.getD k 0) n ↔ w ∈ ws.getD (y.getD k 0) 0 :: pick ws G n := fun w => by
      rw [mem_pick, List.mem_cons, mem_pick]
      constructor
      · rintro ⟨j, h1, h2, h3⟩
        rw [hbit, Bool.or_eq_true, decide_eq_true_iff] at h2
        rcases h2 with h2 | rfl
        · exact .inr ⟨j, h1, h2, h3⟩
        · exact .inl h3.symm
      · rintro (rfl | ⟨j, h1, h2, h3⟩)
        · exact ⟨_, hin, by rw [hbit]; simp, rfl⟩
        · exact ⟨j, h1, by rw [hbit, h2]; rfl, h3⟩
    have h1 : Sp (pick ws (G ||| 2 ^ y.getD k 0) n) x = Sp (ws.getD (y.getD k 0) 0 :: pick ws G n) x := by
      rw [Bool.eq_iff_iff]
      exact ⟨Sp_mono fun w hw => (hm w).1 hw, Sp_mono fun w hw => (hm w).2 hw⟩
    rw [h1]
    simp only [Sp]
    rw [h.span, h.span]
  · rw [rkS_add hw hin, h.span, hs, if_neg (by simp), h.free]
    have := popc_or2 G (y.getD k 0) hnb n
    rw [this, if_pos hin]
  · have hold : ∀ j, j ≤ k → ((y.take j).filter (G ||| 2 ^ y.getD k 0).testBit).length = ((y.take j).filter G.testBit).length := fun j hj => by
      congr 1
      refine List.filter_congr fun i hi => ?_
      have : i ∈ y.take k := List.take_subset_take_left y hj hi
      have hne : y.getD k 0 ≠ i := fun e => hni (e ▸ this)
      rw [hbit, decide_eq_false hne, Bool.or_false]
    rcases Nat.lt_or_ge j (k + 1) with h1 | h1
    · rw [hold j (by omega)]; exact h.cnt j (by omega)
    · obtain rfl : j = k + 1 := by omega
      rw [wdsF_succ hky, rkL_cons, hs, if_neg (by simp), ← h.cnt k (Nat.le_refl _), List.take_succ_eq_append_getElem hky, List.filter_append, List.length_append, hold k (Nat.le_refl _)]
      congr 1
      rw [e]
      generalize y.getD k 0 = v at *
      simp
end
theorem perm_sumI {l₁ l₂ : List Int} (h : l₁.Perm l₂) : l₁.sum = l₂.sum := by
  induction h with
  | nil => rfl
  | cons a _ ih => simp [ih]
  | swap a b l => simp; omega
  | trans _ _ h1 h2 => exact h1.trans h2
/-- what the first k of a set are worth -/
def wortW (x : Nat → Int) (s : Nat) : Nat → Int
  | 0 => 0
  | k + 1 => if s.testBit k then wortW x s k + x k else wortW x s k
theorem wortW_sum (x : Nat → Int) (s : Nat) : ∀ k, wortW x s k = ((List.range k).map fun i => if s.testBit i then x i else 0).sum
  | 0 => rfl
  | k + 1 => by
    rw [wortW, List.range_succ, List.map_append, List.sum_append, wortW_sum x s k]
    cases h : s.testBit k <;> simp [h]
def bI (b : Bool) : Int := if b then 1 else 0
def cntI (s : Nat) (y : List Nat) (k : Nat) : Int := ((y.take k).filter s.testBit).length
def sumI (x : Nat → Int) (s : Nat) (y : List Nat) (k : Nat) : Int := ((y.take k).map fun i => if s.testBit i then x i else 0).sum
theorem cntI_succ (s : Nat) {y : List Nat} {k : Nat} (hk : k < y.length) : cntI s y (k + 1) = cntI s y k + bI (s.testBit (y.getD k 0)) := by
  have e : y[k] = y.getD k 0 := by simp [List.getD, hk]
  unfold cntI
  rw [List.take_succ_eq_append_getElem hk, List.filter_append, List.length_append, e]
  generalize y.getD k 0 = v
  cases h : s.testBit v <;> simp [bI, h]
theorem sumI_succ (x : Nat → Int) (s : Nat) {y : List Nat} {k : Nat} (hk : k < y.length) : sumI x s y (k + 1) = sumI x s y k + bI (s.testBit (y.getD k 0)) * x (y.getD k 0) := by
  have e : y[k] = y.getD k 0 := by simp [List.getD, hk]
  unfold sumI
  rw [List.take_succ_eq_append_getElem hk, List.map_append, List.sum_append, e]
  generalize y.getD k 0 = v
  cases h : s.testBit v <;> simp [bI, h]
theorem cnt_le {ws y : List Nat} {n s : Nat} (hw : ∀ i, ws.getD i 0 < 1024) (hp : y.Perm (List.range n)) (hf : rkS ws n s = popc n s) : ∀ d k, k + d = n → ((y.take k).filter s.testBit).length = rkL (((y.take k).filter s.testBit).map fun i => ws.getD i 0).reverse
  | 0, k, hk => by
    have hl : y.length = n := by simpa using hp.length_eq
    rw [List.take_of_length_le (by omega)]
    have h1 : ((y.filter s.testBit)).length = popc n s := (hp.filter _).length_eq
    rw [h1, ← hf]
    refine rk_eq_of (fun w h => ?_) (fun w h => ?_) (fun w h => ?_) fun w h => ?_
    · simp at h; obtain ⟨i, _, rfl⟩ := h; exact hw i
    · obtain ⟨i, _, _, rfl⟩ := (mem_pick n).1 h; exact hw i
    · obtain ⟨i, h1, h2, rfl⟩ := (mem_pick n).1 h
      rw [List.mem_reverse, List.mem_map]
      exact ⟨i, List.mem_filter.2 ⟨hp.mem_iff.2 (List.mem_range.2 h1), h2⟩, rfl⟩
    · rw [List.mem_reverse, List.mem_map] at h
      obtain ⟨i, h1, rfl⟩ := h
      obtain ⟨h1, h2⟩ := List.mem_filter.1 h1
      exact (mem_pick n).2 ⟨i, List.mem_range.1 (hp.mem_iff.1 h1), h2, rfl⟩
  | d + 1, k, hk => by
    have hl : y.length = n := by simpa using hp.length_eq
    have ih := cnt_le hw hp hf d (k + 1) (by omega)
    have hky : k < y.length := by omega
    have e : y[k] = y.getD k 0 := by simp [List.getD, hky]
    have hlen := rk_len (((y.take k).filter s.testBit).map fun i => ws.getD i 0).reverse
    rw [List.length_reverse, List.length_map] at hlen
    rw [List.take_succ_eq_append_getElem hky, List.filter_append, e] at ih
    generalize y.getD k 0 = v at *
    cases hb : s.testBit v
    · simpa [hb] using ih
    · simp only [List.filter_cons, hb, if_true, List.filter_nil, List.map_append, List.reverse_append, List.length_append, List.map_cons, List.map_nil, List.reverse_cons, List.reverse_nil, List.nil_append, List.cons_append, List.length_cons, List.length_nil] at ih
      rw [rkL_cons] at ih
      split at ih <;> omega
theorem wdsF_all {ws y : List Nat} {n : Nat} (hw : ∀ i, ws.getD i 0 < 1024) (hp : y.Perm (List.range n)) : rkL (wdsF ws y n) = rkS ws n (2 ^ n - 1) := by
  have hl : y.length = n := by simpa using hp.length_eq
  unfold wdsF
  rw [List.take_of_length_le (by omega)]
  refine rk_eq_of (fun w h => ?_) (fun w h => ?_) (fun w h => ?_) fun w h => ?_
  · obtain ⟨i, _, _, rfl⟩ := (mem_pick n).1 h; exact hw i
  · simp at h; obtain ⟨i, _, rfl⟩ := h; exact hw i
  · rw [List.mem_reverse, List.mem_map] at h
    obtain ⟨i, h1, rfl⟩ := h
    have hi := List.mem_range.1 (hp.mem_iff.1 h1)
    exact (mem_pick n).2 ⟨i, hi, by rw [Nat.testBit_two_pow_sub_one]; simp [hi], rfl⟩
  · obtain ⟨i, h1, _, rfl⟩ := (mem_pick n).1 h
    rw [List.mem_reverse, List.mem_map]
    exact ⟨i, hp.mem_iff.2 (List.mem_range.2 h1), rfl⟩
theorem greedy_size {ws y : List Nat} {n G : Nat} (hw : ∀ i, ws.getD i 0 < 1024) (hp : y.Perm (List.range n)) (h : GdI ws y n n G) : popc n G = rkS ws n (2 ^ n - 1) := by
  have hl : y.length = n := by simpa using hp.length_eq
  have := h.cnt n (Nat.le_refl _)
  rw [List.take_of_length_le (by omega), wdsF_all hw hp] at this
  rw [← this]
  exact ((hp.filter _).length_eq).symm
theorem greedy_best {ws y : List Nat} {n G s : Nat} {x : Nat → Int} (hw : ∀ i, ws.getD i 0 < 1024) (hp : y.Perm (List.range n)) (h : GdI ws y n n G) (hx : ∀ p q, p < q → q < n → x (y.getD q 0) ≤ x (y.getD p 0))
    (hf : rkS ws n s = popc n s) (hz : popc n s = rkS ws n (2 ^ n - 1)) : wortW x s n ≤ wortW x G n := by
  have hl : y.length = n := by simpa using hp.length_eq
  have hS : ∀ t, wortW x t n = sumI x t y n := fun t => by
    rw [wortW_sum]
    unfold sumI
    rw [List.take_of_length_le (by omega)]
    exact (perm_sumI (hp.map _)).symm
  have key : ∀ k, k ≤ n → ∀ c, (∀ p, p < k → c ≤ x (y.getD p 0)) → c * (cntI G y k - cntI s y k) ≤ sumI x G y k - sumI x s y k := by
    intro k
    induction k with
    | zero => intro _ c _; simp [cntI, sumI]
    | succ k ih =>
      intro hk c hc
      have h1 := ih (by omega) (x (y.getD k 0)) fun p hpk => hx p k hpk (by omega)
      have h2 : 0 ≤ cntI G y (k + 1) - cntI s y (k + 1) := by
        have a := h.cnt (k + 1) hk
        have b := cnt_le hw hp hf (n - (k + 1)) (k + 1) (by omega)
        have : rkL (((y.take (k + 1)).filter s.testBit).map fun i => ws.getD i 0).reverse ≤ rkL (wdsF ws y (k + 1)) := by
          refine rk_le_of (fun w hm => ?_) (fun w hm => ?_) fun w hm => Sp_mem ?_
          · unfold wdsF at hm; rw [List.mem_reverse, List.mem_map] at hm; obtain ⟨i, _, rfl⟩ := hm; exact hw i
          · rw [List.mem_reverse, List.mem_map] at hm; obtain ⟨i, _, rfl⟩ := hm; exact hw i
          · rw [List.mem_reverse, List.mem_map] at hm
            obtain ⟨i, hi, rfl⟩ := hm
            unfold wdsF
            rw [List.mem_reverse, List.mem_map]
            exact ⟨i, (List.mem_filter.1 hi).1, rfl⟩
        unfold cntI
        omega
      have h3 : c * (cntI G y (k + 1) - cntI s y (k + 1)) ≤ x (y.getD k 0) * (cntI G y (k + 1) - cntI s y (k + 1)) := Int.mul_le_mul_of_nonneg_right (hc k (by omega)) h2
      refine Int.le_trans h3 ?_
      rw [cntI_succ G (show k < y.length by omega), cntI_succ s (show k < y.length by omega), sumI_succ x G (show k < y.length by omega), sumI_succ x s (show k < y.length by omega)]
      generalize x (y.getD k 0) = c2 at *
      generalize bI (G.testBit (y.getD k 0)) = b1
      generalize bI (s.testBit (y.getD k 0)) = b2
      have e : c2 * (cntI G y k + b1 - (cntI s y k + b2)) = c2 * (cntI G y k - cntI s y k) + (b1 * c2 - b2 * c2) := by
        rw [show cntI G y k + b1 - (cntI s y k + b2) = (cntI G y k - cntI s y k) + (b1 - b2) by omega, Int.mul_add, Int.mul_comm c2 (b1 - b2), Int.sub_mul]
      rw [e]
      omega
  rw [hS, hS]
  have h0 : cntI G y n - cntI s y n = 0 := by
    have a := greedy_size hw hp h
    unfold cntI
    rw [List.take_of_length_le (by omega), (hp.filter G.testBit).length_eq, (hp.filter s.testBit).length_eq]
    show ((popc n G : Nat) : Int) - (popc n s : Nat) = 0
    omega
  rcases n with _ | n
  · simp [sumI]
  · have := key (n + 1) (Nat.le_refl _) (x (y.getD n 0)) fun p hpn => by
      rcases Nat.lt_or_ge p n with h1 | h1
      · exact hx p n h1 (by omega)
      · obtain rfl : p = n := by omega
        exact Int.le_refl _
    rw [h0, Int.mul_zero] at this
    omega
end Go.Proofs.Ytglbabcefanooaa
