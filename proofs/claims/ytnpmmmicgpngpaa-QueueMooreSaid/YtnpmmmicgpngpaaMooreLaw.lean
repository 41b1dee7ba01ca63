/- MOORE, HODGSON: plain. -/
import Derived.Test.YtnpmmmicgpngpaaBase
namespace Go.Proofs.Ytnpmmmicgpngpaa

theorem psumI {l₁ l₂ : List Int} (h : l₁.Perm l₂) : l₁.sum = l₂.sum := by
  induction h with
  | nil => rfl
  | cons x _ ih => simp [ih]
  | swap x y l => simp; omega
  | trans _ _ h1 h2 => rw [h1, h2]
theorem erase_perm {l : List Int} {i : Nat} (h : i < l.length) : (l[i] :: l.eraseIdx i).Perm l := by
  have e : l = l.take i ++ l[i] :: l.drop (i + 1) := by
    rw [← List.drop_eq_getElem_cons h, List.take_append_drop]
  rw [List.eraseIdx_eq_take_drop_succ]
  conv => rhs; rw [e]
  exact List.perm_middle.symm
/-- a part of a list, in whatever order -/
def Part (T R : List Int) : Prop := ∃ U, (T ++ U).Perm R
theorem Part.len {T R : List Int} (h : Part T R) : T.length ≤ R.length := by
  obtain ⟨U, h⟩ := h
  have := h.length_eq
  simp at this; omega
/-- who can be on time, job by job in the order of what they are due (the last one ahead) -/
inductive Fe : List (Int × Int) → List Int → Prop
  | nil : Fe [] []
  | skip {j : Int × Int} {J : List (Int × Int)} {S : List Int} : Fe J S → Fe (j :: J) S
  | take {j : Int × Int} {J : List (Int × Int)} {S : List Int} : Fe J S → S.sum + j.1 ≤ j.2 → Fe (j :: J) (j.1 :: S)
/-- what is kept is as good as all that can be -/
structure MSt (J : List (Int × Int)) (K : List Int) : Prop where
  len : K.length ≤ J.length
  best : ∀ S, Fe J S → ∃ T, Part T K ∧ T.length = S.length ∧ T.sum ≤ S.sum
theorem MSt.start : MSt [] [] := ⟨Nat.le_refl _, fun S h => by cases h; exact ⟨[], ⟨[], .nil⟩, rfl, by simp⟩⟩
theorem MSt.le {J : List (Int × Int)} {K : List Int} (h : MSt J K) {S : List Int} (hS : Fe J S) : S.length ≤ K.length := by
  obtain ⟨T, h1, h2, _⟩ := h.best S hS
  have := h1.len
  omega
/-- with one more -/
theorem MSt.more {J : List (Int × Int)} {K : List Int} (h : MSt J K) (p d : Int) (S : List Int) (hS : Fe ((p, d) :: J) S) : ∃ T, Part T (K ++ [p]) ∧ T.length = S.length ∧ T.sum ≤ S.sum := by
  cases hS with
  | skip hS =>
    obtain ⟨T, ⟨U, h1⟩, h2, h3⟩ := h.best S hS
    exact ⟨T, ⟨U ++ [p], by rw [← List.append_assoc]; exact h1.append_right [p]⟩, h2, h3⟩
  | take hS _ =>
    obtain ⟨T, ⟨U, h1⟩, h2, h3⟩ := h.best _ hS
    refine ⟨p :: T, ⟨U, ?_⟩, by simp [h2], by simp; omega⟩
    rw [List.cons_append]
    exact (List.Perm.cons p h1).trans (List.perm_append_comm (l₁ := [p]) (l₂ := K))
theorem MSt.keep {J : List (Int × Int)} {K : List Int} (h : MSt J K) (p d : Int) : MSt ((p, d) :: J) (K ++ [p]) :=
  ⟨by have := h.len; simp; omega, fun S hS => h.more p d S hS⟩
theorem MSt.drop {J : List (Int × Int)} {K : List Int} (h : MSt J K) (p d : Int) (hd : d < (K ++ [p]).sum) {i : Nat} (hi : i < (K ++ [p]).length) (hmax : ∀ x ∈ K ++ [p], x ≤ (K ++ [p]).getD i 0) : MSt ((p, d) :: J) ((K ++ [p]).eraseIdx i) := by
  have hlen : ((K ++ [p]).eraseIdx i).length = K.length := by rw [List.length_eraseIdx, if_pos hi]; simp
  refine ⟨by rw [hlen]; have := h.len; simp; omega, fun S hS => ?_⟩
  have hel : (K ++ [p]).Perm ((K ++ [p]).getD i 0 :: (K ++ [p]).eraseIdx i) := by
    rw [List.getD, List.getElem?_eq_getElem hi]
    exact (erase_perm hi).symm
  -- no more than were kept
  have hSl : S.length ≤ K.length := by
    cases hS with
    | skip hS => exact h.le hS
    | @take _ _ S' hS hf =>
      obtain ⟨T, ⟨U, h1⟩, h2, h3⟩ := h.best _ hS
      have hl := h1.length_eq
      simp only [List.length_append] at hl
      rcases Nat.eq_zero_or_pos U.length with h0 | h0
      · have hU := List.eq_nil_of_length_eq_zero h0
        rw [hU, List.append_nil] at h1
        have := psumI h1
        simp only [List.sum_append, List.sum_cons, List.sum_nil] at hd
        dsimp only at hf
        omega
      · simp only [List.length_cons]; omega
  obtain ⟨T, ⟨U, h1⟩, h2, h3⟩ := h.more p d S hS
  have hp := h1.trans hel
  generalize (K ++ [p]).getD i 0 = x at *
  generalize (K ++ [p]).eraseIdx i = R at *
  have hx : x ∈ T ++ U := hp.mem_iff.2 (by simp)
  rcases List.mem_append.1 hx with hx | hx
  · obtain ⟨T1, T2, rfl⟩ := List.append_of_mem hx
    have hU : U ≠ [] := fun e => by
      have := h1.length_eq
      subst e
      simp at this h2
      omega
    obtain ⟨y, U', rfl⟩ : ∃ y U', U = y :: U' := by cases U with
      | nil => exact absurd rfl hU
      | cons y U' => exact ⟨y, U', rfl⟩
    have hy : y ≤ x := hmax y (h1.mem_iff.1 (by simp))
    refine ⟨T1 ++ y :: T2, ⟨U', ?_⟩, by simpa using h2, ?_⟩
    · have e : (T1 ++ x :: T2 ++ y :: U').Perm (x :: (T1 ++ y :: T2 ++ U')) := by
        have a1 : (T1 ++ x :: T2 ++ y :: U').Perm (x :: (T1 ++ T2 ++ y :: U')) := by
          rw [List.append_assoc, List.append_assoc, List.cons_append]; exact List.perm_middle
        refine a1.trans (List.Perm.cons x ?_)
        have a2 : (T1 ++ T2 ++ y :: U').Perm (y :: (T1 ++ T2 ++ U')) := List.perm_middle
        have a3 : (T1 ++ y :: T2 ++ U').Perm (y :: (T1 ++ T2 ++ U')) := by
          rw [List.append_assoc, List.append_assoc, List.cons_append]; exact List.perm_middle
        exact a2.trans a3.symm
      exact (List.perm_cons x).1 (e.symm.trans hp)
    · simp only [List.sum_append, List.sum_cons] at h3 ⊢
      omega
  · obtain ⟨U1, U2, rfl⟩ := List.append_of_mem hx
    refine ⟨T, ⟨U1 ++ U2, ?_⟩, h2, h3⟩
    have e : (T ++ (U1 ++ x :: U2)).Perm (x :: (T ++ (U1 ++ U2))) := by
      rw [← List.append_assoc, ← List.append_assoc]; exact List.perm_middle
    exact (List.perm_cons x).1 (e.symm.trans hp)
/- whoever is chosen so that each is on time can be -/
section
variable (p d : Nat → Int)
def tm (o : List Nat) : Int := (o.map p).sum
def rev (o : List Nat) : List (Int × Int) := (o.map fun i => (p i, d i)).reverse
theorem tm_nonneg {p : Nat → Int} (hp : ∀ i, 0 ≤ p i) : ∀ o : List Nat, 0 ≤ tm p o
  | [] => by simp [tm]
  | a :: o => by
    have := tm_nonneg hp o
    have := hp a
    unfold tm at *
    simp; omega
theorem tm_sub {p : Nat → Int} (hp : ∀ i, 0 ≤ p i) {A B : List Nat} (hA : A.Nodup) (hAB : ∀ x ∈ A, x ∈ B) : tm p A ≤ tm p B := by
  induction A generalizing B with
  | nil => exact tm_nonneg hp B
  | cons a A ih =>
    rw [List.nodup_cons] at hA
    have ha := hAB a (by simp)
    obtain ⟨B1, B2, rfl⟩ := List.append_of_mem ha
    have h := ih (B := B1 ++ B2) hA.2 fun x hx => by
      have h1 := hAB x (List.mem_cons_of_mem _ hx)
      have h2 : x ≠ a := fun e => hA.1 (e ▸ hx)
      simp at h1 ⊢
      rcases h1 with h1 | h1 | h1
      · exact .inl h1
      · exact absurd h1 h2
      · exact .inr h1
    unfold tm at *
    simp only [List.map_cons, List.sum_cons, List.map_append, List.sum_append] at *
    omega
theorem fe_of (sel : Nat → Bool) (o : List Nat) (h : ∀ k, k < o.length → sel (o.getD k 0) = true → tm p ((o.take (k + 1)).filter sel) ≤ d (o.getD k 0)) :
    ∀ k, k ≤ o.length → Fe (rev p d (o.take k)) (((o.take k).filter sel).map p).reverse
  | 0, _ => .nil
  | k + 1, hk => by
    have ih := fe_of sel o h k (by omega)
    have ht : o.take (k + 1) = o.take k ++ [o.getD k 0] := by
      rw [List.take_succ_eq_append_getElem (by omega)]; simp [List.getD, show k < o.length by omega]
    have hr : rev p d (o.take (k + 1)) = (p (o.getD k 0), d (o.getD k 0)) :: rev p d (o.take k) := by
      unfold rev; rw [ht, List.map_append, List.reverse_append]; rfl
    rw [hr]
    cases hs : sel (o.getD k 0)
    · have : ((o.take (k + 1)).filter sel) = (o.take k).filter sel := by
        rw [ht, List.filter_append]
        simp only [List.filter_cons, hs]
        simp
      rw [this]
      exact .skip ih
    · have h1 : ((o.take (k + 1)).filter sel) = (o.take k).filter sel ++ [o.getD k 0] := by
        rw [ht, List.filter_append]
        simp only [List.filter_cons, hs]
        simp
      have h2 := h k (by omega) hs
      rw [h1] at h2 ⊢
      have er : (((o.take k).filter sel ++ [o.getD k 0]).map p).reverse = p (o.getD k 0) :: (((o.take k).filter sel).map p).reverse := by simp
      rw [er]
      refine .take ih ?_
      unfold tm at h2
      rw [List.map_append, List.sum_append] at h2
      simp only [List.map_cons, List.map_nil, List.sum_cons, List.sum_nil] at h2
      rw [psumI (List.reverse_perm _)]
      omega
end
/-- how many are on time in an order -/
def onT (p d : Nat → Int) (x : List Nat) (k : Nat) : Bool := decide (tm p (x.take (k + 1)) ≤ d (x.getD k 0))
def cntT (p d : Nat → Int) (x : List Nat) (k : Nat) : Nat := (List.range k).countP (onT p d x)
theorem last_in {x : List Nat} {P : Nat → Prop} : ∀ n, (∃ m, m < n ∧ P (x.getD m 0)) → ∃ m, m < n ∧ P (x.getD m 0) ∧ ∀ m', m < m' → m' < n → ¬ P (x.getD m' 0)
  | 0, ⟨m, h, _⟩ => by omega
  | n + 1, ⟨m, h, hP⟩ => by
    by_cases hn : P (x.getD n 0)
    · exact ⟨n, by omega, hn, fun m' h1 h2 => by omega⟩
    · have hmn : m ≠ n := fun e => hn (e ▸ hP)
      obtain ⟨q, h1, h2, h3⟩ := last_in n ⟨m, by omega, hP⟩
      exact ⟨q, by omega, h2, fun m' h4 h5 => by
        by_cases e : m' = n
        · subst e; exact hn
        · exact h3 m' h4 (by omega)⟩
/-- in no order more are on time than are kept -/
theorem moore {p d : Nat → Int} {n : Nat} {o x : List Nat} {K : List Int} (hp : ∀ i, 0 ≤ p i) (ho : o.Perm (List.range n)) (hs : ∀ a b, a < b → b < n → d (o.getD a 0) ≤ d (o.getD b 0)) (hx : x.Perm (List.range n)) (hM : MSt (rev p d o) K) : cntT p d x n ≤ K.length := by
  have hol : o.length = n := by simpa using ho.length_eq
  have hxl : x.length = n := by simpa using hx.length_eq
  have hxn : x.Nodup := hx.nodup_iff.2 List.nodup_range
  have hon : o.Nodup := ho.nodup_iff.2 List.nodup_range
  have hxi : ∀ a b, a < n → b < n → x.getD a 0 = x.getD b 0 → a = b := fun a b ha hb e => by
    have hpw := List.pairwise_iff_getElem.1 (List.nodup_iff_pairwise_ne.1 hxn)
    simp only [List.getD, List.getElem?_eq_getElem (show a < x.length by omega), List.getElem?_eq_getElem (show b < x.length by omega), Option.getD_some] at e
    rcases Nat.lt_trichotomy a b with h | h | h
    · exact absurd e (hpw a b (by omega) (by omega) h)
    · exact h
    · exact absurd e.symm (hpw b a (by omega) (by omega) h)
  obtain ⟨sel, hsel⟩ : ∃ sel : Nat → Bool, sel = fun i => (List.range n).any fun k => (x.getD k 0 == i) && onT p d x k := ⟨_, rfl⟩
  have hselx : ∀ k, k < n → sel (x.getD k 0) = onT p d x k := fun k hk => by
    rw [hsel]
    cases h : onT p d x k
    · refine List.any_eq_false.2 fun j hj hh => ?_
      simp only [Bool.and_eq_true, beq_iff_eq] at hh
      have := hxi j k (List.mem_range.1 hj) hk hh.1
      rw [this, h] at hh
      cases hh.2
    · exact List.any_eq_true.2 ⟨k, List.mem_range.2 hk, by simp [h]⟩
  have hfe := fe_of p d sel o (fun k hk hsk => by
    rw [hol] at hk
    obtain ⟨m, hm, hmP, hlast⟩ := last_in (x := x) (P := fun i => i ∈ (o.take (k + 1)).filter sel) n (by
      have : o.getD k 0 ∈ x := (hx.trans ho.symm).mem_iff.2 (by rw [List.getD, List.getElem?_eq_getElem (by omega)]; exact List.getElem_mem _)
      obtain ⟨m, hm, e⟩ := List.getElem_of_mem this
      refine ⟨m, by omega, ?_⟩
      rw [List.getD, List.getElem?_eq_getElem hm, Option.getD_some, e]
      refine List.mem_filter.2 ⟨?_, hsk⟩
      rw [List.getD, List.getElem?_eq_getElem (by omega)]
      exact List.mem_take_iff_getElem.2 ⟨k, by omega, rfl⟩)
    have hmf := List.mem_filter.1 hmP
    have h1 : tm p (x.take (m + 1)) ≤ d (x.getD m 0) := by
      have := hselx m hm
      rw [hmf.2] at this
      exact of_decide_eq_true this.symm
    have h2 : d (x.getD m 0) ≤ d (o.getD k 0) := by
      obtain ⟨j, hj, e⟩ := List.mem_take_iff_getElem.1 hmf.1
      have e2 : o.getD j 0 = x.getD m 0 := by rw [← e, List.getD, List.getElem?_eq_getElem (by omega)]; rfl
      rw [← e2]
      by_cases hjk : j = k
      · rw [hjk]; exact Int.le_refl _
      · exact hs j k (by omega) hk
    have h3 : tm p ((o.take (k + 1)).filter sel) ≤ tm p (x.take (m + 1)) := tm_sub hp ((hon.sublist (List.take_sublist _ _)).sublist List.filter_sublist) fun i hi => by
      have hix : i ∈ x := (hx.trans ho.symm).mem_iff.2 (List.mem_of_mem_take (List.mem_filter.1 hi).1)
      obtain ⟨q, hq, rfl⟩ := List.getElem_of_mem hix
      refine List.mem_take_iff_getElem.2 ⟨q, ?_, rfl⟩
      have e : x.getD q 0 = x[q] := by rw [List.getD, List.getElem?_eq_getElem hq]; rfl
      have : ¬ m < q := fun h => hlast q h (by omega) (by rw [e]; exact hi)
      omega
    omega) n (by omega)
  rw [List.take_of_length_le (by omega)] at hfe
  have hle := hM.le hfe
  rw [List.length_reverse, List.length_map] at hle
  have hc : cntT p d x n = (o.filter sel).length := by
    rw [← ((hx.trans ho.symm).filter sel).length_eq]
    unfold cntT
    have : x = (List.range n).map fun k => x.getD k 0 := by
      refine List.ext_getElem (by simp [hxl]) fun i h1 h2 => ?_
      simp [List.getD, h1]
    conv => rhs; rw [this]
    rw [← List.countP_eq_length_filter, List.countP_map]
    refine List.countP_congr fun k hk => ?_
    simp only [Function.comp]
    rw [hselx k (List.mem_range.1 hk)]
  omega
/-- where nothing is kept each one alone is late -/
theorem moore_none {p d : Nat → Int} {n : Nat} {o : List Nat} {K : List Int} (ho : o.Perm (List.range n)) (hM : MSt (rev p d o) K) (hK : K.length = 0) {i : Nat} (hi : i < n) : d i < p i := by
  refine Int.not_le.1 fun hle => ?_
  have hol : o.length = n := by simpa using ho.length_eq
  have hon : o.Nodup := ho.nodup_iff.2 List.nodup_range
  have hfe := fe_of p d (fun j => decide (j = i)) o (fun k hk hs => by
    have e : o.getD k 0 = i := of_decide_eq_true hs
    rw [e]
    refine Int.le_trans ?_ hle
    have : ∀ q : List Nat, q.Nodup → q.filter (fun j => decide (j = i)) = [] ∨ q.filter (fun j => decide (j = i)) = [i] := fun q hq => by
      have h1 : (q.filter fun j => decide (j = i)).Nodup := hq.sublist List.filter_sublist
      cases hf : q.filter fun j => decide (j = i) with
      | nil => exact .inl rfl
      | cons a r =>
        have ha : a = i := of_decide_eq_true (List.mem_filter.1 (show a ∈ q.filter fun j => decide (j = i) by rw [hf]; simp)).2
        right
        subst ha
        cases r with
        | nil => rfl
        | cons b r =>
          have hb : b = a := of_decide_eq_true (List.mem_filter.1 (show b ∈ q.filter fun j => decide (j = a) by rw [hf]; simp)).2
          rw [hf, hb] at h1
          simp at h1
    rcases this (o.take (k + 1)) (hon.sublist (List.take_sublist _ _)) with h | h
    · exfalso
      have : i ∈ (o.take (k + 1)).filter fun j => decide (j = i) := List.mem_filter.2 ⟨by
        rw [← e, List.getD, List.getElem?_eq_getElem hk]
        exact List.mem_take_iff_getElem.2 ⟨k, by omega, rfl⟩, by simp⟩
      rw [h] at this; cases this
    · rw [h]; simp [tm]) n (by omega)
  rw [List.take_of_length_le (by omega)] at hfe
  have := hM.le hfe
  rw [List.length_reverse, List.length_map, hK] at this
  have him : i ∈ o.filter fun j => decide (j = i) := List.mem_filter.2 ⟨ho.mem_iff.2 (List.mem_range.2 hi), by simp⟩
  have hnil : (o.filter fun j => decide (j = i)) = [] := List.eq_nil_of_length_eq_zero (by omega)
  rw [hnil] at him
  cases him
end Go.Proofs.Ytnpmmmicgpngpaa
