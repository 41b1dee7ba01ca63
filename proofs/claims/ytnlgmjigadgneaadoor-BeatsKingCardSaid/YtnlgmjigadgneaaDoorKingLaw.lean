/- LANDAU, MAURER: whoever beats the most is a king; each who is beaten is beaten by a king: the plain law. -/
import Derived.Test.YtnlgmjigadgneaaDoorKings
namespace Go.Proofs.YtnlgmjigadgneaaDoor

theorem popc_lt {a b : Nat} : ∀ {n : Nat}, (∀ m, m < n → a.testBit m = true → b.testBit m = true) → (∃ m, m < n ∧ b.testBit m = true ∧ a.testBit m = false) → popc n a < popc n b
  | 0, _, ⟨m, hm, _⟩ => by omega
  | n + 1, h, ⟨m, hm, h1, h2⟩ => by
    have hle : ∀ k, k ≤ n + 1 → popc k a ≤ popc k b := fun k hk => by
      induction k with
      | zero => simp [popc]
      | succ k ih =>
        have := ih (by omega)
        rw [popc_next, popc_next]
        have := h k (by omega)
        cases ha : a.testBit k
        · simp; omega
        · rw [this ha]; simp; omega
    rw [popc_next, popc_next]
    by_cases hmn : m = n
    · subst hmn
      rw [h1, h2]
      have := hle m (by omega)
      simp; omega
    · have ih := popc_lt (n := n) (fun k hk => h k (by omega)) ⟨m, by omega, h1, h2⟩
      have := h n (by omega)
      cases ha : a.testBit n
      · simp; omega
      · rw [this ha]; simp; omega
theorem most_of (f : Nat → Nat) (p : Nat → Prop) : ∀ n : Nat, (∃ j, j < n ∧ p j) → ∃ j, j < n ∧ p j ∧ ∀ k, k < n → p k → f k ≤ f j
  | 0, ⟨j, hj, _⟩ => by omega
  | n + 1, ⟨j, hj, hp⟩ => by
    by_cases hex : ∃ j, j < n ∧ p j
    · obtain ⟨m, hm, hpm, hmax⟩ := most_of f p n hex
      by_cases hn : p n ∧ f m < f n
      · refine ⟨n, by omega, hn.1, fun k hk hpk => ?_⟩
        by_cases hkn : k = n
        · subst hkn; exact Nat.le_refl _
        · have := hmax k (by omega) hpk; omega
      · refine ⟨m, by omega, hpm, fun k hk hpk => ?_⟩
        by_cases hkn : k = n
        · subst hkn; exact Nat.le_of_not_lt fun h => hn ⟨hpk, h⟩
        · exact hmax k (by omega) hpk
    · have hjn : j = n := Nat.le_antisymm (by omega) (Nat.le_of_not_lt fun h => hex ⟨j, h, hp⟩)
      subst hjn
      refine ⟨j, by omega, hp, fun k hk hpk => ?_⟩
      by_cases hkn : k = j
      · subst hkn; exact Nat.le_refl _
      · exact absurd ⟨k, by omega, hpk⟩ hex
section
variable {ts : List Nat}
/-- one beats another -/
def bt (ts : List Nat) (i j : Nat) : Bool := (ts.getD i 0).testBit j
theorem orW_bit (l : List Nat) (a v : Nat) : (orW ts l a).testBit v = (a.testBit v || l.any fun j => bt ts j v) := by
  induction l generalizing a with
  | nil => simp [orW]
  | cons j l ih =>
    have : orW ts (j :: l) a = orW ts l (a ||| ts.getD j 0) := rfl
    rw [this, ih, Nat.testBit_or, List.any_cons, Bool.or_assoc]
    rfl
theorem allW_bit (i v : Nat) : (allW ts i).testBit v = (bt ts i v || decide (i = v) || (bitsL (ts.getD i 0)).any fun j => bt ts j v) := by
  unfold allW
  rw [orW_bit, Nat.testBit_or, Nat.testBit_two_pow]
  rfl
theorem Tour.bt_lt (hT : Tour ts) {i j : Nat} (hi : i < ts.length) (h : bt ts i j = true) : j < ts.length := by
  refine Nat.lt_of_not_le fun hle => ?_
  have := Nat.testBit_lt_two_pow (Nat.lt_of_lt_of_le (hT.lt i hi) (Nat.pow_le_pow_right (by omega) hle))
  unfold bt at h
  rw [h] at this; cases this
theorem isK_iff (hT : Tour ts) {i : Nat} (hi : i < ts.length) : isK ts i = true ↔ ∀ v, v < ts.length → i = v ∨ bt ts i v = true ∨ ∃ j, j < ts.length ∧ bt ts i j = true ∧ bt ts j v = true := by
  have hlen := hT.len
  have hal : allW ts i < 2 ^ ts.length := orW_lt hT.lt _ _ (Nat.or_lt_two_pow (hT.lt i hi) (Nat.pow_lt_pow_right (by omega) hi))
  have key : ∀ v, v < ts.length → ((allW ts i).testBit v = true ↔ (i = v ∨ bt ts i v = true ∨ ∃ j, j < ts.length ∧ bt ts i j = true ∧ bt ts j v = true)) := fun v hv => by
    rw [allW_bit i v]
    simp only [Bool.or_eq_true, decide_eq_true_eq, List.any_eq_true]
    constructor
    · rintro ((h | h) | ⟨j, hj, h⟩)
      · exact .inr (.inl h)
      · exact .inl h
      · have := (mem_bitsL.1 hj).2
        exact .inr (.inr ⟨j, hT.bt_lt hi this, this, h⟩)
    · rintro (h | h | ⟨j, hj, h1, h2⟩)
      · exact .inl (.inr h)
      · exact .inl (.inl h)
      · exact .inr ⟨j, mem_bitsL.2 ⟨by omega, h1⟩, h2⟩
  unfold isK
  rw [beq_iff_eq]
  constructor
  · intro h v hv
    rw [← key v hv, h, Nat.testBit_two_pow_sub_one]
    simpa using hv
  · intro h
    apply Nat.eq_of_testBit_eq
    intro v
    rw [Nat.testBit_two_pow_sub_one]
    by_cases hv : v < ts.length
    · rw [(key v hv).2 (h v hv)]; simp [hv]
    · rw [Nat.testBit_lt_two_pow (Nat.lt_of_lt_of_le hal (Nat.pow_le_pow_right (by omega) (by omega)))]; simp [hv]
/-- of some players: whoever beats the most of them -/
theorem king_in (hT : Tour ts) (S : Nat) {j : Nat} (hj : j < ts.length) (hjS : S.testBit j = true) (hmax : ∀ k, k < ts.length → S.testBit k = true → popc 10 (ts.getD k 0 &&& S) ≤ popc 10 (ts.getD j 0 &&& S)) {v : Nat} (hv : v < ts.length) (hvS : S.testBit v = true) :
    j = v ∨ bt ts j v = true ∨ ∃ k, k < ts.length ∧ bt ts j k = true ∧ bt ts k v = true := by
  refine Classical.byContradiction fun hno => ?_
  have h1 : j ≠ v := fun h => hno (.inl h)
  have h2 : bt ts j v = false := by cases h : bt ts j v; rfl; exact absurd (.inr (.inl h)) hno
  have h3 : bt ts v j = true := by have := hT.one v j hv hj (Ne.symm h1); unfold bt at h2 ⊢; rw [this, h2]; rfl
  have h4 : ∀ k, k < ts.length → bt ts j k = true → bt ts v k = true := fun k hk hjk => by
    have h5 : bt ts k v = false := by cases h : bt ts k v; rfl; exact absurd (.inr (.inr ⟨k, hk, hjk, h⟩)) hno
    have h6 : v ≠ k := fun e => by subst e; rw [hjk] at h2; cases h2
    have := hT.one v k hv hk h6
    unfold bt at h5 ⊢; rw [this, h5]; rfl
  have hlt := popc_lt (n := 10) (a := ts.getD j 0 &&& S) (b := ts.getD v 0 &&& S) (fun m _ hm => by
    rw [Nat.testBit_and, Bool.and_eq_true] at hm ⊢
    exact ⟨h4 m (hT.bt_lt hj hm.1) hm.1, hm.2⟩) ⟨j, by have := hT.len; omega, by rw [Nat.testBit_and, hjS, Bool.and_true]; exact h3, by rw [Nat.testBit_and, hT.self j hj, Bool.false_and]⟩
  have := hmax v hv hvS
  omega
theorem full_and {n x : Nat} (hx : x < 2 ^ n) : x &&& (2 ^ n - 1) = x := by
  rw [Nat.and_two_pow_sub_one_eq_mod]; exact Nat.mod_eq_of_lt hx
theorem landau (hT : Tour ts) {i : Nat} (hi : i < ts.length) (hmax : ∀ k, k < ts.length → popc 10 (ts.getD k 0) ≤ popc 10 (ts.getD i 0)) : isK ts i = true := by
  rw [isK_iff hT hi]
  intro v hv
  refine king_in hT (2 ^ ts.length - 1) hi (by simp [Nat.testBit_two_pow_sub_one, hi]) (fun k hk _ => ?_) hv (by simp [Nat.testBit_two_pow_sub_one, hv])
  rw [full_and (hT.lt k hk), full_and (hT.lt i hi)]
  exact hmax k hk
theorem maurer (hT : Tour ts) {i j : Nat} (hi : i < ts.length) (hj : j < ts.length) (hb : bt ts j i = true) : ∃ k, k < ts.length ∧ bt ts k i = true ∧ isK ts k = true := by
  obtain ⟨S, hS⟩ : ∃ S, S = backW ts i ts.length := ⟨_, rfl⟩
  have hSb : ∀ m, m < ts.length → S.testBit m = bt ts m i := fun m hm => by rw [hS, backW_bit]; simp [hm, bt]
  obtain ⟨k, hk, hkS, hmax⟩ := most_of (fun k => popc 10 (ts.getD k 0 &&& S)) (fun k => S.testBit k = true) ts.length ⟨j, hj, by rw [hSb j hj]; exact hb⟩
  have hki : bt ts k i = true := by rw [← hSb k hk]; exact hkS
  refine ⟨k, hk, hki, (isK_iff hT hk).2 fun v hv => ?_⟩
  by_cases hvS : S.testBit v = true
  · exact king_in hT S hk hkS hmax hv hvS
  · by_cases hvi : v = i
    · subst hvi; exact .inr (.inl hki)
    · have h1 : bt ts v i = false := by rw [hSb v hv] at hvS; simpa using hvS
      have h2 : bt ts i v = true := by have := hT.one i v hi hv (Ne.symm hvi); unfold bt at h1 ⊢; rw [this, h1]; rfl
      exact .inr (.inr ⟨i, hi, hki, h2⟩)
theorem kingsW_bit : ∀ (k m : Nat), (kingsW ts k).testBit m = (decide (m < k) && isK ts m)
  | 0, m => by simp [kingsW]
  | k + 1, m => by
    rw [kingsW, Nat.testBit_or, kingsW_bit k m]
    by_cases h : m = k
    · subst h
      cases hb : isK ts m <;> simp
    · have h1 : (if isK ts k then 2 ^ k else 0 : Nat).testBit m = false := by
        split
        · rw [Nat.testBit_two_pow]; simp; omega
        · simp
      rw [h1, Bool.or_false]
      congr 1
      exact decide_eq_decide.2 (by omega)
end
end Go.Proofs.YtnlgmjigadgneaaDoor
