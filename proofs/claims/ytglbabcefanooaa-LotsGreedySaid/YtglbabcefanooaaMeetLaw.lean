/- EDMONDS: what is free by both. No program in sight. -/
import Derived.Test.YtglbabcefanooaaLotsLaw
import Derived.Test.YtglbabcefanooaaPopc
namespace Go.Proofs.Ytglbabcefanooaa

/-- what a rank does -/
structure RkW (r : Nat → Nat) : Prop where
  z : r 0 = 0
  mono : ∀ S T, r S ≤ r (S ||| T)
  inc : ∀ S e, r (S ||| 2 ^ e) ≤ r S + 1
  sub : ∀ S T, r (S ||| T) + r (S &&& T) ≤ r S + r T
/-- one of two has each thing below n -/
def Part (n S T : Nat) : Prop := (∀ i, i < n → S.testBit i = !T.testBit i) ∧ ∀ i, n ≤ i → S.testBit i = false ∧ T.testBit i = false
theorem popc_lt {n x : Nat} (h : x < 2 ^ n) : popc (n + 1) x = popc n x := by
  unfold popc
  rw [List.range_succ, List.filter_append]
  simp [Nat.testBit_lt_two_pow h]
theorem popc_top {n x : Nat} (_ : x < 2 ^ n) : popc (n + 1) (x ||| 2 ^ n) = popc n x + 1 := by
  unfold popc
  rw [List.range_succ, List.filter_append, List.length_append]
  congr 1
  · congr 1
    refine List.filter_congr fun i hi => ?_
    have hi := List.mem_range.1 hi
    rw [Nat.testBit_or, Nat.testBit_two_pow]
    simp; omega
  · simp
theorem RkW.down {r : Nat → Nat} (h : RkW r) {n : Nat} (h1 : r (2 ^ n) = 1) : RkW fun S => r (S ||| 2 ^ n) - 1 := by
  have hp : ∀ S, 1 ≤ r (S ||| 2 ^ n) := fun S => by
    have := h.mono (2 ^ n) S
    rw [Nat.or_comm] at this
    omega
  refine ⟨by simp [h1], fun S T => ?_, fun S e => ?_, fun S T => ?_⟩
  · have := h.mono (S ||| 2 ^ n) T
    rw [Nat.or_assoc, Nat.or_comm (2 ^ n) T, ← Nat.or_assoc] at this
    show r (S ||| 2 ^ n) - 1 ≤ r (S ||| T ||| 2 ^ n) - 1
    omega
  · have := h.inc (S ||| 2 ^ n) e
    rw [Nat.or_assoc, Nat.or_comm (2 ^ n) (2 ^ e), ← Nat.or_assoc] at this
    have := hp S
    show r (S ||| 2 ^ e ||| 2 ^ n) - 1 ≤ r (S ||| 2 ^ n) - 1 + 1
    omega
  · have := h.sub (S ||| 2 ^ n) (T ||| 2 ^ n)
    have e1 : S ||| 2 ^ n ||| (T ||| 2 ^ n) = S ||| T ||| 2 ^ n := Nat.eq_of_testBit_eq fun i => by
      simp only [Nat.testBit_or]
      cases S.testBit i <;> cases T.testBit i <;> cases (2 ^ n).testBit i <;> rfl
    have e2 : (S ||| 2 ^ n) &&& (T ||| 2 ^ n) = S &&& T ||| 2 ^ n := Nat.eq_of_testBit_eq fun i => by
      simp only [Nat.testBit_or, Nat.testBit_and]
      cases S.testBit i <;> cases T.testBit i <;> cases (2 ^ n).testBit i <;> rfl
    rw [e1, e2] at this
    have := hp S; have := hp T; have := hp (S ||| T); have := hp (S &&& T)
    show r (S ||| T ||| 2 ^ n) - 1 + (r (S &&& T ||| 2 ^ n) - 1) ≤ r (S ||| 2 ^ n) - 1 + (r (T ||| 2 ^ n) - 1)
    omega
theorem Part.left {n S T : Nat} (h : Part n S T) : Part (n + 1) (S ||| 2 ^ n) T := by
  refine ⟨fun i hi => ?_, fun i hi => ?_⟩
  · rw [Nat.testBit_or, Nat.testBit_two_pow]
    rcases Nat.lt_or_ge i n with h1 | h1
    · rw [h.1 i h1]; simp; omega
    · obtain rfl : i = n := by omega
      rw [(h.2 i h1).1, (h.2 i h1).2]; simp
  · rw [Nat.testBit_or, Nat.testBit_two_pow, (h.2 i (by omega)).1, (h.2 i (by omega)).2]
    simp; omega
theorem Part.swap {n S T : Nat} (h : Part n S T) : Part n T S := ⟨fun i hi => by rw [h.1 i hi]; simp, fun i hi => (h.2 i hi).symm⟩
theorem Part.join {n S1 T1 S2 T2 : Nat} (h1 : Part n S1 T1) (h2 : Part n S2 T2) : Part (n + 1) (S1 ||| (S2 ||| 2 ^ n)) (T1 &&& (T2 ||| 2 ^ n)) := by
  refine ⟨fun i hi => ?_, fun i hi => ?_⟩
  · simp only [Nat.testBit_or, Nat.testBit_and, Nat.testBit_two_pow]
    rcases Nat.lt_or_ge i n with h | h
    · rw [h1.1 i h, h2.1 i h, decide_eq_false (by omega)]
      cases T1.testBit i <;> cases T2.testBit i <;> rfl
    · obtain rfl : i = n := by omega
      rw [(h1.2 i h).1, (h1.2 i h).2]; simp
  · simp only [Nat.testBit_or, Nat.testBit_and, Nat.testBit_two_pow]
    rw [(h1.2 i (by omega)).1, (h1.2 i (by omega)).2, (h2.2 i (by omega)).1, decide_eq_false (by omega)]
    simp
theorem Part.zero : Part 0 0 0 := ⟨fun i hi => absurd hi (by omega), fun i _ => by simp⟩
theorem meet : ∀ (n k : Nat) (r1 r2 : Nat → Nat), RkW r1 → RkW r2 → (∀ S T, Part n S T → k ≤ r1 S + r2 T) → ∃ I, I < 2 ^ n ∧ popc n I = k ∧ k ≤ r1 I ∧ k ≤ r2 I
  | 0, k, r1, r2, h1, h2, h => by
    have := h 0 0 Part.zero
    rw [h1.z, h2.z] at this
    exact ⟨0, by simp, by simp [popc]; omega, by omega, by omega⟩
  | n + 1, k, r1, r2, h1, h2, h => by
    by_cases hd : ∀ S T, Part n S T → k ≤ r1 S + r2 T
    · obtain ⟨I, a, b, c, d⟩ := meet n k r1 r2 h1 h2 hd
      exact ⟨I, by rw [Nat.pow_succ]; omega, by rw [popc_lt a]; exact b, c, d⟩
    · obtain ⟨S1, T1, hp1, hlt⟩ : ∃ S T, Part n S T ∧ r1 S + r2 T < k := by
        refine Classical.byContradiction fun hno => hd fun S T hp => Nat.le_of_not_lt fun hl => hno ⟨S, T, hp, hl⟩
      have one : ∀ r, RkW r → r (2 ^ n) ≤ 1 := fun r hr => by
        have := hr.inc 0 n
        rw [Nat.zero_or, hr.z] at this
        exact this
      have e1 : r1 (2 ^ n) = 1 := by
        have := one r1 h1
        rcases Nat.eq_zero_or_pos (r1 (2 ^ n)) with h0 | h0
        · have a := h1.sub S1 (2 ^ n)
          have b := h _ _ hp1.left
          omega
        · omega
      have e2 : r2 (2 ^ n) = 1 := by
        have := one r2 h2
        rcases Nat.eq_zero_or_pos (r2 (2 ^ n)) with h0 | h0
        · have a := h2.sub T1 (2 ^ n)
          have b := h _ _ hp1.swap.left.swap
          omega
        · omega
      have hp : ∀ r, RkW r → r (2 ^ n) = 1 → ∀ S, 1 ≤ r (S ||| 2 ^ n) := fun r hr he S => by
        have := hr.mono (2 ^ n) S
        rw [Nat.or_comm] at this
        omega
      obtain ⟨I, a, b, c, d⟩ := meet n (k - 1) _ _ (h1.down e1) (h2.down e2) fun S T hq => by
        show k - 1 ≤ r1 (S ||| 2 ^ n) - 1 + (r2 (T ||| 2 ^ n) - 1)
        refine Nat.le_of_not_lt fun hl => ?_
        have p1 := hp r1 h1 e1 S
        have p2 := hp r2 h2 e2 T
        have s1 := h1.sub S1 (S ||| 2 ^ n)
        have s2 := h2.sub T1 (T ||| 2 ^ n)
        have q1 := h _ _ (hp1.join hq)
        have q2 := h _ _ (hp1.swap.join hq.swap).swap
        omega
      refine ⟨I ||| 2 ^ n, Nat.or_lt_two_pow (by rw [Nat.pow_succ]; omega) (Nat.pow_lt_pow_right (by omega) (by omega)), by rw [popc_top a, b]; omega, ?_, ?_⟩
      · have := hp r1 h1 e1 I
        have c : k - 1 ≤ r1 (I ||| 2 ^ n) - 1 := c
        omega
      · have := hp r2 h2 e2 I
        have d : k - 1 ≤ r2 (I ||| 2 ^ n) - 1 := d
        omega
theorem rkW_of {ws : List Nat} {n : Nat} (h : ∀ i, ws.getD i 0 < 1024) : RkW (rkS ws n) := by
  refine ⟨rkS_zero.2 (by simp), fun S T => rkS_mono h fun i _ hb => by rw [Nat.testBit_or, hb]; rfl, fun S e => ?_, fun S T => submod h⟩
  rcases Nat.lt_or_ge e n with he | he
  · rw [rkS_add h he]; split <;> omega
  · refine Nat.le_trans (rkS_mono (b := S) h fun i hi hb => ?_) (Nat.le_succ _)
    rw [Nat.testBit_or, Nat.testBit_two_pow, decide_eq_false (by omega), Bool.or_false] at hb
    exact hb
/-- the sum of the words of a set -/
def sumW (ws : List Nat) (s : Nat) : Nat → Nat
  | 0 => 0
  | k + 1 => if s.testBit k then sumW ws s k ^^^ ws.getD k 0 else sumW ws s k
theorem sumW_congr {ws : List Nat} {s t : Nat} : ∀ {k : Nat}, (∀ i, i < k → s.testBit i = t.testBit i) → sumW ws s k = sumW ws t k
  | 0, _ => rfl
  | k + 1, h => by
    rw [sumW, sumW, h k (by omega), sumW_congr fun i hi => h i (by omega)]
theorem Sp_sub {ws : List Nat} {a : Nat} : ∀ (k x : Nat), Sp (pick ws a k) x = true ↔ ∃ s, (∀ i, s.testBit i = true → i < k ∧ a.testBit i = true) ∧ sumW ws s k = x
  | 0, x => by
    simp only [pick, Sp]
    constructor
    · intro h
      have h : x = 0 := by simpa using h
      subst h
      exact ⟨0, by simp, rfl⟩
    · rintro ⟨s, _, rfl⟩
      rfl
  | k + 1, x => by
    have ih := fun x => Sp_sub (ws := ws) (a := a) k x
    have hcut : ∀ s : Nat, (∀ i, s.testBit i = true → i < k + 1 ∧ a.testBit i = true) → (∀ i, (cutW s k).testBit i = true → i < k ∧ a.testBit i = true) ∧ sumW ws (cutW s k) k = sumW ws s k := fun s hs => by
      refine ⟨fun i hi => ?_, sumW_congr fun i hi => by rw [cutW_bit]; simp [hi]⟩
      rw [cutW_bit, Bool.and_eq_true, decide_eq_true_iff] at hi
      exact ⟨hi.2, (hs i hi.1).2⟩
    have hno : ∀ s : Nat, (∀ i, s.testBit i = true → i < k ∧ a.testBit i = true) → s.testBit k = false := fun s hs => by
      cases hb : s.testBit k
      · rfl
      · have := (hs k hb).1; omega
    show Sp (if a.testBit k then ws.getD k 0 :: pick ws a k else pick ws a k) x = true ↔ _
    cases hb : a.testBit k
    · rw [if_neg (by simp), ih]
      constructor
      · rintro ⟨s, h1, h2⟩
        exact ⟨s, fun i hi => ⟨by have := (h1 i hi).1; omega, (h1 i hi).2⟩, by rw [sumW, hno s h1]; exact h2⟩
      · rintro ⟨s, h1, h2⟩
        obtain ⟨c1, c2⟩ := hcut s h1
        refine ⟨cutW s k, c1, ?_⟩
        rw [c2]
        have : s.testBit k = false := by
          cases hs : s.testBit k
          · rfl
          · have := (h1 k hs).2; rw [hb] at this; cases this
        rw [sumW, this] at h2
        exact h2
    · rw [if_pos rfl]
      simp only [Sp, Bool.or_eq_true]
      rw [ih, ih]
      constructor
      · rintro (⟨s, h1, h2⟩ | ⟨s, h1, h2⟩)
        · exact ⟨s, fun i hi => ⟨by have := (h1 i hi).1; omega, (h1 i hi).2⟩, by rw [sumW, hno s h1]; exact h2⟩
        · refine ⟨s ||| 2 ^ k, fun i hi => ?_, ?_⟩
          · rw [Nat.testBit_or, Nat.testBit_two_pow, Bool.or_eq_true, decide_eq_true_iff] at hi
            rcases hi with hi | rfl
            · exact ⟨by have := (h1 i hi).1; omega, (h1 i hi).2⟩
            · exact ⟨by omega, hb⟩
          · rw [sumW, if_pos (by rw [Nat.testBit_or, Nat.testBit_two_pow]; simp), sumW_congr (t := s) (fun i hi => by rw [Nat.testBit_or, Nat.testBit_two_pow, decide_eq_false (by omega), Bool.or_false]), h2, xor_xor]
      · rintro ⟨s, h1, h2⟩
        obtain ⟨c1, c2⟩ := hcut s h1
        cases hs : s.testBit k
        · rw [sumW, hs] at h2
          exact .inl ⟨cutW s k, c1, by rw [c2]; exact h2⟩
        · rw [sumW, hs] at h2
          refine .inr ⟨cutW s k, c1, ?_⟩
          rw [c2, ← h2]
          simp [xor_xor]
def Indep (ws : List Nat) (a n : Nat) : Prop := ∀ s, s ≠ 0 → (∀ i, s.testBit i = true → i < n ∧ a.testBit i = true) → sumW ws s n ≠ 0
theorem indep_rk {ws : List Nat} {a : Nat} : ∀ n, Indep ws a n ↔ rkS ws n a = popc n a
  | 0 => by
    constructor
    · intro _; rfl
    · intro _ s h0 hs
      exact absurd (Nat.eq_of_testBit_eq fun i => by
        rw [Nat.zero_testBit]
        cases hb : s.testBit i
        · rfl
        · have := (hs i hb).1; omega) h0
  | n + 1 => by
    have ih := indep_rk (ws := ws) (a := a) n
    have hsz : rkS ws n a ≤ popc n a := rkS_size n
    have hps : popc (n + 1) a = popc n a + if a.testBit n then 1 else 0 := by
      unfold popc
      rw [List.range_succ, List.filter_append, List.length_append]
      cases h : a.testBit n <;> simp [h]
    have hrk : rkS ws (n + 1) a = if a.testBit n then (if Sp (pick ws a n) (ws.getD n 0) then rkS ws n a else rkS ws n a + 1) else rkS ws n a := by
      show rkL (if a.testBit n then ws.getD n 0 :: pick ws a n else pick ws a n) = _
      cases a.testBit n
      · rfl
      · rw [if_pos rfl, if_pos rfl, rkL_cons]; rfl
    have small : ∀ s : Nat, (∀ i, s.testBit i = true → i < n ∧ a.testBit i = true) → s.testBit n = false := fun s hs => by
      cases hb : s.testBit n
      · rfl
      · have := (hs n hb).1; omega
    have down : Indep ws a (n + 1) → Indep ws a n := fun h s h0 hs he => by
      refine h s h0 (fun i hi => ⟨by have := (hs i hi).1; omega, (hs i hi).2⟩) ?_
      rw [sumW, small s hs]
      exact he
    rw [hrk, hps]
    constructor
    · intro h
      have h1 := ih.1 (down h)
      cases hb : a.testBit n
      · simp [h1]
      · cases hs : Sp (pick ws a n) (ws.getD n 0)
        · simp [h1]
        · obtain ⟨s, h2, h3⟩ := (Sp_sub n _).1 hs
          refine absurd ?_ (h (s ||| 2 ^ n) (fun e => ?_) fun i hi => ?_)
          · rw [sumW, if_pos (by rw [Nat.testBit_or, Nat.testBit_two_pow]; simp), sumW_congr (t := s) (fun i hi => by rw [Nat.testBit_or, Nat.testBit_two_pow, decide_eq_false (by omega), Bool.or_false]), h3, Nat.xor_self]
          · have : (s ||| 2 ^ n).testBit n = true := by rw [Nat.testBit_or, Nat.testBit_two_pow]; simp
            rw [e] at this; simp at this
          · rw [Nat.testBit_or, Nat.testBit_two_pow, Bool.or_eq_true, decide_eq_true_iff] at hi
            rcases hi with hi | rfl
            · exact ⟨by have := (h2 i hi).1; omega, (h2 i hi).2⟩
            · exact ⟨by omega, hb⟩
    · intro h s h0 hs he
      cases hb : a.testBit n
      · rw [hb] at h
        have h1 := ih.2 (by simpa using h)
        have hsn : s.testBit n = false := by
          cases hq : s.testBit n
          · rfl
          · have := (hs n hq).2; rw [hb] at this; cases this
        refine h1 s h0 (fun i hi => ⟨?_, (hs i hi).2⟩) ?_
        · have := (hs i hi).1
          refine Nat.lt_of_not_le fun hle => ?_
          obtain rfl : i = n := by omega
          rw [hsn] at hi; cases hi
        · rw [sumW, hsn] at he
          exact he
      · rw [hb] at h
        cases hsp : Sp (pick ws a n) (ws.getD n 0)
        · rw [hsp] at h
          have h1 := ih.2 (by simpa using h)
          cases hq : s.testBit n
          · refine h1 s h0 (fun i hi => ⟨?_, (hs i hi).2⟩) ?_
            · have := (hs i hi).1
              refine Nat.lt_of_not_le fun hle => ?_
              obtain rfl : i = n := by omega
              rw [hq] at hi; cases hi
            · rw [sumW, hq] at he
              exact he
          · rw [sumW, hq, if_pos rfl] at he
            have h3 : sumW ws s n = ws.getD n 0 := by
              have := congrArg (· ^^^ ws.getD n 0) he
              simpa [xor_xor] using this
            have := (Sp_sub (ws := ws) (a := a) n (ws.getD n 0)).2 ⟨cutW s n, fun i hi => by
              rw [cutW_bit, Bool.and_eq_true, decide_eq_true_iff] at hi
              exact ⟨hi.2, (hs i hi.1).2⟩, by rw [← h3]; exact sumW_congr fun i hi => by rw [cutW_bit]; simp [hi]⟩
            rw [hsp] at this; cases this
        · rw [hsp] at h
          simp at h
          omega
theorem Indep.sub {ws : List Nat} {a b n : Nat} (h : Indep ws a n) (hb : ∀ i, b.testBit i = true → a.testBit i = true) : Indep ws b n := fun s h0 hs => h s h0 fun i hi => ⟨(hs i hi).1, hb i (hs i hi).2⟩
/-- the next smaller part of a set -/
theorem sub_pred : ∀ (m t s u : Nat), u < 2 ^ m → t &&& u = t → s &&& u = s → t < s → t ≤ (s - 1) &&& u
  | 0, t, s, u, hu, _, hs, hlt => by
    obtain rfl : u = 0 := by simpa using hu
    rw [Nat.and_zero] at hs; omega
  | m + 1, t, s, u, hu, ht, hs, hlt => by
    have hdiv : ∀ x y : Nat, (x &&& y) / 2 = x / 2 &&& y / 2 := fun x y => Nat.eq_of_testBit_eq fun i => by simp [Nat.testBit_div_two, Nat.testBit_and]
    have hmod : ∀ x y : Nat, (x &&& y) % 2 = (x % 2) * (y % 2) := fun x y => by
      have := Nat.testBit_and x y 0
      rw [Nat.testBit_zero, Nat.testBit_zero, Nat.testBit_zero] at this
      rcases Nat.mod_two_eq_zero_or_one x with h1 | h1 <;> rcases Nat.mod_two_eq_zero_or_one y with h2 | h2 <;> rcases Nat.mod_two_eq_zero_or_one (x &&& y) with h3 | h3 <;> simp [h1, h2, h3] at this ⊢
    have d1 := hdiv t u; have d2 := hdiv s u; have d3 := hdiv (s - 1) u
    have m1 := hmod t u; have m2 := hmod s u; have m3 := hmod (s - 1) u
    rw [ht] at d1 m1
    rw [hs] at d2 m2
    rcases Nat.mod_two_eq_zero_or_one s with hb | hb
    · have e1 : (s - 1) / 2 = s / 2 - 1 := by omega
      have e2 : (s - 1) % 2 = 1 := by omega
      have ih := sub_pred m (t / 2) (s / 2) (u / 2) (by rw [Nat.pow_succ] at hu; omega) d1.symm d2.symm (by omega)
      rw [e1] at d3
      rw [e2, Nat.one_mul] at m3
      have : t % 2 ≤ u % 2 := by
        rw [m1]
        rcases Nat.mod_two_eq_zero_or_one t with h | h <;> rw [h] <;> omega
      omega
    · have e1 : (s - 1) / 2 = s / 2 := by omega
      rw [e1, ← d2] at d3
      omega
end Go.Proofs.Ytglbabcefanooaa
