/- Things in boxes: the plain law. No program in sight. -/
import Derived.Test.YtefkciboicmoaaaDoorTz
import Derived.Test.YtefkciboicmoaaaDoorPopc
namespace Go.Proofs.YtefkciboicmoaaaDoor

/-- what of a set's first k things is in box c -/
def ldW (z : Nat → Int) (w : Nat) (f : Nat → Nat) (c : Nat) : Nat → Int
  | 0 => 0
  | k + 1 => if w.testBit k && f k == c then ldW z w f c k + z k else ldW z w f c k
/-- a set's first k things together -/
def smW (z : Nat → Int) (w : Nat) : Nat → Int
  | 0 => 0
  | k + 1 => if w.testBit k then smW z w k + z k else smW z w k
def delW (w i v : Nat) : Prop := ∀ j, v.testBit j = (w.testBit j && !(j == i))
section
variable {z : Nat → Int} {w v i n : Nat} {f : Nat → Nat} {c : Nat}
theorem delW_low (hd : delW w i v) : ∀ k, k ≤ i → ldW z v f c k = ldW z w f c k
  | 0, _ => rfl
  | k + 1, hk => by
    have e : v.testBit k = w.testBit k := by rw [hd k]; simp; omega
    rw [ldW, ldW, e, delW_low hd k (by omega)]
theorem ldW_del (hd : delW w i v) (hw : w.testBit i = true) : ∀ k, i < k → ldW z w f c k = ldW z v f c k + if f i = c then z i else 0
  | 0, h => absurd h (by omega)
  | k + 1, h => by
    have e := hd k
    rw [ldW, ldW]
    by_cases hk : k = i
    · subst hk
      rw [e, hw, delW_low hd k (Nat.le_refl _)]
      by_cases hf : f k = c
      · simp [hf]
      · simp [hf]
    · have e2 : v.testBit k = w.testBit k := by rw [e]; simp [hk]
      have ih := ldW_del hd hw k (by omega)
      rw [e2, ih]
      split <;> omega
theorem smW_low (hd : delW w i v) : ∀ k, k ≤ i → smW z v k = smW z w k
  | 0, _ => rfl
  | k + 1, hk => by
    have e : v.testBit k = w.testBit k := by rw [hd k]; simp; omega
    rw [smW, smW, e, smW_low hd k (by omega)]
theorem smW_del (hd : delW w i v) (hw : w.testBit i = true) : ∀ k, i < k → smW z w k = smW z v k + z i
  | 0, h => absurd h (by omega)
  | k + 1, h => by
    have e := hd k
    rw [smW, smW]
    by_cases hk : k = i
    · subst hk
      rw [e, hw, smW_low hd k (Nat.le_refl _)]
      simp
    · have e2 : v.testBit k = w.testBit k := by rw [e]; simp [hk]
      have ih := smW_del hd hw k (by omega)
      rw [e2, ih]
      split <;> omega
theorem popc_del (hd : delW w i v) (hw : w.testBit i = true) : ∀ k, i < k → popc k w = popc k v + 1 := by
  have ps : ∀ k x, popc (k + 1) x = popc k x + if x.testBit k then 1 else 0 := fun k x => by
    unfold popc
    rw [List.range_succ, List.filter_append, List.length_append]
    cases h : x.testBit k <;> simp [h]
  have low : ∀ k, k ≤ i → popc k v = popc k w := by
    intro k
    induction k with
    | zero => intro _; rfl
    | succ k ih =>
      intro hk
      rw [ps, ps, ih (by omega)]
      have e : v.testBit k = w.testBit k := by rw [hd k]; simp; omega
      rw [e]
  intro k
  induction k with
  | zero => intro h; omega
  | succ k ih =>
    intro h
    rw [ps, ps]
    by_cases hk : k = i
    · subst hk
      rw [low k (Nat.le_refl _), hw, hd k]
      simp
    · have e2 : v.testBit k = w.testBit k := by rw [hd k]; simp [hk]
      rw [e2, ih (by omega)]; omega
theorem ldW_nonneg (hz : ∀ i, 0 ≤ z i) : ∀ k, 0 ≤ ldW z w f c k
  | 0 => Int.le_refl _
  | k + 1 => by
    have := ldW_nonneg hz k
    have := hz k
    rw [ldW]; split <;> omega
theorem ldW_mem (hz : ∀ i, 0 ≤ z i) (hw : w.testBit i = true) (hf : f i = c) : ∀ k, i < k → z i ≤ ldW z w f c k
  | 0, h => absurd h (by omega)
  | k + 1, h => by
    rw [ldW]
    by_cases hk : k = i
    · subst hk
      have := ldW_nonneg hz (w := w) (f := f) (c := c) k
      rw [hw, hf]; simp; omega
    · have := ldW_mem hz hw hf k (by omega)
      have := hz k
      split <;> omega
theorem ldW_none (h : ∀ i, i < n → w.testBit i = true → f i ≠ c) : ∀ k, k ≤ n → ldW z w f c k = 0
  | 0, _ => rfl
  | k + 1, hk => by
    rw [ldW, ldW_none h k (by omega)]
    cases hb : w.testBit k
    · rfl
    · have := h k (by omega) hb
      simp [this]
end
/-- one thing more -/
def stp (room : Int) (s : Int × Int) (x : Int) : Int × Int := if room < s.2 + x then (s.1 + 1, x) else (s.1, s.2 + x)
def lexlt (s t : Int × Int) : Prop := s.1 < t.1 ∨ (s.1 = t.1 ∧ s.2 < t.2)
/-- more than half a box -/
def bigZ (z : Nat → Int) (room : Int) (i : Nat) : Int := if room < 2 * z i then 1 else 0
/-- what is told of a set -/
structure PB (z : Nat → Int) (room : Int) (n w : Nat) (s : Int × Int) : Prop where
  lb : ∀ (k : Nat) (f : Nat → Nat), 1 ≤ k → (∀ i, i < n → w.testBit i = true → f i < k) → (∀ c, c < k → ldW z w f c n ≤ room) → s.1 < k ∨ (s.1 = k ∧ s.2 ≤ ldW z w f (k - 1) n)
  sm : w ≠ 0 → 1 ≤ s.1 ∧ 0 ≤ s.2 ∧ s.2 ≤ room ∧ smW z w n ≤ (s.1 - 1) * room + s.2
  z0 : w = 0 → s = (0, room + 1)
  bd : 0 ≤ s.1 ∧ s.1 ≤ popc n w
  bg : w ≠ 0 → smW (bigZ z room) w n ≤ s.1 - 1 ∨ (smW (bigZ z room) w n ≤ s.1 ∧ room < 2 * s.2)
theorem smW_zero (z : Nat → Int) : ∀ k, smW z 0 k = 0
  | 0 => rfl
  | k + 1 => by rw [smW, smW_zero z k]; simp
theorem PB.zero (z : Nat → Int) (room : Int) (n : Nat) : PB z room n 0 (0, room + 1) :=
  ⟨fun k f hk _ _ => .inl (by show (0 : Int) < k; omega), fun h => absurd rfl h, fun _ => rfl, by simp, fun h => absurd rfl h⟩
/-- the best of some of a set's things put last -/
structure PI (z : Nat → Int) (room : Int) (n : Nat) (T : Nat → Int × Int) (del : Nat → Nat) (pre : List Nat) (s : Int × Int) : Prop where
  le : ∀ i, i ∈ pre → ¬ lexlt (stp room (T (del i)) (z i)) s
  at' : (pre = [] ∧ s = ((n : Int) + 1, 0)) ∨ ∃ i, i ∈ pre ∧ s = stp room (T (del i)) (z i)
theorem PI.start (z : Nat → Int) (room : Int) (n : Nat) (T : Nat → Int × Int) (del : Nat → Nat) : PI z room n T del [] ((n : Int) + 1, 0) := ⟨fun _ h => (by cases h), .inl ⟨rfl, rfl⟩⟩
theorem PI.take {z : Nat → Int} {room : Int} {n : Nat} {T : Nat → Int × Int} {del : Nat → Nat} {pre : List Nat} {s : Int × Int} (h : PI z room n T del pre s) {i : Nat} (hlt : lexlt (stp room (T (del i)) (z i)) s) : PI z room n T del (pre ++ [i]) (stp room (T (del i)) (z i)) := by
  refine ⟨fun j hj => ?_, .inr ⟨i, by simp, rfl⟩⟩
  rcases List.mem_append.1 hj with h1 | h1
  · have := h.le j h1
    unfold lexlt at *
    omega
  · obtain rfl : j = i := by simpa using h1
    unfold lexlt; omega
theorem PI.skip {z : Nat → Int} {room : Int} {n : Nat} {T : Nat → Int × Int} {del : Nat → Nat} {pre : List Nat} {s : Int × Int} (h : PI z room n T del pre s) {i : Nat} (hno : ¬ lexlt (stp room (T (del i)) (z i)) s) (hbd : (stp room (T (del i)) (z i)).1 ≤ n) : PI z room n T del (pre ++ [i]) s := by
  refine ⟨fun j hj => ?_, ?_⟩
  · rcases List.mem_append.1 hj with h1 | h1
    · exact h.le j h1
    · obtain rfl : j = i := by simpa using h1
      exact hno
  · rcases h.at' with ⟨rfl, rfl⟩ | ⟨j, h1, h2⟩
    · exfalso
      apply hno
      left
      show _ < (n : Int) + 1
      omega
    · exact .inr ⟨j, by simp [h1], h2⟩
theorem stp_bd {z : Nat → Int} {room : Int} {n w i : Nat} {s : Int × Int} {v : Nat} (hd : delW w i v) (hw : w.testBit i = true) (hi : i < n) (h : PB z room n v s) : 0 ≤ (stp room s (z i)).1 ∧ (stp room s (z i)).1 ≤ popc n w := by
  have := h.bd
  have hp := popc_del hd hw n hi
  unfold stp
  split <;> simp <;> omega
theorem PI.done {z : Nat → Int} {room : Int} {n w : Nat} {T : Nat → Int × Int} {del : Nat → Nat} {pre : List Nat} {s : Int × Int} (hz : ∀ i, 0 ≤ z i ∧ z i ≤ room) (hw0 : w ≠ 0) (hlt : w < 2 ^ n)
    (hpre : ∀ i, i ∈ pre ↔ w.testBit i = true) (hdel : ∀ i, w.testBit i = true → delW w i (del i)) (hT : ∀ i, w.testBit i = true → PB z room n (del i) (T (del i))) (h : PI z room n T del pre s) : PB z room n w s := by
  have hin : ∀ i, w.testBit i = true → i < n := fun i hi => Nat.lt_of_not_le fun hle => by
    have := Nat.testBit_lt_two_pow (Nat.lt_of_lt_of_le hlt (Nat.pow_le_pow_right (by omega) hle))
    rw [hi] at this; cases this
  have hz0 : ∀ i, 0 ≤ z i := fun i => (hz i).1
  refine ⟨?_, fun _ => ?_, fun e => absurd e hw0, ?_, fun _ => ?_⟩
  · intro k
    induction k with
    | zero => intro f h1; omega
    | succ k ih =>
      intro f _ hf hl
      rw [show k + 1 - 1 = k by omega]
      by_cases hex : ∃ i, w.testBit i = true ∧ f i = k
      · obtain ⟨i, hi, hfi⟩ := hex
        have hd := hdel i hi
        have hin' := hin i hi
        have hle := h.le i ((hpre i).2 hi)
        have hPB := hT i hi
        have hv : ∀ c, ldW z w f c n = ldW z (del i) f c n + if f i = c then z i else 0 := fun c => ldW_del hd hi n hin'
        have hzi := hz i
        have hcase := hPB.lb (k + 1) f (by omega) (fun j hj hb => hf j hj (by rw [hd j] at hb; simp at hb; exact hb.1)) (fun c hc => by
          have := hl c hc
          rw [hv] at this
          split at this <;> omega)
        have hk := hv k
        rw [if_pos hfi] at hk
        have hlk := hl k (by omega)
        rw [show k + 1 - 1 = k by omega] at hcase
        have hn2 := ldW_nonneg (w := del i) (f := f) (c := k) hz0 n
        unfold lexlt stp at hle
        rcases hcase with h1 | ⟨h1, h2⟩
        · split at hle
          · simp only at hle; omega
          · simp only at hle; omega
        · split at hle
          · omega
          · simp only at hle; omega
      · have hno : ∀ i, i < n → w.testBit i = true → f i ≠ k := fun i _ hb e => hex ⟨i, hb, e⟩
        obtain ⟨j, hj⟩ : ∃ j, w.testBit j = true := by
          refine Classical.byContradiction fun hno => hw0 (Nat.eq_of_testBit_eq fun j => ?_)
          rw [Nat.zero_testBit]
          cases hb : w.testBit j
          · rfl
          · exact absurd ⟨j, hb⟩ hno
        have hfj := hf j (hin j hj) hj
        have hnj := hno j (hin j hj) hj
        have := ih f (by omega) (fun i hi hb => by have := hf i hi hb; have := hno i hi hb; omega) (fun c hc => hl c (by omega))
        left
        omega
  · rcases h.at' with ⟨he, _⟩ | ⟨i, hi, rfl⟩
    · exfalso
      apply hw0
      refine Nat.eq_of_testBit_eq fun j => ?_
      rw [Nat.zero_testBit]
      cases hb : w.testBit j
      · rfl
      · have := (hpre j).2 hb
        rw [he] at this; cases this
    · have hb := (hpre i).1 hi
      have hd := hdel i hb
      have hPB := hT i hb
      have hzi := hz i
      have hs := smW_del (z := z) hd hb n (hin i hb)
      rw [hs]
      by_cases hv0 : del i = 0
      · have e := hPB.z0 hv0
        rw [e]
        have : stp room (0, room + 1) (z i) = (1, z i) := by unfold stp; rw [if_pos (by simp; omega)]; rfl
        rw [this, hv0, smW_zero]
        simp; omega
      · obtain ⟨h1, h2, h3, h4⟩ := hPB.sm hv0
        generalize T (del i) = s at *
        obtain ⟨b, l⟩ := s
        simp only at h1 h2 h3 h4
        unfold stp
        have e : (b + 1 - 1) * room = (b - 1) * room + room := by rw [show b + 1 - 1 = b by omega, Int.sub_mul]; omega
        split
        · rename_i hlt2
          simp only at hlt2 ⊢
          refine ⟨by omega, by omega, by omega, by rw [e]; omega⟩
        · rename_i hlt2
          simp only at hlt2 ⊢
          omega
  · rcases h.at' with ⟨he, _⟩ | ⟨i, hi, rfl⟩
    · exfalso
      apply hw0
      refine Nat.eq_of_testBit_eq fun j => ?_
      rw [Nat.zero_testBit]
      cases hb : w.testBit j
      · rfl
      · have := (hpre j).2 hb
        rw [he] at this; cases this
    · have hb := (hpre i).1 hi
      exact stp_bd (hdel i hb) hb (hin i hb) (hT i hb)
  · rcases h.at' with ⟨he, _⟩ | ⟨i, hi, rfl⟩
    · exfalso
      apply hw0
      refine Nat.eq_of_testBit_eq fun j => ?_
      rw [Nat.zero_testBit]
      cases hb : w.testBit j
      · rfl
      · have := (hpre j).2 hb
        rw [he] at this; cases this
    · have hb := (hpre i).1 hi
      have hd := hdel i hb
      have hPB := hT i hb
      have hzi := hz i
      have hs := smW_del (z := bigZ z room) hd hb n (hin i hb)
      rw [hs]
      have hbi : bigZ z room i = if room < 2 * z i then 1 else 0 := rfl
      by_cases hv0 : del i = 0
      · have e := hPB.z0 hv0
        rw [e]
        have : stp room (0, room + 1) (z i) = (1, z i) := by unfold stp; rw [if_pos (by simp; omega)]; rfl
        rw [this, hv0, smW_zero, hbi]
        simp only
        split <;> omega
      · obtain ⟨h1, h2, h3, h4⟩ := hPB.sm hv0
        have h5 := hPB.bg hv0
        generalize T (del i) = s at *
        generalize smW (bigZ z room) (del i) n = q at *
        rw [hbi]
        obtain ⟨b, l⟩ := s
        simp only at h1 h2 h3 h4 h5
        unfold stp
        split
        · rename_i hlt2
          simp only at hlt2 ⊢
          split <;> omega
        · rename_i hlt2
          simp only at hlt2 ⊢
          split <;> omega
end Go.Proofs.YtefkciboicmoaaaDoor
