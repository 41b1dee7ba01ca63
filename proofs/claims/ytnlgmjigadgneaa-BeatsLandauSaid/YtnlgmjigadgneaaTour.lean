/- beats.Check, teamsterref.BeatsCheck: are these players, each against each? -/
import Derived.Test.YtnlgmjigadgneaaRows
import Derived.Test.YtnlgmjigadgneaaBase
import Derived.Test.YtnlgmjigadgneaaRefBit
namespace Go.Proofs.Ytnlgmjigadgneaa
open Go.RowKit

/-- words as numbers -/
structure Tour (ts : List Nat) : Prop where
  len : ts.length ≤ 8
  lt : ∀ i, i < ts.length → ts.getD i 0 < 2 ^ ts.length
  self : ∀ i, i < ts.length → (ts.getD i 0).testBit i = false
  one : ∀ i j, i < ts.length → j < ts.length → i ≠ j → (ts.getD i 0).testBit j = !(ts.getD j 0).testBit i
/-- who of the first k beats one -/
def backW (ts : List Nat) (i : Nat) : Nat → Nat
  | 0 => 0
  | k + 1 => backW ts i k ||| if (ts.getD k 0).testBit i then 2 ^ k else 0
theorem backW_bit (ts : List Nat) (i : Nat) : ∀ k m, (backW ts i k).testBit m = (decide (m < k) && (ts.getD m 0).testBit i)
  | 0, m => by simp [backW]
  | k + 1, m => by
    rw [backW, Nat.testBit_or, backW_bit ts i k m]
    by_cases h : m = k
    · subst h
      cases hb : (ts.getD m 0).testBit i <;> simp
    · have h1 : (if (ts.getD k 0).testBit i then 2 ^ k else 0 : Nat).testBit m = false := by
        split
        · rw [Nat.testBit_two_pow]; simp; omega
        · simp
      rw [h1, Bool.or_false]
      congr 1
      exact decide_eq_decide.2 (by omega)
theorem backW_lt (ts : List Nat) (i : Nat) (k : Nat) : backW ts i k < 2 ^ k := by
  refine Nat.lt_pow_two_of_testBit _ fun m hm => ?_
  rw [backW_bit]; simp; omega
theorem form_iff {ts : List Nat} {i : Nat} (hi : i < ts.length) (hlt : ts.getD i 0 < 2 ^ ts.length) :
    (ts.getD i 0 &&& backW ts i ts.length = 0 ∧ ts.getD i 0 ||| backW ts i ts.length = (2 ^ ts.length - 1) - 2 ^ i) ↔
      ((ts.getD i 0).testBit i = false ∧ ∀ j, j < ts.length → i ≠ j → (ts.getD i 0).testBit j = !(ts.getD j 0).testBit i) := by
  have hpw : 2 ^ i < 2 ^ ts.length := Nat.pow_lt_pow_right (by omega) hi
  have hfull : ∀ m, ((2 ^ ts.length - 1) - 2 ^ i).testBit m = (decide (m < ts.length) && !decide (i = m)) := fun m => by
    rw [show 2 ^ ts.length - 1 - 2 ^ i = 2 ^ ts.length - (2 ^ i + 1) by omega, Nat.testBit_two_pow_sub_succ hpw, Nat.testBit_two_pow]
  have hx : ∀ m, ts.length ≤ m → (ts.getD i 0).testBit m = false := fun m hm => Nat.testBit_lt_two_pow (Nat.lt_of_lt_of_le hlt (Nat.pow_le_pow_right (by omega) hm))
  constructor
  · rintro ⟨h1, h2⟩
    have a1 : ∀ m, ((ts.getD i 0).testBit m && (backW ts i ts.length).testBit m) = false := fun m => by rw [← Nat.testBit_and, h1, Nat.zero_testBit]
    have a2 : ∀ m, ((ts.getD i 0).testBit m || (backW ts i ts.length).testBit m) = (decide (m < ts.length) && !decide (i = m)) := fun m => by rw [← Nat.testBit_or, h2, hfull]
    refine ⟨?_, fun j hj hij => ?_⟩
    · have := a2 i
      simp at this
      exact this.1
    · have b1 := a1 j
      have b2 := a2 j
      rw [backW_bit] at b1 b2
      simp only [hj, decide_true, Bool.true_and, hij, decide_false, Bool.not_false] at b1 b2
      cases h1 : (ts.getD i 0).testBit j <;> cases h2 : (ts.getD j 0).testBit i <;> simp_all
  · rintro ⟨h1, h2⟩
    constructor
    · apply Nat.eq_of_testBit_eq
      intro m
      rw [Nat.testBit_and, backW_bit, Nat.zero_testBit]
      by_cases hm : m < ts.length
      · by_cases him : i = m
        · subst him; rw [h1]; simp
        · rw [h2 m hm him]; cases (ts.getD m 0).testBit i <;> simp
      · simp [hm]
    · apply Nat.eq_of_testBit_eq
      intro m
      rw [Nat.testBit_or, backW_bit, hfull]
      by_cases hm : m < ts.length
      · by_cases him : i = m
        · subst him; rw [h1]; simp
        · rw [h2 m hm him]; cases (ts.getD m 0).testBit i <;> simp [hm, him]
      · rw [hx m (by omega)]; simp [hm]
end Go.Proofs.Ytnlgmjigadgneaa
