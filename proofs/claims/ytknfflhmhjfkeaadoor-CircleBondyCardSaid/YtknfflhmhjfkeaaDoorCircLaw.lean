/- circle: the ways from a node through all that are left, and back to the node 0: plain. -/
import Derived.Test.YtknfflhmhjfkeaaDoorDistLaw
import Derived.Test.YtknfflhmhjfkeaaDoorEachBits
import Derived.Test.YtknfflhmhjfkeaaDoorLostMap
namespace Go.Proofs.YtknfflhmhjfkeaaDoor
open Go.RowKit

/-- x without c -/
def del (x c : Nat) : Nat := x &&& (4294967295 - 2 ^ c)
theorem del_le (x c : Nat) : del x c ≤ x := Nat.and_le_left
theorem sub_bit {x c : Nat} (hx : x < 2 ^ 32) (hc : c < 32) (m : Nat) : (del x c).testBit m = (x.testBit m && !decide (c = m)) := by
  have hp : 2 ^ c < 2 ^ 32 := Nat.pow_lt_pow_right (by omega) hc
  unfold del
  rw [show 4294967295 - 2 ^ c = 2 ^ 32 - (2 ^ c + 1) by omega, Nat.testBit_and, Nat.testBit_two_pow_sub_succ hp, Nat.testBit_two_pow]
  by_cases hm : m < 32
  · simp [hm]
  · rw [Nat.testBit_lt_two_pow (Nat.lt_of_lt_of_le hx (Nat.pow_le_pow_right (by omega) (by omega : 32 ≤ m)))]
    simp
theorem lt_bitN {x n j : Nat} (h : x < 2 ^ n) (hj : x.testBit j = true) : j < n := Nat.lt_of_not_le fun hle => by
  rw [Nat.testBit_lt_two_pow (Nat.lt_of_lt_of_le h (Nat.pow_le_pow_right (by omega) hle))] at hj; cases hj
theorem bitsL_sub {x c : Nat} (hx : x < 2 ^ 32) (h : x.testBit c = true) : (c :: bitsL (del x c)).Perm (bitsL x) := by
  have hc : c < 32 := lt_bitN hx h
  refine (List.perm_ext_iff_of_nodup ?_ (bitsL_nodup x)).2 fun m => ?_
  · rw [List.nodup_cons]
    refine ⟨fun hm => ?_, bitsL_nodup _⟩
    have := (mem_bitsL.1 hm).2
    rw [sub_bit hx hc] at this
    simp at this
  · rw [List.mem_cons, mem_bitsL, mem_bitsL, sub_bit hx hc]
    constructor
    · rintro (rfl | ⟨h1, h2⟩)
      · exact ⟨hc, h⟩
      · simp at h2; exact ⟨h1, h2.1⟩
    · rintro ⟨h1, h2⟩
      by_cases e : m = c
      · exact .inl e
      · exact .inr ⟨h1, by simp [h2]; omega⟩
theorem bitsL_none {x : Nat} (hx : x < 2 ^ 32) (h : (bitsL x).length = 0) : x = 0 := by
  rcases Nat.eq_zero_or_pos x with h0 | h0
  · exact h0
  · obtain ⟨i, hi⟩ := Nat.exists_testBit_of_ne_zero (show x ≠ 0 by omega)
    have : i ∈ bitsL x := mem_bitsL.2 ⟨lt_bitN hx hi, hi⟩
    rw [List.eq_nil_of_length_eq_zero h] at this
    cases this
theorem del_lt {x c : Nat} (hx : x < 2 ^ 32) (h : x.testBit c = true) : del x c < x := by
  have hc := lt_bitN hx h
  have h1 := del_le x c
  rcases Nat.lt_or_ge (del x c) x with h2 | h2
  · exact h2
  · have e : del x c = x := by omega
    have := sub_bit hx hc c
    rw [e, h] at this
    simp at this
/-- a way from a through all of x, back to the node 0 -/
inductive Wy (ns : List Nat) : Nat → Nat → List Nat → Prop
  | last {a : Nat} : nb ns a 0 = true → Wy ns a 0 [a]
  | step {a x i : Nat} {l : List Nat} : x.testBit i = true → nb ns a i = true → Wy ns i (del x i) l → Wy ns a x (a :: l)
theorem wy_zero {ns : List Nat} {a : Nat} {l : List Nat} : Wy ns a 0 l ↔ nb ns a 0 = true ∧ l = [a] := by
  constructor
  · intro h
    cases h with
    | last h => exact ⟨h, rfl⟩
    | step h _ _ => simp at h
  · rintro ⟨h, rfl⟩
    exact .last h
theorem Wy.ne {ns : List Nat} {a x : Nat} {l : List Nat} (h : Wy ns a x l) : 0 < l.length := by cases h <;> simp
theorem Wy.to_step {ns : List Nat} {a x : Nat} {l : List Nat} (h : Wy ns a x l) (hx : x ≠ 0) : ∃ i l', (ns.getD a 0 &&& x).testBit i = true ∧ Wy ns i (del x i) l' := by
  cases h with
  | last h => exact absurd rfl hx
  | step h1 h2 h3 => exact ⟨_, _, by rw [Nat.testBit_and, h1]; unfold nb at h2; rw [h2]; rfl, h3⟩
theorem Wy.of_step {ns : List Nat} {a x i : Nat} {l : List Nat} (hi : (ns.getD a 0 &&& x).testBit i = true) (h : Wy ns i (del x i) l) : Wy ns a x (a :: l) := by
  rw [Nat.testBit_and, Bool.and_eq_true] at hi
  exact .step hi.2 hi.1 h
theorem Wy.len {ns : List Nat} : ∀ {d a x : Nat} {l : List Nat}, x < 2 ^ 32 → (bitsL x).length = d → Wy ns a x l → l.length = d + 1 := by
  intro d
  induction d with
  | zero =>
    intro a x l hx hd h
    obtain rfl := bitsL_none hx hd
    rw [(wy_zero.1 h).2]; rfl
  | succ d ih =>
    intro a x l hx hd h
    cases h with
    | last h => rw [show bitsL 0 = [] by decide] at hd; cases hd
    | step h1 h2 h3 =>
      have hp := (bitsL_sub hx h1).length_eq
      rw [List.length_cons, hd] at hp
      rw [List.length_cons, ih (Nat.lt_of_le_of_lt (del_le _ _) hx) (by omega) h3]
end Go.Proofs.YtknfflhmhjfkeaaDoor
