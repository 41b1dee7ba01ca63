/- Going outward: the steps of graph.Dist's search, in words. -/
import Derived.Test.YtnkmfnnkophccaaDoorDistLaw
import Derived.Test.YtnkmfnnkophccaaDoorBase
namespace Go.Proofs.YtnkmfnnkophccaaDoor
open Go.RowKit

def seenW (ns : List Nat) (i : Nat) : Nat → Nat
  | 0 => 0
  | d + 1 => ball ns i d
def nextW (ns : List Nat) (i d : Nat) : Nat := ball ns i d &&& (4294967295 - seenW ns i d)
section
variable {n : Nat} {ns : List Nat}
theorem not32 {x m : Nat} (hx : x < 2 ^ 32) (hm : m < 32) : (4294967295 - x).testBit m = !x.testBit m := by
  rw [show 4294967295 - x = 2 ^ 32 - (x + 1) by omega, Nat.testBit_two_pow_sub_succ hx]; simp [hm]
theorem w32 {x n : Nat} (hn : n ≤ 10) (h : x < 2 ^ n) : x < 2 ^ 32 := Nat.lt_of_lt_of_le h (Nat.pow_le_pow_right (by omega) (by omega))
theorem seenW_lt (g : Gr n ns) {i : Nat} (hi : i < n) : ∀ d, seenW ns i d < 2 ^ n
  | 0 => Nat.two_pow_pos n
  | d + 1 => ball_lt g hi d
theorem andNot_lt {a b n : Nat} (h : a < 2 ^ n) : a &&& b < 2 ^ n := Nat.lt_of_le_of_lt Nat.and_le_left h
theorem nextW_bit (g : Gr n ns) {i : Nat} (hi : i < n) (d m : Nat) : (nextW ns i d).testBit m = ((ball ns i d).testBit m && !(seenW ns i d).testBit m) := by
  unfold nextW
  rw [Nat.testBit_and]
  by_cases hm : m < 32
  · rw [not32 (w32 g.n10 (seenW_lt g hi d)) hm]
  · have hn := g.n10
    have : (ball ns i d).testBit m = false := Nat.testBit_lt_two_pow (Nat.lt_of_lt_of_le (ball_lt g hi d) (Nat.pow_le_pow_right (by omega) (by omega)))
    rw [this]; rfl
theorem seen_sub (ns : List Nat) (i : Nat) : ∀ d m, (seenW ns i d).testBit m = true → (ball ns i d).testBit m = true
  | 0, m, h => by simp [seenW] at h
  | d + 1, m, h => ball_sub ns i d m h
theorem seen_or (g : Gr n ns) {i : Nat} (hi : i < n) (d : Nat) : seenW ns i d ||| nextW ns i d = ball ns i d := by
  apply Nat.eq_of_testBit_eq
  intro m
  rw [Nat.testBit_or, nextW_bit g hi]
  have := seen_sub ns i d m
  cases h1 : (seenW ns i d).testBit m
  · simp
  · rw [this h1]; rfl
theorem next_step (g : Gr n ns) {i : Nat} (hi : i < n) (d : Nat) : orN ns (bitsL (nextW ns i d)) &&& (4294967295 - ball ns i d) = nextW ns i (d + 1) := by
  have hn := g.n10
  apply Nat.eq_of_testBit_eq
  intro m
  rw [nextW_bit g hi, Nat.testBit_and]
  by_cases hm : m < 32
  · rw [not32 (w32 hn (ball_lt g hi d)) hm]
    show _ = ((ball ns i d ||| orN ns (bitsL (ball ns i d))).testBit m && !(ball ns i d).testBit m)
    rw [Nat.testBit_or]
    cases hb : (ball ns i d).testBit m
    · simp only [Bool.not_false, Bool.and_true, Bool.false_or]
      rw [orN_bit, orN_bit]
      cases h2 : (bitsL (ball ns i d)).any fun j => nb ns j m
      · refine List.any_eq_false.2 fun j hj h => ?_
        have hj' := mem_bitsL.1 hj
        have := List.any_eq_false.1 h2 j (mem_bitsL.2 ⟨hj'.1, by rw [nextW_bit g hi] at hj'; simp at hj'; exact hj'.2.1⟩)
        exact this h
      · obtain ⟨j, hj, h⟩ := List.any_eq_true.1 h2
        have hj' := mem_bitsL.1 hj
        refine List.any_eq_true.2 ⟨j, mem_bitsL.2 ⟨hj'.1, ?_⟩, h⟩
        rw [nextW_bit g hi, hj'.2]
        cases hs : (seenW ns i d).testBit j
        · rfl
        · exfalso
          cases d with
          | zero => simp [seenW] at hs
          | succ d =>
            have : (ball ns i (d + 1)).testBit m = true := (Rch.succ g hi).2 (.inr ⟨j, hs, h⟩)
            rw [hb] at this; cases this
    · simp
  · have h1 : (orN ns (bitsL (nextW ns i d))).testBit m = false := Nat.testBit_lt_two_pow (Nat.lt_of_lt_of_le (orN_lt g _) (Nat.pow_le_pow_right (by omega) (by omega)))
    have h2 : (ball ns i (d + 1)).testBit m = false := Nat.testBit_lt_two_pow (Nat.lt_of_lt_of_le (ball_lt g hi (d + 1)) (Nat.pow_le_pow_right (by omega) (by omega)))
    rw [h1, h2]; rfl
theorem some_bit {x : Nat} (h : x ≠ 0) : ∃ m, x.testBit m = true := by
  refine Classical.byContradiction fun hno => h ?_
  apply Nat.eq_of_testBit_eq
  intro m
  rw [Nat.zero_testBit]
  cases hb : x.testBit m
  · rfl
  · exact absurd ⟨m, hb⟩ hno
theorem next_more (g : Gr n ns) {i : Nat} (hi : i < n) {d : Nat} (hne : nextW ns i d ≠ 0) (hd : d ≤ popc n (seenW ns i d)) : d + 1 ≤ popc n (seenW ns i (d + 1)) ∧ d + 1 ≤ n := by
  obtain ⟨m, hm⟩ := some_bit hne
  rw [nextW_bit g hi, Bool.and_eq_true, Bool.not_eq_true'] at hm
  have := (popc_grow (n := n) (a := seenW ns i d) (b := seenW ns i (d + 1)) (fun q _ hq => seen_sub ns i d q hq)).2 ⟨m, lt_bit (ball_lt g hi d) hm.1, hm.1, hm.2⟩
  have := popc_le n (seenW ns i (d + 1))
  omega
theorem first_seen (ns : List Nat) (i j : Nat) : ∀ d, 0 ≤ first ns i j (d + 1) ↔ ∃ k, k ≤ d ∧ Rch ns k i j := fun d => by
  rcases first_cases ns i j (d + 1) with ⟨h1, h2⟩ | ⟨k, h1, h2, h3, _⟩
  · exact ⟨fun h => by omega, fun ⟨k, hk, h⟩ => absurd h (h2 k (by omega))⟩
  · exact ⟨fun _ => ⟨k, by omega, h3⟩, fun _ => by omega⟩
theorem first_next (g : Gr n ns) {i : Nat} (hi : i < n) (d j : Nat) : first ns i j (d + 1) = if (nextW ns i d).testBit j then (d : Int) else first ns i j d := by
  have hs : (seenW ns i d).testBit j = true ↔ 0 ≤ first ns i j d := by
    cases d with
    | zero => simp [seenW, first]
    | succ d =>
      rw [first_seen]
      constructor
      · intro h; exact ⟨d, Nat.le_refl _, h⟩
      · rintro ⟨k, hk, h⟩
        have := Rch.mono g hi h (d - k)
        rwa [show k + (d - k) = d by omega] at this
  rw [first, nextW_bit g hi]
  rcases first_cases ns i j d with ⟨h1, _⟩ | ⟨k, h1, _, h3, _⟩
  · have hsf : (seenW ns i d).testBit j = false := by
      cases h : (seenW ns i d).testBit j
      · rfl
      · have := hs.1 h; omega
    rw [h1, if_pos (by omega), hsf]
    simp
  · have hst := hs.2 (by omega)
    rw [h1, if_neg (by omega), hst]
    simp
theorem bfs_end (g : Gr n ns) {i : Nat} (hi : i < n) {d : Nat} (h0 : nextW ns i d = 0) (hd : d ≤ n) (j : Nat) : first ns i j d = far ns i j := by
  have hn := g.n10
  have hsub : ∀ m, (ball ns i d).testBit m = true → (seenW ns i d).testBit m = true := fun m hm => by
    have := nextW_bit g hi d m
    rw [h0, Nat.zero_testBit, hm] at this
    simpa using this.symm
  cases d with
  | zero => have := hsub i (by simp [ball]); simp [seenW] at this
  | succ d =>
    have he : ball ns i (d + 1) = ball ns i d := by
      apply Nat.eq_of_testBit_eq
      intro m
      cases hb : (ball ns i (d + 1)).testBit m
      · cases hb2 : (ball ns i d).testBit m
        · rfl
        · rw [ball_sub ns i d m hb2] at hb; cases hb
      · exact (hsub m hb).symm
    have := first_still he j (10 - d)
    rw [show d + 1 + (10 - d) = 11 by omega] at this
    exact this.symm
end
end Go.Proofs.YtnkmfnnkophccaaDoor
