/- Sets as words; the search for the largest crowd: the plain law. -/
import Derived.Test.YtnpgnohnpbdblaaDoorOnes
namespace Go.Proofs.YtnpgnohnpbdblaaDoor
open Go.RowKit

def andN (a b : Nat) : Nat := a &&& (4294967295 - b)
theorem testBit_andN {a b : Nat} (hb : b < 4294967296) (ha : a < 4294967296) (i : Nat) : (andN a b).testBit i = (a.testBit i && !b.testBit i) := by
  unfold andN
  rw [Nat.testBit_and, show 4294967295 - b = 2 ^ 32 - (b + 1) by omega, Nat.testBit_two_pow_sub_succ (by omega)]
  by_cases hi : i < 32
  · simp [hi]
  · have : a.testBit i = false := Nat.testBit_lt_two_pow (Nat.lt_of_lt_of_le ha (Nat.pow_le_pow_right (n := 2) (by omega) (show 32 ≤ i by omega)))
    simp [this]
theorem andN_le (a b : Nat) : andN a b ≤ a := Nat.and_le_left
theorem tb_pow (i j : Nat) : (2 ^ i).testBit j = decide (i = j) := Nat.testBit_two_pow
theorem tb_high {x k i : Nat} (h : x < 2 ^ k) (hi : k ≤ i) : x.testBit i = false := Nat.testBit_lt_two_pow (Nat.lt_of_lt_of_le h (Nat.pow_le_pow_right (by omega) hi))
theorem lt_of_bits {x k : Nat} (h : ∀ i, k ≤ i → x.testBit i = false) : x < 2 ^ k := Nat.lt_pow_two_of_testBit _ fun i hi => h i hi
def subW (s m : Nat) : Prop := ∀ i, s.testBit i = true → m.testBit i = true
theorem filter_len_le {α : Type} {p q : α → Bool} (l : List α) (h : ∀ a ∈ l, p a = true → q a = true) : (l.filter p).length ≤ (l.filter q).length := by
  induction l with
  | nil => simp
  | cons a r ih =>
    have ihr := ih fun b hb => h b (List.mem_cons_of_mem _ hb)
    rw [List.filter_cons, List.filter_cons]
    cases hp : p a
    · cases hq : q a
      · simpa using ihr
      · simp; omega
    · rw [h a (by simp) hp]
      simpa using ihr
theorem popc_mono {k a b : Nat} (h : subW a b) : popc k a ≤ popc k b := filter_len_le _ fun i _ hi => h i hi
theorem subW_or {a b m : Nat} (h1 : subW a m) (h2 : subW b m) : subW (a ||| b) m := fun i hi => by
  rw [Nat.testBit_or, Bool.or_eq_true] at hi
  rcases hi with h | h
  · exact h1 i h
  · exact h2 i h
theorem subW_lt {s m k : Nat} (h : subW s m) (hm : m < 2 ^ k) : s < 2 ^ k := lt_of_bits fun i hi => by
  cases hs : s.testBit i
  · rfl
  · have := h i hs; rw [tb_high hm hi] at this; cases this
/-- each two of a set have each other in their words -/
def isCl (L : List Nat) (s : Nat) : Prop := ∀ i j, j < i → s.testBit i = true → s.testBit j = true → (L.getD i 0).testBit j = true
def Seek (L : List Nat) (now may b0 b1 : Nat) : Prop :=
  popc 10 b0 ≤ popc 10 b1 ∧ (b1 = b0 ∨ ∃ s, subW s may ∧ isCl L s ∧ b1 = now ||| s) ∧ ∀ s, subW s may → isCl L s → popc 10 (now ||| s) ≤ popc 10 b1
theorem Seek.prune {L : List Nat} {now may b : Nat} (h : popc 10 (now ||| may) < popc 10 b) : Seek L now may b b :=
  ⟨Nat.le_refl _, .inl rfl, fun s hs _ => Nat.le_trans (popc_mono (fun i hi => by
    rw [Nat.testBit_or] at hi ⊢
    cases h1 : now.testBit i
    · rw [h1, Bool.false_or] at hi; simp [hs i hi]
    · rfl)) (Nat.le_of_lt h)⟩
theorem sub_zero {s : Nat} (h : subW s 0) : s = 0 := Nat.eq_of_testBit_eq fun i => by
  cases hs : s.testBit i
  · simp
  · have := h i hs; simp at this
theorem isCl_zero (L : List Nat) : isCl L 0 := fun i j _ h => by simp at h
theorem Seek.stay {L : List Nat} {now b : Nat} (h : popc 10 now ≤ popc 10 b) : Seek L now 0 b b :=
  ⟨Nat.le_refl _, .inl rfl, fun s hs _ => by rw [sub_zero hs, Nat.or_zero]; exact h⟩
theorem Seek.take {L : List Nat} {now b : Nat} (h : popc 10 b ≤ popc 10 now) : Seek L now 0 b now :=
  ⟨h, .inr ⟨0, fun i hi => hi, isCl_zero L, by simp⟩, fun s hs _ => by rw [sub_zero hs, Nat.or_zero]; exact Nat.le_refl _⟩
theorem Seek.step {L : List Nat} {now may i b0 b1 b2 : Nat} (hm : may < 1024) (hi : may.testBit i = true) (hhi : ∀ j, i < j → may.testBit j = false)
    (h1 : Seek L now (andN may (2 ^ i)) b0 b1) (h2 : Seek L (now ||| 2 ^ i) (andN may (2 ^ i) &&& L.getD i 0) b1 b2) : Seek L now may b0 b2 := by
  have hi10 : i < 10 := by
    refine Classical.byContradiction fun h => ?_
    rw [tb_high (k := 10) hm (by omega)] at hi; cases hi
  have hp : 2 ^ i < 4294967296 := Nat.lt_of_lt_of_le (Nat.pow_lt_pow_right (by omega) hi10) (by omega)
  have hr : ∀ j, (andN may (2 ^ i)).testBit j = (may.testBit j && !decide (i = j)) := fun j => by rw [testBit_andN hp (by omega), tb_pow]
  refine ⟨Nat.le_trans h1.1 h2.1, ?_, fun s hs hc => ?_⟩
  · rcases h2.2.1 with rfl | ⟨s, hs, hc, rfl⟩
    · rcases h1.2.1 with rfl | ⟨s, hs, hc, rfl⟩
      · exact .inl rfl
      · exact .inr ⟨s, fun j hj => by have := hs j hj; rw [hr] at this; simp at this; exact this.1, hc, rfl⟩
    · have hsb : ∀ j, s.testBit j = true → may.testBit j = true ∧ i ≠ j ∧ (L.getD i 0).testBit j = true := fun j hj => by
        have := hs j hj
        rw [Nat.testBit_and, hr] at this
        simp at this
        exact ⟨this.1.1, this.1.2, by simpa [List.getD] using this.2⟩
      refine .inr ⟨2 ^ i ||| s, fun j hj => ?_, fun x y hyx hx hy => ?_, by rw [Nat.or_assoc]⟩
      · rw [Nat.testBit_or, tb_pow, Bool.or_eq_true] at hj
        rcases hj with h | h
        · simp at h; subst h; exact hi
        · exact (hsb j h).1
      · rw [Nat.testBit_or, tb_pow, Bool.or_eq_true] at hx hy
        rcases hx with hx | hx
        · simp at hx
          subst hx
          rcases hy with hy | hy
          · simp at hy; omega
          · exact (hsb y hy).2.2
        · rcases hy with hy | hy
          · simp at hy
            subst hy
            have h8 := (hsb x hx).1
            rw [hhi x hyx] at h8
            cases h8
          · exact hc x y hyx hx hy
  · cases hsi : s.testBit i
    · refine Nat.le_trans (h1.2.2 s (fun j hj => ?_) hc) h2.1
      rw [hr, hs j hj]
      have : i ≠ j := fun h => by subst h; rw [hsi] at hj; cases hj
      simp [this]
    · have hs2 : s < 1024 := subW_lt (k := 10) hs hm
      have e : now ||| s = (now ||| 2 ^ i) ||| andN s (2 ^ i) := by
        apply Nat.eq_of_testBit_eq
        intro j
        rw [Nat.testBit_or, Nat.testBit_or, Nat.testBit_or, testBit_andN hp (by omega), tb_pow]
        by_cases hij : i = j
        · subst hij; simp [hsi]
        · simp [hij]
      rw [e]
      refine h2.2.2 _ (fun j hj => ?_) fun x y hyx hx hy => ?_
      · rw [testBit_andN hp (by omega), tb_pow] at hj
        simp at hj
        rw [Nat.testBit_and, hr, hs j hj.1, Bool.and_eq_true]
        have hji : j < i := by
          refine Classical.byContradiction fun h => ?_
          have h3 := hhi j (by omega)
          rw [hs j hj.1] at h3; cases h3
        exact ⟨by simp [hj.2], hc i j hji hsi hj.1⟩
      · rw [testBit_andN hp (by omega)] at hx hy
        simp at hx hy
        exact hc x y hyx hx.1 hy.1
end Go.Proofs.YtnpgnohnpbdblaaDoor
