/- The plain laws of who knows what: no program in sight. -/
import Derived.Test.YtmcijljadcfpmaaWe
namespace Go.Proofs.Ytmcijljadcfpmaa
open Go.RowKit

theorem getD_set (l : List Nat) (i j v : Nat) (hi : i < l.length) : (l.set i v).getD j 0 = if i = j then v else l.getD j 0 := by
  simp only [List.getD, List.getElem?_set]
  by_cases h : i = j
  · subst h; simp [hi]
  · simp [h]
theorem step_getD (l : List Nat) (x y i : Nat) (hx : x < l.length) (hy : y < l.length) :
    (step l ((x : Int), (y : Int))).getD i 0 = if y = i then l.getD x 0 ||| l.getD y 0 else if x = i then l.getD x 0 ||| l.getD y 0 else l.getD i 0 := by
  unfold step both
  simp only [Int.toNat_natCast]
  rw [getD_set _ _ _ _ (by simpa using hy), getD_set _ _ _ _ hx]
theorem know0_getD (n i : Nat) (h : i < n) : (know0 n).getD i 0 = 2 ^ i := by simp [know0, List.getD, h]
/-- a call is between two of n people -/
def okC (n : Nat) (c : Int × Int) : Prop := ∃ x y : Nat, c = ((x : Int), (y : Int)) ∧ x < n ∧ y < n ∧ x ≠ y
theorem chk_ok {n : Int} {cs : List (Int × Int)} (h : chk n cs = 0) : 1 ≤ n ∧ n ≤ 8 ∧ cs.length ≤ 64 ∧ ∀ c ∈ cs, okC n.toNat c := by
  have hl : large n cs.length = false := by
    cases h' : large n cs.length
    · rfl
    · simp [chk, h'] at h
  have ho : cs.any (outB n) = false := by
    cases h' : cs.any (outB n)
    · rfl
    · simp [chk, hl, h'] at h
  have he : cs.any eqB = false := by
    cases h' : cs.any eqB
    · rfl
    · simp [chk, hl, ho, h'] at h
  simp [large] at hl
  refine ⟨by omega, by omega, by omega, fun c hc => ?_⟩
  have h1 := List.any_eq_false.1 ho c hc
  have h2 := List.any_eq_false.1 he c hc
  obtain ⟨a, b⟩ := c
  simp [outB, isB] at h1
  simp [eqB] at h2
  refine ⟨a.toNat, b.toNat, ?_, by omega, by omega, by omega⟩
  rw [Int.toNat_of_nonneg (by omega), Int.toNat_of_nonneg (by omega)]
theorem know_bit_mono (n : Nat) (cs : List (Int × Int)) (h : ∀ c ∈ cs, okC n c) (l : List Nat) (hl : l.length = n) (i j : Nat) (hb : (l.getD i 0).testBit j = true) :
    ((cs.foldl step l).getD i 0).testBit j = true := by
  induction cs generalizing l with
  | nil => exact hb
  | cons c cs ih =>
    refine ih (fun d hd => h d (List.mem_cons_of_mem _ hd)) _ (by rw [step_length, hl]) ?_
    obtain ⟨x, y, rfl, hx, hy, _⟩ := h c (by simp)
    rw [step_getD l x y i (by omega) (by omega)]
    split
    · rename_i h; subst h; rw [Nat.testBit_or, hb, Bool.or_true]
    · split
      · rename_i h; subst h; rw [Nat.testBit_or, hb, Bool.true_or]
      · exact hb
theorem know_self {n : Nat} {cs : List (Int × Int)} (h : ∀ c ∈ cs, okC n c) (i : Nat) (hi : i < n) : ((know n cs).getD i 0).testBit i = true := by
  refine know_bit_mono n cs h (know0 n) (by simp [know0]) i i ?_
  rw [know0_getD n i hi]
  simp
theorem andNot_zero {p q : Nat} (hp : p < 256) (hq : q < 256) (h : ∀ i, p.testBit i = true → q.testBit i = true) : (bits .andNot .u32 (p : Int) (q : Int) != 0) = false := by
  rw [u32_andNot_nat p q (by omega) (by omega)]
  have : p &&& (4294967295 - q) = 0 := by
    apply Nat.eq_of_testBit_eq
    intro i
    rw [Nat.testBit_and, Nat.zero_testBit, show 4294967295 - q = 2 ^ 32 - (q + 1) by omega, Nat.testBit_two_pow_sub_succ (by omega)]
    cases hpi : p.testBit i
    · simp
    · simp [h i hpi]
  rw [this]
  rfl
end Go.Proofs.Ytmcijljadcfpmaa
