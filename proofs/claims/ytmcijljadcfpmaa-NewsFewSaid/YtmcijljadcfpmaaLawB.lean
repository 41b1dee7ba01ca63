/- The plain law of the calls in the other order: no program in sight. -/
import Derived.Test.YtmcijljadcfpmaaLaw
namespace Go.Proofs.Ytmcijljadcfpmaa
open Go.RowKit

/-- does i know j's thing, behind these calls? -/
def K (n : Nat) (cs : List (Int × Int)) (i j : Nat) : Bool := ((know n cs).getD i 0).testBit j
theorem K_nil {n i j : Nat} (hi : i < n) : K n [] i j = decide (i = j) := by
  unfold K
  rw [show know n [] = know0 n from rfl, know0_getD n i hi, Nat.testBit_two_pow]
theorem K_snoc {n : Nat} (cs : List (Int × Int)) (x y i j : Nat) (hx : x < n) (hy : y < n) :
    K n (cs ++ [((x : Int), (y : Int))]) i j = if y = i ∨ x = i then K n cs x j || K n cs y j else K n cs i j := by
  unfold K
  rw [know_snoc, step_getD _ x y i (by rw [know_length]; exact hx) (by rw [know_length]; exact hy)]
  by_cases h1 : y = i
  · rw [if_pos h1, if_pos (.inl h1), Nat.testBit_or]
  · by_cases h2 : x = i
    · rw [if_neg h1, if_pos h2, if_pos (.inr h2), Nat.testBit_or]
    · rw [if_neg h1, if_neg h2, if_neg (by omega)]
theorem list_snoc_induct {α : Type} {P : List α → Prop} (h0 : P []) (h1 : ∀ l a, P l → P (l ++ [a])) : ∀ l, P l := by
  intro l
  rw [← List.reverse_reverse l]
  induction l.reverse with
  | nil => exact h0
  | cons a l ih => rw [List.reverse_cons]; exact h1 _ _ ih
theorem K_cons {n : Nat} (x y : Nat) (hx : x < n) (hy : y < n) : ∀ (cs : List (Int × Int)), (∀ c ∈ cs, okC n c) → ∀ i j, i < n → j < n →
    K n (((x : Int), (y : Int)) :: cs) i j = if y = j ∨ x = j then K n cs i x || K n cs i y else K n cs i j := by
  refine list_snoc_induct ?_ ?_
  · intro _ i j hi hj
    have h := K_snoc [] x y i j hx hy
    rw [List.nil_append] at h
    rw [h, K_nil hi, K_nil hx, K_nil hy, K_nil hi, K_nil hi]
    by_cases h1 : x = i <;> by_cases h2 : y = i <;> by_cases h3 : x = j <;> by_cases h4 : y = j <;> simp_all <;> omega
  · intro cs d ih hok i j hi hj
    obtain ⟨a, b, rfl, ha, hb, _⟩ := hok d (by simp)
    have ih := ih fun c hc => hok c (by simp [hc])
    rw [← List.cons_append, K_snoc _ a b i j ha hb, K_snoc cs a b i x ha hb, K_snoc cs a b i y ha hb, K_snoc cs a b i j ha hb, ih a j ha hj, ih b j hb hj, ih i j hi hj]
    by_cases h1 : b = i ∨ a = i <;> by_cases h2 : y = j ∨ x = j <;> simp only [h1, h2, if_true, if_false]
    cases K n cs a x <;> cases K n cs a y <;> cases K n cs b x <;> cases K n cs b y <;> rfl
theorem K_reverse {n : Nat} : ∀ (cs : List (Int × Int)), (∀ c ∈ cs, okC n c) → ∀ i j, i < n → j < n → K n cs i j = K n cs.reverse j i
  | [], _, i, j, hi, hj => by
    rw [List.reverse_nil, K_nil hi, K_nil hj]
    by_cases h : i = j <;> simp [h] <;> omega
  | c :: cs, hok, i, j, hi, hj => by
    obtain ⟨x, y, rfl, hx, hy, _⟩ := hok c (by simp)
    have hok' : ∀ c ∈ cs, okC n c := fun c hc => hok c (by simp [hc])
    rw [K_cons x y hx hy cs hok' i j hi hj, List.reverse_cons, K_snoc _ x y j i hx hy, K_reverse cs hok' i x hi hx, K_reverse cs hok' i y hi hy, K_reverse cs hok' i j hi hj]
theorem chk_reverse (n : Int) (cs : List (Int × Int)) : chk n cs.reverse = chk n cs := by
  simp only [chk, List.length_reverse, List.any_reverse]
end Go.Proofs.Ytmcijljadcfpmaa
