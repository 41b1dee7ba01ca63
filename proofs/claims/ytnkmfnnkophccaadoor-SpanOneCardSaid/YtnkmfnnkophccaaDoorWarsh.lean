/- Distances by detours (Floyd, Warshall): who is linked with whom. Plain. -/
import Derived.Test.YtnkmfnnkophccaaDoorAdj
namespace Go.Proofs.YtnkmfnnkophccaaDoor
open Go.RowKit

def D0 (es : List E) (i j : Nat) : Int := if i = j then 0 else if adj es i j = true then 1 else -1
def stW (k : Nat) (M : Nat → Nat → Int) (i j : Nat) : Int := if 0 ≤ M i k ∧ 0 ≤ M k j ∧ (M i j < 0 ∨ M i k + M k j < M i j) then M i k + M k j else M i j
def dW (es : List E) : Nat → Nat → Nat → Int
  | 0 => D0 es
  | k + 1 => stW k (dW es k)
structure DI (k : Nat) (M : Nat → Nat → Int) : Prop where
  diag : ∀ i, M i i = 0
  lo : ∀ i j, -1 ≤ M i j
  hi : ∀ i j, M i j ≤ ((2 ^ k : Nat) : Int)
theorem DI.step {k : Nat} {M : Nat → Nat → Int} (h : DI k M) : DI (k + 1) (stW k M) := by
  have hp : ((2 ^ (k + 1) : Nat) : Int) = 2 * ((2 ^ k : Nat) : Int) := by rw [Nat.pow_succ]; omega
  have hp0 : (0 : Int) < ((2 ^ k : Nat) : Int) := by have := Nat.two_pow_pos k; omega
  refine ⟨fun i => ?_, fun i j => ?_, fun i j => ?_⟩
  · unfold stW
    have h1 := h.diag i
    rw [if_neg (by omega), h1]
  · unfold stW
    have h1 := h.lo i j
    split <;> omega
  · unfold stW
    have h1 := h.hi i j; have h2 := h.hi i k; have h3 := h.hi k j
    split <;> omega
theorem DI.start (es : List E) : DI 0 (D0 es) := by
  refine ⟨fun i => by simp [D0], fun i j => ?_, fun i j => ?_⟩
  · unfold D0; split <;> (try split) <;> omega
  · unfold D0; split <;> (try split) <;> simp
theorem dW_DI (es : List E) : ∀ k, DI k (dW es k)
  | 0 => DI.start es
  | k + 1 => (dW_DI es k).step
theorem stW_row {k : Nat} {M : Nat → Nat → Int} (h : DI k M) (j : Nat) : stW k M k j = M k j := by
  unfold stW; have := h.diag k; rw [if_neg (by omega)]
theorem stW_col {k : Nat} {M : Nat → Nat → Int} (h : DI k M) (i : Nat) : stW k M i k = M i k := by
  unfold stW; have := h.diag k; rw [if_neg (by omega)]
theorem stW_nn {k : Nat} {M : Nat → Nat → Int} (i j : Nat) : 0 ≤ stW k M i j ↔ 0 ≤ M i j ∨ (0 ≤ M i k ∧ 0 ≤ M k j) := by
  unfold stW; split <;> omega
theorem adj_symm (es : List E) (i j : Nat) : adj es i j = adj es j i := by
  unfold adj
  congr 1; funext e
  unfold adjE
  exact Bool.or_comm _ _
/-- linked, by way of nodes below k -/
def cn (es : List E) (k i j : Nat) : Prop := 0 ≤ dW es k i j
theorem cn_succ (es : List E) (k i j : Nat) : cn es (k + 1) i j ↔ cn es k i j ∨ (cn es k i k ∧ cn es k k j) := stW_nn i j
theorem cn_refl (es : List E) (k i : Nat) : cn es k i i := by unfold cn; rw [(dW_DI es k).diag]; omega
theorem cn_zero {es : List E} {i j : Nat} : cn es 0 i j ↔ i = j ∨ adj es i j = true := by
  unfold cn dW D0
  by_cases e : i = j
  · simp [e]
  · rw [if_neg e]
    by_cases h : adj es i j = true
    · simp [h]
    · simp [h, e]
theorem cn_adj {es : List E} {i j : Nat} (h : adj es i j = true) : ∀ k, cn es k i j
  | 0 => cn_zero.2 (.inr h)
  | k + 1 => (cn_succ es k i j).2 (.inl (cn_adj h k))
theorem cn_symm (es : List E) : ∀ k i j, cn es k i j → cn es k j i
  | 0, i, j, h => by
    rcases cn_zero.1 h with e | e
    · exact cn_zero.2 (.inl e.symm)
    · exact cn_zero.2 (.inr (by rw [adj_symm]; exact e))
  | k + 1, i, j, h => by
    rcases (cn_succ es k i j).1 h with h1 | ⟨h1, h2⟩
    · exact (cn_succ es k j i).2 (.inl (cn_symm es k i j h1))
    · exact (cn_succ es k j i).2 (.inr ⟨cn_symm es k k j h2, cn_symm es k i k h1⟩)
theorem cn_trans (es : List E) : ∀ k m, m < k → ∀ i j, cn es k i m → cn es k m j → cn es k i j
  | 0, m, h, _, _, _, _ => absurd h (by omega)
  | k + 1, m, hm, i, j, h1, h2 => by
    rw [cn_succ] at h1 h2 ⊢
    by_cases e : m = k
    · subst e
      have a1 : cn es m i m := by rcases h1 with h | h <;> first | exact h | exact h.1
      have a2 : cn es m m j := by rcases h2 with h | h <;> first | exact h | exact h.2
      exact .inr ⟨a1, a2⟩
    · have T := cn_trans es k m (by omega)
      rcases h1 with h1 | ⟨h1, h1'⟩ <;> rcases h2 with h2 | ⟨h2, h2'⟩
      · exact .inl (T i j h1 h2)
      · exact .inr ⟨T i k h1 h2, h2'⟩
      · exact .inr ⟨h1, T k j h1' h2⟩
      · exact .inr ⟨h1, h2'⟩
/-- no more than must be -/
theorem cn_least {es : List E} {R : Nat → Nat → Prop} (h1 : ∀ i, R i i) (h2 : ∀ i m j, R i m → R m j → R i j) (h3 : ∀ i j, adj es i j = true → R i j) : ∀ k i j, cn es k i j → R i j
  | 0, i, j, h => by
    rcases cn_zero.1 h with e | e
    · exact e ▸ h1 i
    · exact h3 i j e
  | k + 1, i, j, h => by
    rcases (cn_succ es k i j).1 h with h | ⟨h, h'⟩
    · exact cn_least h1 h2 h3 k i j h
    · exact h2 i k j (cn_least h1 h2 h3 k i k h) (cn_least h1 h2 h3 k k j h')
/-- the part of a node: its least node -/
structure IsPart (es : List E) (N i p : Nat) : Prop where
  le : p ≤ i
  has : cn es N i p
  least : ∀ j, j < p → ¬ cn es N i j
theorem IsPart.same {es : List E} {N a b p q : Nat} (hp : IsPart es N a p) (hq : IsPart es N b q) (ha : a < N) (hb : b < N) (h : cn es N a b) : p = q := by
  have h1 : cn es N b p := cn_trans es N a ha b p (cn_symm es N a b h) hp.has
  have h2 : cn es N a q := cn_trans es N b hb a q h hq.has
  rcases Nat.lt_trichotomy p q with e | e | e
  · exact absurd h1 (hq.least p e)
  · exact e
  · exact absurd h2 (hp.least q e)
/-- in the midst of round k -/
def MidW (k i j : Nat) (M : Nat → Nat → Int) (a b : Nat) : Int := if a < i ∨ (a = i ∧ b < j) then stW k M a b else M a b
theorem MidW.start (k : Nat) (M : Nat → Nat → Int) : MidW k 0 0 M = M := by funext a b; unfold MidW; rw [if_neg (by omega)]
theorem MidW.row {k i j : Nat} {M : Nat → Nat → Int} (h : DI k M) (b : Nat) : MidW k i j M k b = M k b := by unfold MidW; rw [stW_row h]; split <;> rfl
theorem MidW.col {k i j : Nat} {M : Nat → Nat → Int} (h : DI k M) (a : Nat) : MidW k i j M a k = M a k := by unfold MidW; rw [stW_col h]; split <;> rfl
theorem MidW.here {k i j : Nat} {M : Nat → Nat → Int} : MidW k i j M i j = M i j := by unfold MidW; rw [if_neg (by omega)]
theorem MidW.next {k i j : Nat} {M : Nat → Nat → Int} (a b : Nat) : (if a = i ∧ b = j then stW k M i j else MidW k i j M a b) = MidW k i (j + 1) M a b := by
  unfold MidW
  by_cases e : a = i ∧ b = j
  · rw [if_pos e, if_pos (by omega), e.1, e.2]
  · rw [if_neg e]
    by_cases h : a < i ∨ (a = i ∧ b < j)
    · rw [if_pos h, if_pos (by omega)]
    · rw [if_neg h, if_neg (by omega)]
theorem MidW.line {k i n : Nat} {M : Nat → Nat → Int} {a b : Nat} (hb : b < n) : MidW k i n M a b = MidW k (i + 1) 0 M a b := by
  unfold MidW
  by_cases h : a < i ∨ a = i ∧ b < n
  · rw [if_pos h, if_pos (by omega)]
  · rw [if_neg h, if_neg (by omega)]
theorem MidW.full {k n : Nat} {M : Nat → Nat → Int} {a b : Nat} (ha : a < n) : MidW k n 0 M a b = stW k M a b := by unfold MidW; rw [if_pos (by omega)]
end Go.Proofs.YtnkmfnnkophccaaDoor
