/- Colours: which ones a node may have, as a word. No program in sight. -/
import Derived.Test.YtnpgnohnpbdblaaDoorDistLaw
import Derived.Test.YtnpgnohnpbdblaaDoorRow
namespace Go.Proofs.YtnpgnohnpbdblaaDoor
open Go.RowKit

def mayS (L : Nat → Int) (w j : Nat) : Nat := if 0 ≤ L j then w &&& (4294967295 - 2 ^ (L j).toNat) else w
def mayF (L : Nat → Int) (l : List Nat) (w : Nat) : Nat := l.foldl (mayS L) w
/-- the colours below k that no neighbour has -/
def mayW (ns : List Nat) (L : Nat → Int) (i k : Nat) : Nat := mayF L (bitsL (ns.getD i 0)) (2 ^ k - 1)
theorem mayF_snoc (L : Nat → Int) (l : List Nat) (j w : Nat) : mayF L (l ++ [j]) w = mayS L (mayF L l w) j := by simp [mayF]
theorem tb_pow' (i j : Nat) : (2 ^ i).testBit j = decide (i = j) := by rw [Nat.testBit_two_pow]
theorem not_bit {x i : Nat} (hx : x < 4294967296) (hi : i < 32) : (4294967295 - x).testBit i = !x.testBit i := by
  have h : 4294967295 - x = 2 ^ 32 - (x + 1) := by omega
  rw [h, Nat.testBit_two_pow_sub_succ (by simpa using hx)]
  simp [hi]
theorem pow_lt32 {i : Nat} (hi : i < 32) : 2 ^ i < 4294967296 := by
  have : 2 ^ i < 2 ^ 32 := Nat.pow_lt_pow_right (by omega) hi
  simpa using this
theorem mayF_le (L : Nat → Int) : ∀ (l : List Nat) (w : Nat), mayF L l w ≤ w
  | [], _ => Nat.le_refl _
  | j :: l, w => by
    refine Nat.le_trans (mayF_le L l (mayS L w j)) ?_
    unfold mayS; split
    · exact Nat.and_le_left
    · exact Nat.le_refl _
theorem mayF_bit {L : Nat → Int} (hL : ∀ j, L j < 32) {c : Nat} (hc : c < 32) : ∀ (l : List Nat) (w : Nat), (mayF L l w).testBit c = (w.testBit c && l.all fun j => L j != (c : Int))
  | [], w => by simp [mayF]
  | j :: l, w => by
    have h : mayF L (j :: l) w = mayF L l (mayS L w j) := rfl
    rw [h, mayF_bit hL hc l, List.all_cons, ← Bool.and_assoc]
    congr 1
    unfold mayS
    split
    · rename_i h0
      have hj := hL j
      rw [Nat.testBit_and, not_bit (pow_lt32 (by omega)) hc, tb_pow']
      congr 1
      rw [Bool.eq_iff_iff]; simp; omega
    · rename_i h0
      have : (L j != (c : Int)) = true := by simp; omega
      rw [this, Bool.and_true]
theorem mayW_bit {ns : List Nat} {L : Nat → Int} (hL : ∀ j, L j < 32) {i k c : Nat} (hc : c < 32) : (mayW ns L i k).testBit c = (decide (c < k) && (bitsL (ns.getD i 0)).all fun j => L j != (c : Int)) := by
  unfold mayW
  rw [mayF_bit hL hc, Nat.testBit_two_pow_sub_one]
theorem mayW_lt (ns : List Nat) (L : Nat → Int) (i k : Nat) : mayW ns L i k < 2 ^ k := by
  have h := mayF_le L (bitsL (ns.getD i 0)) (2 ^ k - 1)
  have : 1 ≤ 2 ^ k := Nat.one_le_two_pow
  unfold mayW; omega
/-- a colour may be had just if no neighbour has it -/
theorem mayW_iff {n : Nat} {ns : List Nat} (g : Gr n ns) {L : Nat → Int} (hL : ∀ j, L j < 32) {i k c : Nat} (hk : k ≤ 32) : (mayW ns L i k).testBit c = true ↔ c < k ∧ ∀ j, nb ns i j = true → L j ≠ (c : Int) := by
  by_cases hc : c < 32
  · rw [mayW_bit hL hc]
    simp only [Bool.and_eq_true, decide_eq_true_eq, List.all_eq_true, bne_iff_ne]
    refine ⟨fun ⟨h1, h2⟩ => ⟨h1, fun j hj => h2 j (mem_bitsL.2 ⟨?_, hj⟩)⟩, fun ⟨h1, h2⟩ => ⟨h1, fun j hj => h2 j (mem_bitsL.1 hj).2⟩⟩
    have := (g.ok i j hj).2.1
    have := g.n10
    omega
  · refine ⟨fun h => absurd (lt_bit (mayW_lt ns L i k) h) (by omega), fun h => absurd h.1 (by omega)⟩
end Go.Proofs.YtnpgnohnpbdblaaDoor
