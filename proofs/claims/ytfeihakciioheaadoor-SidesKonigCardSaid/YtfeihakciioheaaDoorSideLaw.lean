/- sides: ways on to a ring: plain. -/
import Derived.Test.YtfeihakciioheaaDoorDistLaw
import Derived.Test.YtfeihakciioheaaDoorNatI
namespace Go.Proofs.YtfeihakciioheaaDoor
open Go.RowKit

def delB (x c : Nat) : Nat := x &&& (4294967295 - 2 ^ c)
theorem delB_bit {x c : Nat} (hx : x < 2 ^ 32) (hc : c < 32) (m : Nat) : (delB x c).testBit m = (x.testBit m && !decide (c = m)) := by
  unfold delB
  rw [Nat.testBit_and, show 4294967295 - 2 ^ c = 2 ^ 32 - (2 ^ c + 1) by omega, Nat.testBit_two_pow_sub_succ (Nat.pow_lt_pow_right (by omega) hc), Nat.testBit_two_pow]
  by_cases hm : m < 32
  · simp [hm]
  · have : x.testBit m = false := Nat.testBit_lt_two_pow (Nat.lt_of_lt_of_le hx (Nat.pow_le_pow_right (by omega) (by omega)))
    simp [this]
theorem delB_le (x c : Nat) : delB x c ≤ x := Nat.and_le_left
/-- on, from a, by nodes of x, each once, to one that has an edge with f -/
def Ext (ns : List Nat) (f : Nat) : Nat → Nat → List Nat → Prop
  | a, _, [] => nb ns a f = true
  | a, x, i :: M => nb ns a i = true ∧ x.testBit i = true ∧ Ext ns f i (delB x i) M
theorem Ext.props {ns : List Nat} {f : Nat} : ∀ (M : List Nat) (a x : Nat), x < 2 ^ 32 → (∀ c, x.testBit c = true → c < 32) → Ext ns f a x M → (∀ i ∈ M, x.testBit i = true) ∧ M.Nodup ∧ (∀ k, k < M.length → nb ns ((a :: M).getD k 0) ((a :: M).getD (k + 1) 0) = true) ∧ nb ns ((a :: M).getD M.length 0) f = true
  | [], a, x, _, _, h => ⟨nofun, List.Pairwise.nil, fun k hk => absurd hk (by simp), h⟩
  | i :: M, a, x, hx, hb, ⟨h1, h2, h3⟩ => by
    have hi := hb i h2
    obtain ⟨q1, q2, q3, q4⟩ := Ext.props M i (delB x i) (Nat.lt_of_le_of_lt (delB_le x i) hx) (fun c hc => hb c (by rw [delB_bit hx hi, Bool.and_eq_true] at hc; exact hc.1)) h3
    refine ⟨fun j hj => ?_, ?_, fun k hk => ?_, ?_⟩
    · rcases List.mem_cons.1 hj with rfl | hj
      · exact h2
      · have := q1 j hj
        rw [delB_bit hx hi, Bool.and_eq_true] at this; exact this.1
    · rw [List.nodup_cons]
      refine ⟨fun hm => ?_, q2⟩
      have := q1 i hm
      rw [delB_bit hx hi] at this; simp at this
    · cases k with
      | zero => exact h1
      | succ k => exact q3 k (by simpa using hk)
    · simpa using q4
theorem ext_of {ns : List Nat} {f : Nat} : ∀ (M : List Nat) (a x : Nat), x < 2 ^ 32 → (∀ c, x.testBit c = true → c < 32) → (∀ i ∈ M, x.testBit i = true) → M.Nodup → (∀ k, k < M.length → nb ns ((a :: M).getD k 0) ((a :: M).getD (k + 1) 0) = true) → nb ns ((a :: M).getD M.length 0) f = true → Ext ns f a x M
  | [], _, _, _, _, _, _, _, h => h
  | i :: M, a, x, hx, hb, h1, h2, h3, h4 => by
    rw [List.nodup_cons] at h2
    have hxi := h1 i (by simp)
    have hi := hb i hxi
    refine ⟨h3 0 (by simp), hxi, ext_of M i (delB x i) (Nat.lt_of_le_of_lt (delB_le x i) hx) (fun c hc => hb c (by rw [delB_bit hx hi, Bool.and_eq_true] at hc; exact hc.1)) (fun j hj => ?_) h2.2 (fun k hk => h3 (k + 1) (by simpa using hk)) (by simpa using h4)⟩
    rw [delB_bit hx hi, h1 j (List.mem_cons_of_mem _ hj)]
    have : i ≠ j := fun e => h2.1 (e ▸ hj)
    simp [this]
end Go.Proofs.YtfeihakciioheaaDoor
