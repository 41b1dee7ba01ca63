/- Rows of players, each beats the next one. No program in sight. -/
import Derived.Test.YtnlgmjigadgneaaDoorTour
import Derived.Test.YtnlgmjigadgneaaDoorEachBits
namespace Go.Proofs.YtnlgmjigadgneaaDoor
open Go.RowKit

def beat (ts : List Nat) (i j : Nat) : Bool := (ts.getD i 0).testBit j
def From (ts : List Nat) : Option Nat → List Nat → Prop
  | _, [] => True
  | o, c :: M => (∀ a, o = some a → beat ts a c = true) ∧ From ts (some c) M
/-- a whole row that goes on from l with all of x -/
def Whole (ts : List Nat) (ring : Bool) (l : List Nat) (x : Nat) (R : List Nat) : Prop :=
  ∃ M, R = l ++ M ∧ M.Perm (bitsL x) ∧ From ts l.getLast? M ∧ (ring = true → ∀ a b, R.getLast? = some a → R.head? = some b → beat ts a b = true)
def nextW (ts l : List Nat) (x : Nat) : Nat := match l.getLast? with
  | none => x
  | some a => x &&& ts.getD a 0
theorem nextW_bit {ts l : List Nat} {x c : Nat} : (nextW ts l x).testBit c = true ↔ x.testBit c = true ∧ ∀ a, l.getLast? = some a → beat ts a c = true := by
  unfold nextW beat
  cases h : l.getLast? <;> simp
theorem nextW_le (ts l : List Nat) (x : Nat) : nextW ts l x ≤ x := by
  unfold nextW
  split
  · exact Nat.le_refl _
  · exact Nat.and_le_left
/-- x without c -/
def del (x c : Nat) : Nat := x &&& (4294967295 - 2 ^ c)
theorem del_le (x c : Nat) : del x c ≤ x := Nat.and_le_left
theorem sub_bit {x c : Nat} (hx : x < 2 ^ 32) (hc : c < 32) (m : Nat) : (del x c).testBit m = (x.testBit m && !decide (c = m)) := by
  have hp : 2 ^ c < 2 ^ 32 := Nat.pow_lt_pow_right (by omega) hc
  unfold del
  rw [show 4294967295 - 2 ^ c = 2 ^ 32 - (2 ^ c + 1) by omega, Nat.testBit_and, Nat.testBit_two_pow_sub_succ hp, Nat.testBit_two_pow]
  by_cases hm : m < 32
  · simp [hm]
  · rw [Nat.testBit_lt_two_pow (Nat.lt_of_lt_of_le hx (Nat.pow_le_pow_right (by omega) (by omega : 32 ≤ m)))]
    simp
theorem bitsL_sub {x c : Nat} (hx : x < 2 ^ 32) (h : x.testBit c = true) : (c :: bitsL (del x c)).Perm (bitsL x) := by
  have hc : c < 32 := Nat.lt_of_not_le fun hle => by
    rw [Nat.testBit_lt_two_pow (Nat.lt_of_lt_of_le hx (Nat.pow_le_pow_right (by omega) hle))] at h; cases h
  refine (List.perm_ext_iff_of_nodup ?_ (bitsL_nodup x)).2 fun m => ?_
  · rw [List.nodup_cons]
    refine ⟨fun hm => ?_, bitsL_nodup _⟩
    have := (mem_bitsL.1 hm).2
    rw [sub_bit hx hc] at this
    simp at this
  · rw [List.mem_cons, mem_bitsL, mem_bitsL, sub_bit hx hc]
    constructor
    · rintro (rfl | ⟨h1, h2⟩)
      · exact ⟨hc, h⟩
      · simp at h2; exact ⟨h1, h2.1⟩
    · rintro ⟨h1, h2⟩
      by_cases e : m = c
      · exact .inl e
      · exact .inr ⟨h1, by simp [h2]; omega⟩
theorem Whole.of_step {ts l R : List Nat} {ring : Bool} {x c : Nat} (hx : x < 2 ^ 32) (hc : (nextW ts l x).testBit c = true) (h : Whole ts ring (l ++ [c]) (del x c) R) : Whole ts ring l x R := by
  obtain ⟨hxc, hb⟩ := nextW_bit.1 hc
  obtain ⟨M, rfl, hp, hf, hr⟩ := h
  refine ⟨c :: M, by simp, (List.Perm.cons c hp).trans (bitsL_sub hx hxc), ⟨hb, ?_⟩, hr⟩
  rw [List.getLast?_append] at hf
  exact hf
theorem Whole.to_step {ts l R : List Nat} {ring : Bool} {x : Nat} (hx : x < 2 ^ 32) (h0 : x ≠ 0) (h : Whole ts ring l x R) : ∃ c, (nextW ts l x).testBit c = true ∧ Whole ts ring (l ++ [c]) (del x c) R := by
  obtain ⟨M, rfl, hp, hf, hr⟩ := h
  cases M with
  | nil =>
    exfalso
    obtain ⟨i, hi⟩ := Nat.exists_testBit_of_ne_zero h0
    have h32 : i < 32 := Nat.lt_of_not_le fun hle => by
      rw [Nat.testBit_lt_two_pow (Nat.lt_of_lt_of_le hx (Nat.pow_le_pow_right (by omega) hle))] at hi; cases hi
    have := hp.symm.subset (mem_bitsL.2 ⟨h32, hi⟩)
    cases this
  | cons c M =>
    have hxc := (mem_bitsL.1 (hp.subset List.mem_cons_self)).2
    refine ⟨c, nextW_bit.2 ⟨hxc, hf.1⟩, M, by simp, List.Perm.cons_inv (hp.trans (bitsL_sub hx hxc).symm), ?_, hr⟩
    rw [List.getLast?_append]
    exact hf.2
theorem whole_zero {ts l R : List Nat} {ring : Bool} : Whole ts ring l 0 R ↔ R = l ∧ (ring = true → ∀ a b, l.getLast? = some a → l.head? = some b → beat ts a b = true) := by
  have h0 : bitsL 0 = [] := by decide
  constructor
  · rintro ⟨M, rfl, hp, _, hr⟩
    rw [h0] at hp
    have := hp.eq_nil
    subst this
    simp only [List.append_nil] at hr ⊢
    exact ⟨trivial, hr⟩
  · rintro ⟨rfl, hr⟩
    exact ⟨[], by simp, by simp [h0], trivial, by simpa using hr⟩
/-- one more can be put into a row -/
theorem put_in {ts : List Nat} (one : ∀ i j, i ≠ j → i < ts.length → j < ts.length → beat ts i j = true ∨ beat ts j i = true) {c : Nat} (hc : c < ts.length) : ∀ (M : List Nat) (o : Option Nat), (∀ m ∈ M, m < ts.length ∧ m ≠ c) → (∀ a, o = some a → beat ts a c = true) → From ts o M → ∃ M', M'.Perm (c :: M) ∧ From ts o M'
  | [], o, _, ho, _ => ⟨[c], List.Perm.refl _, ho, trivial⟩
  | m :: M, o, hM, ho, hf => by
    have hm := hM m List.mem_cons_self
    rcases one c m (fun e => hm.2 e.symm) hc hm.1 with h | h
    · exact ⟨c :: m :: M, List.Perm.refl _, ho, fun a ha => by cases ha; exact h, hf.2⟩
    · obtain ⟨M', hp, hf'⟩ := put_in one hc M (some m) (fun y hy => hM y (List.mem_cons_of_mem _ hy)) (fun a ha => by cases ha; exact h) hf.2
      exact ⟨m :: M', (List.Perm.cons m hp).trans (List.Perm.swap c m M), hf.1, hf'⟩
theorem redei {ts : List Nat} (hT : Tour ts) : ∀ l : List Nat, l.Nodup → (∀ m ∈ l, m < ts.length) → ∃ M, M.Perm l ∧ From ts none M
  | [], _, _ => ⟨[], List.Perm.refl _, trivial⟩
  | c :: l, hn, hl => by
    rw [List.nodup_cons] at hn
    obtain ⟨M, hp, hf⟩ := redei hT l hn.2 fun m hm => hl m (List.mem_cons_of_mem _ hm)
    obtain ⟨M', hp', hf'⟩ := put_in (fun i j hij hi hj => by
      have := hT.one i j hi hj hij
      unfold beat
      cases h : (ts.getD i 0).testBit j
      · right; rw [h] at this; simpa using this.symm
      · left; rfl) (hl c List.mem_cons_self) M none (fun m hm => ⟨hl m (List.mem_cons_of_mem _ (hp.subset hm)), fun e => hn.1 (e ▸ hp.subset hm)⟩) (fun a ha => by cases ha) hf
    exact ⟨M', hp'.trans (List.Perm.cons c hp), hf'⟩
end Go.Proofs.YtnlgmjigadgneaaDoor
