/- Spreading within a set: the plain law of graph.Spread. -/
import Derived.Test.YtnkmfnnkophccaaDoorBfs
namespace Go.Proofs.YtnkmfnnkophccaaDoor
open Go.RowKit

/-- R: all that is come to from x along edges whose ends lie within wi -/
structure IsSpread (ns : List Nat) (wi x R : Nat) : Prop where
  sub : ∀ m, x.testBit m = true → R.testBit m = true
  cl : ∀ j m, R.testBit j = true → nb ns j m = true → wi.testBit m = true → R.testBit m = true
  least : ∀ S : Nat → Prop, (∀ m, x.testBit m = true → S m) → (∀ j m, S j → nb ns j m = true → wi.testBit m = true → S m) → ∀ m, R.testBit m = true → S m
structure SpI (n : Nat) (ns : List Nat) (wi x all next : Nat) : Prop where
  lt : all < 2 ^ n
  sub : ∀ m, x.testBit m = true → all.testBit m = true
  nx : ∀ m, next.testBit m = true → all.testBit m = true
  cl : ∀ j m, all.testBit j = true → next.testBit j = false → nb ns j m = true → wi.testBit m = true → all.testBit m = true
  least : ∀ S : Nat → Prop, (∀ m, x.testBit m = true → S m) → (∀ j m, S j → nb ns j m = true → wi.testBit m = true → S m) → ∀ m, all.testBit m = true → S m
def nxS (ns : List Nat) (wi all next : Nat) : Nat := (orN ns (bitsL next) &&& wi) &&& (4294967295 - all)
section
variable {n : Nat} {ns : List Nat} {wi x all next : Nat}
theorem orN_lt' (hlt : ∀ i, ns.getD i 0 < 2 ^ n) (l : List Nat) : orN ns l < 2 ^ n := by
  refine Nat.lt_pow_two_of_testBit _ fun m hm => ?_
  rw [orN_bit]
  refine List.any_eq_false.2 fun j _ h => ?_
  have := lt_bit (hlt j) h
  omega
theorem SpI.start (hx : x < 2 ^ n) : SpI n ns wi x x x :=
  ⟨hx, fun _ h => h, fun _ h => h, fun j m h h' _ _ => (by rw [h] at h'; cases h'), fun _ h _ m hm => h m hm⟩
theorem w32' {x n : Nat} (hn : n ≤ 32) (h : x < 2 ^ n) : x < 2 ^ 32 := Nat.lt_of_lt_of_le h (Nat.pow_le_pow_right (by omega) hn)
theorem nxS_bit (hn : n ≤ 32) (hlt : ∀ i, ns.getD i 0 < 2 ^ n) (ha : all < 2 ^ n) (m : Nat) :
    (nxS ns wi all next).testBit m = (((bitsL next).any fun j => nb ns j m) && wi.testBit m && !all.testBit m) := by
  unfold nxS
  rw [Nat.testBit_and, Nat.testBit_and, orN_bit]
  by_cases hm : m < 32
  · rw [not32 (w32' hn ha) hm]
  · have : ((bitsL next).any fun j => nb ns j m) = false := List.any_eq_false.2 fun j _ h => by have := lt_bit (hlt j) h; omega
    rw [this]; rfl
theorem SpI.step (hn : n ≤ 32) (hlt : ∀ i, ns.getD i 0 < 2 ^ n) (h : SpI n ns wi x all next) : SpI n ns wi x (all ||| nxS ns wi all next) (nxS ns wi all next) := by
  have hb := nxS_bit (wi := wi) (next := next) hn hlt h.lt
  have hin : ∀ j m, all.testBit j = true → nb ns j m = true → wi.testBit m = true → all.testBit m = true ∨ (nxS ns wi all next).testBit m = true := fun j m hj hjm hm => by
    cases hnj : next.testBit j
    · exact .inl (h.cl j m hj hnj hjm hm)
    · cases ham : all.testBit m
      · right
        rw [hb, ham, hm, List.any_eq_true.2 ⟨j, mem_bitsL.2 ⟨by have := lt_bit h.lt hj; omega, hnj⟩, hjm⟩]
        rfl
      · exact .inl rfl
  refine ⟨Nat.or_lt_two_pow h.lt (Nat.lt_pow_two_of_testBit _ fun m hm => ?_), fun m hm => by rw [Nat.testBit_or, h.sub m hm]; rfl, fun m hm => by rw [Nat.testBit_or, hm, Bool.or_true], fun j m hj hnj hjm hm => ?_, fun S hS hc m hm => ?_⟩
  · rw [hb]
    have : ((bitsL next).any fun j => nb ns j m) = false := List.any_eq_false.2 fun j _ h => by have := lt_bit (hlt j) h; omega
    rw [this]; rfl
  · rw [Nat.testBit_or, hnj, Bool.or_false] at hj
    rw [Nat.testBit_or, Bool.or_eq_true]
    exact hin j m hj hjm hm
  · rw [Nat.testBit_or, Bool.or_eq_true] at hm
    rcases hm with hm | hm
    · exact h.least S hS hc m hm
    · rw [hb] at hm
      simp only [Bool.and_eq_true] at hm
      obtain ⟨⟨h1, h2⟩, _⟩ := hm
      obtain ⟨j, hj, hjm⟩ := List.any_eq_true.1 h1
      exact hc j m (h.least S hS hc j (h.nx j (mem_bitsL.1 hj).2)) hjm h2
def spM (n all next : Nat) : Nat := 2 * (n - popc n all) + if next = 0 then 0 else 1
theorem SpI.less (hn : n ≤ 32) (hlt : ∀ i, ns.getD i 0 < 2 ^ n) (h : SpI n ns wi x all next) (h0 : next ≠ 0) : spM n (all ||| nxS ns wi all next) (nxS ns wi all next) < spM n all next := by
  have hb := nxS_bit (wi := wi) (next := next) hn hlt h.lt
  have hl := (h.step hn hlt).lt
  unfold spM
  rw [if_neg h0]
  have hg := popc_grow (n := n) (a := all) (b := all ||| nxS ns wi all next) (fun m _ hm => by rw [Nat.testBit_or, hm]; rfl)
  by_cases hz : nxS ns wi all next = 0
  · rw [if_pos hz]; have := hg.1; omega
  · rw [if_neg hz]
    obtain ⟨m, hm⟩ := some_bit hz
    have hm2 : all.testBit m = false := by
      rw [hb] at hm
      simp only [Bool.and_eq_true, Bool.not_eq_true'] at hm
      exact hm.2
    have hm3 : (all ||| nxS ns wi all next).testBit m = true := by rw [Nat.testBit_or, hm, Bool.or_true]
    have := hg.2 ⟨m, lt_bit hl hm3, hm3, hm2⟩
    have := popc_le n (all ||| nxS ns wi all next)
    omega
theorem SpI.done (h : SpI n ns wi x all 0) : IsSpread ns wi x all := ⟨h.sub, fun j m hj => h.cl j m hj (Nat.zero_testBit j), h.least⟩
theorem IsSpread.same {R R' : Nat} (h : IsSpread ns wi x R) (h' : IsSpread ns wi x R') : R = R' := by
  apply Nat.eq_of_testBit_eq
  intro m
  have h1 := h.least (fun m => R'.testBit m = true) h'.sub h'.cl m
  have h2 := h'.least (fun m => R.testBit m = true) h.sub h.cl m
  cases h3 : R.testBit m <;> cases h4 : R'.testBit m
  · rfl
  · rw [h2 h4] at h3; cases h3
  · rw [h1 h3] at h4; cases h4
  · rfl
theorem ball_spread (g : Gr n ns) {i : Nat} (hi : i < n) : IsSpread ns (2 ^ n - 1) (2 ^ i) (ball ns i 10) := by
  refine ⟨fun m hm => ?_, fun j m hj hjm _ => ?_, fun S hS hc m hm => ?_⟩
  · rw [Nat.testBit_two_pow] at hm
    simp at hm
    exact Rch.ten (k := 0) g hi (Rch.zero.2 hm)
  · exact Rch.ten g hi ((Rch.succ g hi).2 (.inr ⟨j, hj, hjm⟩))
  · have : ∀ k m, Rch ns k i m → S m := fun k => by
      induction k with
      | zero => intro m h; rw [Rch.zero] at h; exact hS m (by rw [Nat.testBit_two_pow]; simpa using h)
      | succ k ih =>
        intro m h
        rcases (Rch.succ g hi).1 h with h | ⟨j, h1, h2⟩
        · exact ih m h
        · exact hc j m (ih j h1) h2 (by rw [Nat.testBit_two_pow_sub_one]; simpa using (g.ok j m h2).2.1)
    exact this 10 m hm
theorem ball_far (g : Gr n ns) {i : Nat} (hi : i < n) (j : Nat) : (ball ns i 10).testBit j = decide (0 ≤ far ns i j) := by
  rcases far_cases g (j := j) hi with ⟨h1, h2⟩ | ⟨k, h1, h2, h3, _⟩
  · rw [h1]
    have := h2 10
    unfold Rch at this
    simpa using this
  · have := h3.ten g hi
    unfold Rch at this
    rw [this, h1]
    simp
/-- the part of a node: the first one that it is linked with -/
def part (ns : List Nat) (i : Nat) : Nat := Lib.ctz 32 (ball ns i 10)
theorem part_at (g : Gr n ns) {i : Nat} (hi : i < n) : part ns i ≤ i ∧ 0 ≤ far ns i (part ns i) ∧ ∀ j, j < part ns i → far ns i j < 0 := by
  have hbi : (ball ns i 10).testBit i = true := Rch.ten (k := 0) g hi (Rch.zero.2 rfl)
  have h0 : ball ns i 10 ≠ 0 := fun h => by rw [h] at hbi; simp at hbi
  have hlt : ball ns i 10 < 4294967296 := w32 g.n10 (ball_lt g hi 10)
  obtain ⟨h1, h2, _⟩ := low_bits _ h0 hlt
  refine ⟨Nat.le_of_not_lt fun h => ?_, ?_, fun j hj => ?_⟩
  · have := h2 i h; rw [hbi] at this; cases this
  · have := ball_far g hi (part ns i)
    unfold part at this
    rw [h1] at this
    simpa [part] using this.symm
  · have := h2 j hj
    rw [ball_far g hi] at this
    simpa using this
theorem part_lt (g : Gr n ns) {i : Nat} (hi : i < n) : part ns i < n := Nat.lt_of_le_of_lt (part_at g hi).1 hi
theorem far_sym0 (g : Gr n ns) {i j : Nat} (hi : i < n) (hj : j < n) (h : 0 ≤ far ns i j) : 0 ≤ far ns j i := by rw [← far_symm g hi hj]; exact h
theorem part_eq (g : Gr n ns) {i j : Nat} (hi : i < n) (hj : j < n) : part ns i = part ns j ↔ 0 ≤ far ns i j := by
  obtain ⟨_, a2, a3⟩ := part_at g hi
  obtain ⟨_, b2, b3⟩ := part_at g hj
  have hpi := part_lt g hi
  have hpj := part_lt g hj
  constructor
  · intro e
    rw [e] at a2
    exact (far_tri g hi a2 (far_sym0 g hj hpj b2)).1
  · intro h
    have h1 := (far_tri g hi h b2).1
    have h2 := (far_tri g hj (far_sym0 g hi hj h) a2).1
    have c1 : ¬ part ns j < part ns i := fun hl => by have := a3 _ hl; omega
    have c2 : ¬ part ns i < part ns j := fun hl => by have := b3 _ hl; omega
    omega
end
end Go.Proofs.YtnkmfnnkophccaaDoor
