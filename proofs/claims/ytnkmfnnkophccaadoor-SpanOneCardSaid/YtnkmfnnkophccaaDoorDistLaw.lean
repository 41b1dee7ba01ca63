/- How far it is in a graph: the plain law. ns: of each node the word of its neighbours. -/
import Derived.Test.YtnkmfnnkophccaaDoorTz
import Derived.Test.YtnkmfnnkophccaaDoorPopc
namespace Go.Proofs.YtnkmfnnkophccaaDoor

def nb (ns : List Nat) (i j : Nat) : Bool := (ns.getD i 0).testBit j
structure Gr (n : Nat) (ns : List Nat) : Prop where
  n10 : n ≤ 10
  lt : ∀ i, ns.getD i 0 < 2 ^ n
  ok : ∀ i j, nb ns i j = true → i < n ∧ j < n ∧ nb ns j i = true ∧ i ≠ j
/-- all neighbours of a list of nodes -/
def orN (ns : List Nat) (l : List Nat) : Nat := l.foldl (fun a j => a ||| ns.getD j 0) 0
theorem orN_snoc (ns l : List Nat) (j : Nat) : orN ns (l ++ [j]) = orN ns l ||| ns.getD j 0 := by simp [orN]
theorem foldl_or_bit (ns : List Nat) (v : Nat) : ∀ (l : List Nat) (a : Nat), (l.foldl (fun a j => a ||| ns.getD j 0) a).testBit v = (a.testBit v || l.any fun j => nb ns j v)
  | [], a => by simp
  | j :: l, a => by
    rw [List.foldl_cons, foldl_or_bit ns v l, Nat.testBit_or, List.any_cons, Bool.or_assoc]
    rfl
theorem orN_bit (ns l : List Nat) (v : Nat) : (orN ns l).testBit v = l.any fun j => nb ns j v := by
  unfold orN; rw [foldl_or_bit]; simp
/-- who is come to by so many steps at most -/
def ball (ns : List Nat) (i : Nat) : Nat → Nat
  | 0 => 2 ^ i
  | k + 1 => ball ns i k ||| orN ns (bitsL (ball ns i k))
def Rch (ns : List Nat) (k i j : Nat) : Prop := (ball ns i k).testBit j = true
section
variable {n : Nat} {ns : List Nat}
theorem lt_bit {x n j : Nat} (h : x < 2 ^ n) (hj : x.testBit j = true) : j < n := Nat.lt_of_not_le fun hle => by
  have := Nat.testBit_lt_two_pow (Nat.lt_of_lt_of_le h (Nat.pow_le_pow_right (by omega) hle))
  rw [hj] at this; cases this
theorem orN_lt (g : Gr n ns) (l : List Nat) : orN ns l < 2 ^ n := by
  refine Nat.lt_pow_two_of_testBit _ fun m hm => ?_
  rw [orN_bit]
  refine List.any_eq_false.2 fun j _ h => ?_
  have := (g.ok j m h).2.1
  omega
theorem ball_lt (g : Gr n ns) {i : Nat} (hi : i < n) : ∀ k, ball ns i k < 2 ^ n
  | 0 => Nat.pow_lt_pow_right (by omega) hi
  | k + 1 => Nat.or_lt_two_pow (ball_lt g hi k) (orN_lt g _)
theorem Rch.zero {i j : Nat} : Rch ns 0 i j ↔ i = j := by unfold Rch ball; rw [Nat.testBit_two_pow]; simp
theorem Rch.succ (g : Gr n ns) {i k j : Nat} (hi : i < n) : Rch ns (k + 1) i j ↔ Rch ns k i j ∨ ∃ m, Rch ns k i m ∧ nb ns m j = true := by
  unfold Rch
  rw [ball, Nat.testBit_or, orN_bit, Bool.or_eq_true, List.any_eq_true]
  have hn := g.n10
  constructor
  · rintro (h | ⟨m, hm, h⟩)
    · exact .inl h
    · exact .inr ⟨m, (mem_bitsL.1 hm).2, h⟩
  · rintro (h | ⟨m, hm, h⟩)
    · exact .inl h
    · exact .inr ⟨m, mem_bitsL.2 ⟨by have := lt_bit (ball_lt g hi k) hm; omega, hm⟩, h⟩
theorem Rch.lt (g : Gr n ns) {i k j : Nat} (hi : i < n) (h : Rch ns k i j) : j < n := lt_bit (ball_lt g hi k) h
theorem Rch.mono (g : Gr n ns) {i j : Nat} (hi : i < n) {k : Nat} (h : Rch ns k i j) : ∀ m, Rch ns (k + m) i j
  | 0 => h
  | m + 1 => (Rch.succ g hi).2 (.inl (Rch.mono g hi h m))
theorem Rch.trans (g : Gr n ns) {i m : Nat} (hi : i < n) {a : Nat} (h : Rch ns a i m) : ∀ {b j : Nat}, Rch ns b m j → Rch ns (a + b) i j
  | 0, j, h' => by rw [Rch.zero] at h'; subst h'; exact h
  | b + 1, j, h' => by
    have hm := h.lt g hi
    rcases (Rch.succ g hm).1 h' with h1 | ⟨q, h1, h2⟩
    · exact (Rch.succ g hi).2 (.inl (Rch.trans g hi h h1))
    · exact (Rch.succ g hi).2 (.inr ⟨q, Rch.trans g hi h h1, h2⟩)
theorem Rch.one (g : Gr n ns) {i j : Nat} (hi : i < n) : Rch ns 1 i j ↔ i = j ∨ nb ns i j = true := by
  rw [Rch.succ g hi, Rch.zero]
  constructor
  · rintro (h | ⟨m, hm, h⟩)
    · exact .inl h
    · rw [Rch.zero] at hm; subst hm; exact .inr h
  · rintro (h | h)
    · exact .inl h
    · exact .inr ⟨i, Rch.zero.2 rfl, h⟩
theorem Rch.symm (g : Gr n ns) {i : Nat} (hi : i < n) : ∀ {k j : Nat}, Rch ns k i j → Rch ns k j i
  | 0, j, h => by rw [Rch.zero] at h ⊢; exact h.symm
  | k + 1, j, h => by
    rcases (Rch.succ g hi).1 h with h1 | ⟨m, h1, h2⟩
    · exact (Rch.symm g hi h1).mono g (h1.lt g hi) 1
    · obtain ⟨_, hj, h3, _⟩ := g.ok m j h2
      have := Rch.trans g hj ((Rch.one g hj).2 (.inr h3)) (Rch.symm g hi h1)
      rwa [Nat.add_comm] at this
theorem popc_grow {a b : Nat} : ∀ {n : Nat}, (∀ m, m < n → a.testBit m = true → b.testBit m = true) → popc n a ≤ popc n b ∧ ((∃ m, m < n ∧ b.testBit m = true ∧ a.testBit m = false) → popc n a < popc n b)
  | 0, _ => ⟨by simp [popc], fun ⟨m, hm, _⟩ => by omega⟩
  | n + 1, h => by
    obtain ⟨h1, h2⟩ := popc_grow (n := n) (a := a) (b := b) (fun m hm => h m (by omega))
    have e : ∀ x, popc (n + 1) x = popc n x + if x.testBit n then 1 else 0 := fun x => by
      unfold popc
      rw [List.range_succ, List.filter_append, List.length_append]
      cases hx : x.testBit n <;> simp [hx]
    rw [e, e]
    have hn := h n (by omega)
    constructor
    · cases ha : a.testBit n
      · simp; omega
      · rw [hn ha]; simp; omega
    · rintro ⟨m, hm, hb, ha⟩
      by_cases hmn : m = n
      · subst hmn; rw [ha, hb]; simp; omega
      · have := h2 ⟨m, by omega, hb, ha⟩
        cases ha : a.testBit n
        · simp; omega
        · rw [hn ha]; simp; omega
theorem ball_sub (ns : List Nat) (i k m : Nat) (h : (ball ns i k).testBit m = true) : (ball ns i (k + 1)).testBit m = true := by rw [ball, Nat.testBit_or, h]; rfl
theorem ball_still {i k : Nat} (h : ball ns i (k + 1) = ball ns i k) : ∀ m, ball ns i (k + m) = ball ns i k
  | 0 => rfl
  | m + 1 => by
    have ih := ball_still h m
    show ball ns i (k + m) ||| orN ns (bitsL (ball ns i (k + m))) = _
    rw [ih]; exact h
/-- it comes to a stand, or there are many -/
theorem ball_many (g : Gr n ns) {i : Nat} (hi : i < n) : ∀ k, (∃ q, q < k ∧ ball ns i (q + 1) = ball ns i q) ∨ k + 1 ≤ popc n (ball ns i k)
  | 0 => .inr (by
    have := (popc_grow (n := n) (a := 0) (b := ball ns i 0) (fun m _ h => by simp at h)).2 ⟨i, hi, by simp [ball], by simp⟩
    omega)
  | k + 1 => by
    rcases ball_many g hi k with ⟨q, hq, h⟩ | h
    · exact .inl ⟨q, by omega, h⟩
    · by_cases he : ball ns i (k + 1) = ball ns i k
      · exact .inl ⟨k, by omega, he⟩
      · right
        have hd : ∃ m, m < n ∧ (ball ns i (k + 1)).testBit m = true ∧ (ball ns i k).testBit m = false := by
          refine Classical.byContradiction fun hno => he ?_
          apply Nat.eq_of_testBit_eq
          intro m
          cases h1 : (ball ns i k).testBit m
          · cases h2 : (ball ns i (k + 1)).testBit m
            · rfl
            · exact absurd ⟨m, lt_bit (ball_lt g hi (k + 1)) h2, h2, h1⟩ hno
          · exact ball_sub ns i k m h1
        have := (popc_grow (n := n) (fun m _ hm => ball_sub ns i k m hm)).2 hd
        omega
theorem Rch.ten (g : Gr n ns) {i k j : Nat} (hi : i < n) (h : Rch ns k i j) : Rch ns 10 i j := by
  have hn := g.n10
  rcases ball_many g hi 10 with ⟨q, hq, he⟩ | h1
  · have hst := ball_still he
    unfold Rch at h ⊢
    by_cases hkq : k ≤ q
    · have := Rch.mono g hi (show Rch ns k i j from h) (10 - k)
      rwa [show k + (10 - k) = 10 by omega] at this
    · have e1 := hst (k - q)
      have e2 := hst (10 - q)
      rw [show q + (k - q) = k by omega] at e1
      rw [show q + (10 - q) = 10 by omega] at e2
      rw [e1] at h
      rw [e2]; exact h
  · have := popc_le n (ball ns i 10)
    omega
/-- the first of so many steps by which one is come to; below 0: by none -/
def first (ns : List Nat) (i j : Nat) : Nat → Int
  | 0 => -1
  | d + 1 => if first ns i j d < 0 then (if (ball ns i d).testBit j then (d : Int) else -1) else first ns i j d
theorem first_cases (ns : List Nat) (i j : Nat) : ∀ d, (first ns i j d = -1 ∧ ∀ k, k < d → ¬ Rch ns k i j) ∨ ∃ k : Nat, first ns i j d = k ∧ k < d ∧ Rch ns k i j ∧ ∀ m, m < k → ¬ Rch ns m i j
  | 0 => .inl ⟨rfl, fun k hk => absurd hk (by omega)⟩
  | d + 1 => by
    rw [first]
    rcases first_cases ns i j d with ⟨h1, h2⟩ | ⟨k, h1, h2, h3, h4⟩
    · rw [h1, if_pos (by omega)]
      by_cases hb : (ball ns i d).testBit j = true
      · rw [if_pos hb]; exact .inr ⟨d, rfl, by omega, hb, h2⟩
      · rw [if_neg hb]
        refine .inl ⟨rfl, fun k hk => ?_⟩
        by_cases hkd : k = d
        · subst hkd; exact hb
        · exact h2 k (by omega)
    · rw [h1, if_neg (by omega)]
      exact .inr ⟨k, rfl, by omega, h3, h4⟩
def far (ns : List Nat) (i j : Nat) : Int := first ns i j 11
theorem far_cases (g : Gr n ns) {i j : Nat} (hi : i < n) : (far ns i j = -1 ∧ ∀ k, ¬ Rch ns k i j) ∨ ∃ k : Nat, far ns i j = k ∧ k ≤ 10 ∧ Rch ns k i j ∧ ∀ m, m < k → ¬ Rch ns m i j := by
  rcases first_cases ns i j 11 with ⟨h1, h2⟩ | ⟨k, h1, h2, h3, h4⟩
  · exact .inl ⟨h1, fun k h => h2 10 (by omega) (h.ten g hi)⟩
  · exact .inr ⟨k, h1, by omega, h3, h4⟩
theorem far_symm (g : Gr n ns) {i j : Nat} (hi : i < n) (hj : j < n) : far ns i j = far ns j i := by
  rcases far_cases g (j := j) hi with ⟨h1, h2⟩ | ⟨k, h1, h2, h3, h4⟩ <;> rcases far_cases g (j := i) hj with ⟨q1, q2⟩ | ⟨m, q1, q2, q3, q4⟩
  · rw [h1, q1]
  · exact absurd (q3.symm g hj) (h2 m)
  · exact absurd (h3.symm g hi) (q2 k)
  · have a1 : ¬ k < m := fun h => q4 k h (h3.symm g hi)
    have a2 : ¬ m < k := fun h => h4 m h (q3.symm g hj)
    rw [h1, q1]; omega
theorem far_zero (g : Gr n ns) {i j : Nat} (hi : i < n) : far ns i j = 0 ↔ i = j := by
  rcases far_cases g (j := j) hi with ⟨h1, h2⟩ | ⟨k, h1, h2, h3, h4⟩
  · exact ⟨fun h => by omega, fun h => absurd (Rch.zero.2 h) (h2 0)⟩
  · constructor
    · intro h
      obtain rfl : k = 0 := by omega
      exact Rch.zero.1 h3
    · intro h
      have : ¬ 0 < k := fun hk => h4 0 hk (Rch.zero.2 h)
      omega
theorem far_one (g : Gr n ns) {i j : Nat} (hi : i < n) : far ns i j = 1 ↔ nb ns i j = true := by
  rcases far_cases g (j := j) hi with ⟨h1, h2⟩ | ⟨k, h1, h2, h3, h4⟩
  · exact ⟨fun h => by omega, fun h => absurd ((Rch.one g hi).2 (.inr h)) (h2 1)⟩
  · constructor
    · intro h
      obtain rfl : k = 1 := by omega
      rcases (Rch.one g hi).1 h3 with e | e
      · exact absurd (Rch.zero.2 e) (h4 0 (by omega))
      · exact e
    · intro h
      have a1 : ¬ 1 < k := fun hk => h4 1 hk ((Rch.one g hi).2 (.inr h))
      have a2 : k ≠ 0 := fun e => by
        subst e
        exact (g.ok i j h).2.2.2 (Rch.zero.1 h3)
      omega
theorem far_tri (g : Gr n ns) {a b c : Nat} (ha : a < n) (h1 : 0 ≤ far ns a b) (h2 : 0 ≤ far ns b c) : 0 ≤ far ns a c ∧ far ns a c ≤ far ns a b + far ns b c := by
  rcases far_cases g (j := b) ha with ⟨e1, _⟩ | ⟨p, e1, p1, p2, p3⟩
  · omega
  · rcases far_cases g (j := c) (p2.lt g ha) with ⟨e2, _⟩ | ⟨q, e2, q1, q2, q3⟩
    · omega
    · have hr := Rch.trans g ha p2 q2
      rcases far_cases g (j := c) ha with ⟨e3, e4⟩ | ⟨r, e3, r1, r2, r3⟩
      · exact absurd hr (e4 _)
      · have : ¬ p + q < r := fun h => r3 _ h hr
        omega
theorem first_still {i : Nat} {d : Nat} (hd : ball ns i (d + 1) = ball ns i d) (j : Nat) : ∀ m, first ns i j (d + 1 + m) = first ns i j (d + 1)
  | 0 => rfl
  | m + 1 => by
    have ih := first_still hd j m
    show (if first ns i j (d + 1 + m) < 0 then (if (ball ns i (d + 1 + m)).testBit j then ((d + 1 + m : Nat) : Int) else -1) else first ns i j (d + 1 + m)) = _
    rw [ih]
    split
    · rename_i hneg
      have hb : ball ns i (d + 1 + m) = ball ns i d := by rw [show d + 1 + m = d + (1 + m) by omega]; exact ball_still hd _
      rw [hb]
      rcases first_cases ns i j (d + 1) with ⟨h1, h2⟩ | ⟨k, h1, _⟩
      · rw [if_neg (show ¬ (ball ns i d).testBit j = true from h2 d (by omega)), h1]
      · omega
    · rfl
end
end Go.Proofs.YtnkmfnnkophccaaDoor
