/- tour: its words and what they hold. Plain. -/
import Derived.Test.YtbghkpkpmbbghaaDoorTourSmall
import Derived.Test.YtbghkpkpmbbghaaDoorDegrees
namespace Go.Proofs.YtbghkpkpmbbghaaDoor
open Go.RowKit

section
variable {n : Nat} {ns : List Nat}
theorem sg_of (g : Gr n ns) : Sg n (nb ns) :=
  ⟨fun x => by
    cases h : nb ns x x
    · rfl
    · exact absurd rfl (g.ok x x h).2.2.2, fun x y h => (g.ok x y h).2.2.1, fun x y h => (g.ok x y h).1⟩
theorem ball_go (g : Gr n ns) {i : Nat} (hi : i < n) (m : Nat) : (ball ns i 10).testBit m = true ↔ Go (nb ns) i m := by
  have hs := ball_spread g hi
  constructor
  · refine hs.least (fun m => Go (nb ns) i m) (fun m hm => ?_) (fun j m hj hjm _ => .step hj hjm) m
    rw [Nat.testBit_two_pow] at hm
    rw [← of_decide_eq_true hm]; exact .refl
  · intro h
    induction h with
    | refl => exact hs.sub i (by rw [Nat.testBit_two_pow]; simp)
    | @step b x _ hbx ih =>
      refine hs.cl b x ih hbx ?_
      rw [Nat.testBit_two_pow_sub_one]
      exact decide_eq_true (g.ok b x hbx).2.1
theorem one_iff (g : Gr n ns) {i : Nat} (hi : i < n) : oneB ns n i = true ↔ oneR (nb ns) i := by
  unfold oneB oneR
  rw [List.all_eq_true]
  constructor
  · intro h x y hxy
    have hx := (g.ok x y hxy).1
    have := h x (List.mem_range.2 hx)
    rw [Bool.or_eq_true] at this
    rcases this with h1 | h1
    · have : ns.getD x 0 = 0 := by simpa using h1
      unfold nb at hxy
      rw [this] at hxy
      simp at hxy
    · exact (ball_go g hi x).1 h1
  · intro h x hx
    by_cases h0 : ns.getD x 0 = 0
    · rw [h0]; rfl
    · obtain ⟨y, hy⟩ := Nat.exists_testBit_of_ne_zero h0
      rw [(ball_go g hi x).2 (h x y hy), Bool.or_true]
theorem turnW_len (ns : List Nat) (a b : Nat) : (turnW ns a b).length = ns.length := by simp [turnW]
theorem turnW_get (hl : ns.length = n) {a b : Nat} (ha : a < n) (hb : b < n) (hab : a ≠ b) (x : Nat) : (turnW ns a b).getD x 0 = if x = a then ns.getD a 0 ^^^ 2 ^ b else if x = b then ns.getD b 0 ^^^ 2 ^ a else ns.getD x 0 := by
  unfold turnW
  rw [List.getD, List.getElem?_set, List.getElem?_set, List.length_set]
  by_cases e1 : x = b
  · subst e1
    rw [if_pos rfl, if_pos (by omega), if_neg (Ne.symm hab), if_pos rfl]; rfl
  · rw [if_neg (Ne.symm e1)]
    by_cases e2 : x = a
    · subst e2
      rw [if_pos rfl, if_pos (by omega), if_pos rfl]; rfl
    · rw [if_neg (Ne.symm e2), if_neg e2, if_neg e1]; rfl
theorem turn_turn (hl : ns.length = n) {a b : Nat} (ha : a < n) (hb : b < n) (hab : a ≠ b) : turnW (turnW ns a b) a b = ns := by
  refine List.ext_getElem (by rw [turnW_len, turnW_len]) fun x h1 h2 => ?_
  have e := turnW_get (ns := turnW ns a b) (by rw [turnW_len]; exact hl) ha hb hab x
  rw [turnW_get hl ha hb hab a, turnW_get hl ha hb hab b, turnW_get hl ha hb hab x, if_pos rfl, if_neg (Ne.symm hab), if_pos rfl, Nat.xor_assoc, Nat.xor_assoc, Nat.xor_self, Nat.xor_self, Nat.xor_zero, Nat.xor_zero] at e
  have e1 : (turnW (turnW ns a b) a b)[x] = (turnW (turnW ns a b) a b).getD x 0 := by simp [List.getD, h1]
  have e2 : ns[x] = ns.getD x 0 := by simp [List.getD, h2]
  rw [e1, e2, e]
  split
  · rename_i h; rw [h]
  · split
    · rename_i h; rw [h]
    · rfl
theorem turn_nb (g : Gr n ns) (hl : ns.length = n) {a j : Nat} (haj : nb ns a j = true) : nb (turnW ns a j) = remE (nb ns) a j := by
  obtain ⟨ha, hj, hja, hne⟩ := g.ok a j haj
  funext x y
  unfold nb at haj hja
  unfold remE nb
  rw [turnW_get hl ha hj hne x]
  by_cases e1 : x = a
  · subst e1
    rw [if_pos rfl, Nat.testBit_xor, Nat.testBit_two_pow]
    by_cases e2 : y = j
    · subst e2
      rw [haj]; simp
    · rw [decide_eq_false (fun e => e2 e.symm), decide_eq_false (by omega)]; simp
  · rw [if_neg e1]
    by_cases e2 : x = j
    · subst e2
      rw [if_pos rfl, Nat.testBit_xor, Nat.testBit_two_pow]
      by_cases e3 : y = a
      · subst e3
        rw [hja]; simp
      · rw [decide_eq_false (fun e => e3 e.symm), decide_eq_false (by omega)]; simp
    · rw [if_neg e2, decide_eq_false (by omega)]; simp
theorem turn_gr (g : Gr n ns) (hl : ns.length = n) {a j : Nat} (haj : nb ns a j = true) : Gr n (turnW ns a j) := by
  obtain ⟨ha, hj, hja, hne⟩ := g.ok a j haj
  have hS := (sg_of g).rem a j
  have e := turn_nb g hl haj
  have hok : ∀ x y, nb (turnW ns a j) x y = true → x < n ∧ y < n ∧ nb (turnW ns a j) y x = true ∧ x ≠ y := fun x y hxy => by
    rw [e] at hxy ⊢
    exact ⟨hS.lt x y hxy, hS.lt y x (hS.sy _ _ hxy), hS.sy _ _ hxy, fun h => by rw [h, hS.ir] at hxy; cases hxy⟩
  refine ⟨g.n10, fun i => Nat.lt_pow_two_of_testBit _ fun m hm => ?_, hok⟩
  cases hb : ((turnW ns a j).getD i 0).testBit m
  · rfl
  · have := (hok i m hb).2.1; omega
theorem has_iff : hasN ns = false ↔ ∀ x y, nb ns x y = false := by
  unfold hasN
  rw [List.any_eq_false]
  constructor
  · intro h x y
    unfold nb
    by_cases hx : x < ns.length
    · have := h ns[x] (List.getElem_mem hx)
      have e : ns.getD x 0 = 0 := by simpa [List.getD, hx] using this
      rw [e]; simp
    · simp [List.getD, hx]
  · intro h z hz
    obtain ⟨x, hx, rfl⟩ := List.mem_iff_getElem.1 hz
    have : ns[x] = 0 := Nat.eq_of_testBit_eq fun i => by
      have := h x i
      unfold nb at this
      rw [show ns.getD x 0 = ns[x] by simp [List.getD, hx]] at this
      rw [this]; simp
    simp [this]
theorem deg_popc (g : Gr n ns) (x : Nat) : popc 10 (ns.getD x 0) = degR n (nb ns) x := by
  have h10 := g.n10
  obtain ⟨m, hm⟩ : ∃ m, 10 = n + m := ⟨10 - n, by omega⟩
  have h := g.lt x
  have hall : ∀ k, popc (n + k) (ns.getD x 0) = popc n (ns.getD x 0) := fun k => by
    induction k with
    | zero => rfl
    | succ k ih =>
      rw [← ih, ← Nat.add_assoc]
      unfold popc
      rw [List.range_succ, List.filter_append, List.length_append]
      have : (ns.getD x 0).testBit (n + k) = false := Nat.testBit_lt_two_pow (Nat.lt_of_lt_of_le h (Nat.pow_le_pow_right (n := 2) (by omega) (by omega)))
      rw [List.filter_cons, this]; rfl
  rw [hm, hall]
  unfold popc degR
  rw [← List.countP_eq_length_filter]
  exact List.countP_congr fun y _ => Iff.rfl
/-- the first node with an edge, ahead of i; else the first one -/
def FstI (ns : List Nat) (i a : Nat) : Prop := (ns.getD a 0 ≠ 0 ∧ (∀ j, j < a → ns.getD j 0 = 0) ∧ a < i) ∨ ((∀ j, j < i → ns.getD j 0 = 0) ∧ a = 0)
theorem FstI.zero : FstI ns 0 0 := .inr ⟨fun j hj => absurd hj (by omega), rfl⟩
theorem FstI.same {i a : Nat} (h : FstI ns i a) (h0 : ns.getD i 0 = 0 ∨ ns.getD a 0 ≠ 0) : FstI ns (i + 1) a := by
  rcases h with ⟨h1, h2, h3⟩ | ⟨h1, h2⟩
  · exact .inl ⟨h1, h2, by omega⟩
  · rcases h0 with h0 | h0
    · refine .inr ⟨fun j hj => ?_, h2⟩
      by_cases e : j = i
      · rw [e]; exact h0
      · exact h1 j (by omega)
    · subst h2
      refine .inl ⟨h0, fun j hj => absurd hj (by omega), by omega⟩
theorem FstI.next {i a : Nat} (h : FstI ns i a) (h0 : ns.getD i 0 ≠ 0) (ha : ns.getD a 0 = 0) : FstI ns (i + 1) i := by
  rcases h with ⟨h1, _, _⟩ | ⟨h1, _⟩
  · exact absurd ha h1
  · exact .inl ⟨h0, h1, by omega⟩
theorem FstI.lt {i a : Nat} (h : FstI ns i a) (hi : 0 < i) : a < i := by
  rcases h with ⟨_, _, h⟩ | ⟨_, h⟩ <;> omega
theorem FstI.uniq {i a b : Nat} (h : FstI ns i a) (h' : FstI ns i b) : b = a := by
  rcases h with ⟨h1, h2, h3⟩ | ⟨h1, h2⟩
  · rcases h' with ⟨k1, k2, k3⟩ | ⟨k1, _⟩
    · rcases Nat.lt_trichotomy a b with h | h | h
      · exact absurd (k2 a h) h1
      · exact h.symm
      · exact absurd (h2 b h) k1
    · exact absurd (k1 a h3) h1
  · rcases h' with ⟨k1, k2, k3⟩ | ⟨_, k2⟩
    · exact absurd (h1 b k3) k1
    · rw [h2, k2]
/-- there is a tour: all even, and all that is left is met from the first one -/
def TourC (n : Nat) (ns : List Nat) : Prop := (∀ x, x < n → popc 10 (ns.getD x 0) % 2 = 0) ∧ ∀ a, FstI ns n a → oneR (nb ns) a
end
end Go.Proofs.YtbghkpkpmbbghaaDoor
