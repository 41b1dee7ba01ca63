/- CARO, WEI; TURAN: the plain laws, of lists. -/
import Derived.Test.YtnpgnohnpbdblaaDoorBase
namespace Go.Proofs.YtnpgnohnpbdblaaDoor

def lsum (U : List Nat) (g : Nat → Nat) : Nat := (U.map g).sum
theorem lsum_nil (g : Nat → Nat) : lsum [] g = 0 := rfl
theorem lsum_cons (x : Nat) (U : List Nat) (g : Nat → Nat) : lsum (x :: U) g = g x + lsum U g := by simp [lsum]
theorem lsum_split (p : Nat → Bool) (g : Nat → Nat) : ∀ U : List Nat, lsum U g = lsum (U.filter p) g + lsum (U.filter fun x => !p x) g
  | [] => rfl
  | x :: U => by
    have ih := lsum_split p g U
    rw [lsum_cons]
    cases h : p x <;> simp [h, lsum_cons] <;> omega
theorem lsum_le {U : List Nat} {g h : Nat → Nat} (H : ∀ x ∈ U, g x ≤ h x) : lsum U g ≤ lsum U h := by
  induction U with
  | nil => exact Nat.le_refl _
  | cons x U ih =>
    have := H x (by simp)
    have := ih fun y hy => H y (List.mem_cons_of_mem _ hy)
    rw [lsum_cons, lsum_cons]; omega
theorem lsum_const (U : List Nat) (c : Nat) : lsum U (fun _ => c) = U.length * c := by
  induction U with
  | nil => simp [lsum]
  | cons x U ih => rw [lsum_cons, ih, List.length_cons, Nat.succ_mul]; omega
theorem exists_min (g : Nat → Nat) : ∀ (U : List Nat), U ≠ [] → ∃ v ∈ U, ∀ x ∈ U, g v ≤ g x
  | [], h => absurd rfl h
  | [a], _ => ⟨a, by simp, by simp⟩
  | a :: b :: U, _ => by
    obtain ⟨v, hv, hm⟩ := exists_min g (b :: U) (by simp)
    by_cases h : g a ≤ g v
    · refine ⟨a, by simp, fun x hx => ?_⟩
      rcases List.mem_cons.1 hx with rfl | hx
      · exact Nat.le_refl _
      · exact Nat.le_trans h (hm x hx)
    · refine ⟨v, List.mem_cons_of_mem _ hv, fun x hx => ?_⟩
      rcases List.mem_cons.1 hx with rfl | hx
      · omega
      · exact hm x hx
/-- with how many of some -/
def dg (a : Nat → Nat → Bool) (U : List Nat) (i : Nat) : Nat := (U.filter (a i)).length
theorem filter_len_mono {p : Nat → Bool} {U V : List Nat} (hU : V.Sublist U) : (V.filter p).length ≤ (U.filter p).length := (hU.filter p).length_le
theorem closed_len (a : Nat → Nat → Bool) (v : Nat) (irr : a v v = false) : ∀ (U : List Nat), U.Nodup → v ∈ U → (U.filter fun x => x == v || a v x).length = dg a U v + 1
  | [], _, h => by cases h
  | x :: U, hn, h => by
    rw [List.nodup_cons] at hn
    unfold dg
    by_cases hx : x = v
    · subst hx
      have e : (U.filter fun y => y == x || a x y) = U.filter (a x) := by
        apply List.filter_congr
        intro y hy
        have : ¬ y = x := fun h => hn.1 (h ▸ hy)
        simp [this]
      simp [irr, e]
    · have hv : v ∈ U := by
        rcases List.mem_cons.1 h with h | h
        · exact absurd h.symm hx
        · exact h
      have ih := closed_len a v irr U hn.2 hv
      unfold dg at ih
      simp only [List.filter_cons]
      have hxb : (x == v) = false := by simpa using hx
      rw [hxb, Bool.false_or]
      cases a v x <;> simp [ih]
/-- no two of a list have each other -/
def Indep (a : Nat → Nat → Bool) (s : List Nat) : Prop := ∀ x ∈ s, ∀ y ∈ s, a x y = false
theorem caro (a : Nat → Nat → Bool) (sym : ∀ x y, a x y = a y x) (irr : ∀ x, a x x = false) (f : Nat → Nat) (C : Nat) (hf : ∀ d e, d ≤ e → f e ≤ f d) (hC : ∀ d, (d + 1) * f d ≤ C) :
    ∀ (n : Nat) (U : List Nat), U.length ≤ n → U.Nodup → ∃ s : List Nat, s.Sublist U ∧ Indep a s ∧ lsum U (fun i => f (dg a U i)) ≤ C * s.length
  | 0, U, hl, _ => by
    have : U = [] := List.eq_nil_of_length_eq_zero (by omega)
    subst this
    exact ⟨[], List.Sublist.refl _, (fun x hx => by cases hx), by simp [lsum]⟩
  | n + 1, U, hl, hn => by
    by_cases hU : U = []
    · subst hU
      exact ⟨[], List.Sublist.refl _, (fun x hx => by cases hx), by simp [lsum]⟩
    · obtain ⟨v, hv, hm⟩ := exists_min (dg a U) U hU
      have hk := closed_len a v (irr v) U hn hv
      have hsub : (U.filter fun x => !(x == v || a v x)).Sublist U := List.filter_sublist
      have hlen : (U.filter fun x => !(x == v || a v x)).length ≤ n := by
        have h1 := lsum_split (fun x => x == v || a v x) (fun _ => 1) U
        rw [lsum_const, lsum_const, lsum_const] at h1
        omega
      obtain ⟨s, hs1, hs2, hs3⟩ := caro a sym irr f C hf hC n _ hlen (hn.sublist hsub)
      have hsp := lsum_split (fun x => x == v || a v x) (fun i => f (dg a U i)) U
      have h1 : lsum (U.filter fun x => x == v || a v x) (fun i => f (dg a U i)) ≤ C := by
        refine Nat.le_trans (lsum_le (h := fun _ => f (dg a U v)) fun x hx => hf _ _ (hm x (List.mem_filter.1 hx).1)) ?_
        rw [lsum_const, hk]
        exact hC _
      have h2 : lsum (U.filter fun x => !(x == v || a v x)) (fun i => f (dg a U i)) ≤ lsum (U.filter fun x => !(x == v || a v x)) (fun i => f (dg a (U.filter fun x => !(x == v || a v x)) i)) :=
        lsum_le fun x _ => hf _ _ (filter_len_mono hsub)
      have hmem : ∀ x ∈ s, x ∈ U ∧ x ≠ v ∧ a v x = false := fun x hx => by
        have := hs1.subset hx
        rw [List.mem_filter] at this
        obtain ⟨h3, h4⟩ := this
        simp at h4
        exact ⟨h3, h4.1, h4.2⟩
      -- the set with v: as a part of the list in its order
      refine ⟨U.filter fun x => x == v || s.contains x, List.filter_sublist, fun x hx y hy => ?_, ?_⟩
      · rw [List.mem_filter] at hx hy
        simp at hx hy
        rcases hx.2 with rfl | hx2
        · rcases hy.2 with rfl | hy2
          · exact irr _
          · exact (hmem y hy2).2.2
        · rcases hy.2 with rfl | hy2
          · rw [sym]; exact (hmem x hx2).2.2
          · exact hs2 x hx2 y hy2
      · have hlen2 : s.length + 1 ≤ (U.filter fun x => x == v || s.contains x).length := by
          have hnd : (v :: s).Nodup := List.nodup_cons.2 ⟨fun h => (hmem v h).2.1 rfl, hn.sublist (hs1.trans hsub)⟩
          have := hnd.length_le_of_subset (l₂ := U.filter fun x => x == v || s.contains x) (fun x hx => by
            rw [List.mem_filter]
            rcases List.mem_cons.1 hx with rfl | hx
            · exact ⟨hv, by simp⟩
            · exact ⟨(hmem x hx).1, by simp [hx]⟩)
          simpa using this
        have h3 : C * (s.length + 1) ≤ C * (U.filter fun x => x == v || s.contains x).length := Nat.mul_le_mul_left _ hlen2
        rw [Nat.mul_add, Nat.mul_one] at h3
        omega
/-- the bits of a word, in order -/
def bitsOf (n w : Nat) : List Nat := (List.range n).filter w.testBit
/-- the word of the numbers below n that are meant -/
def wordOf : Nat → (Nat → Bool) → Nat
  | 0, _ => 0
  | n + 1, p => wordOf n p ||| if p n then 2 ^ n else 0
theorem wordOf_lt (p : Nat → Bool) : ∀ n, wordOf n p < 2 ^ n
  | 0 => by simp [wordOf]
  | n + 1 => by
    have h1 := wordOf_lt p n
    have h2 : 2 ^ n < 2 ^ (n + 1) := Nat.pow_lt_pow_right (by omega) (by omega)
    rw [wordOf]
    refine Nat.or_lt_two_pow (by omega) ?_
    split <;> omega
theorem wordOf_bit (p : Nat → Bool) : ∀ n i, (wordOf n p).testBit i = (decide (i < n) && p i)
  | 0, i => by simp [wordOf]
  | n + 1, i => by
    rw [wordOf, Nat.testBit_or, wordOf_bit p n i]
    by_cases hi : i = n
    · subst hi
      cases hp : p i
      · simp
      · simp
    · have h1 : (if p n = true then 2 ^ n else 0).testBit i = false := by
        split
        · rw [Nat.testBit_two_pow]; simpa using fun h => hi h.symm
        · simp
      rw [h1, Bool.or_false]
      by_cases h2 : i < n
      · simp [h2, show i < n + 1 by omega]
      · simp [h2, show ¬ i < n + 1 by omega]
end Go.Proofs.YtnpgnohnpbdblaaDoor
