/- BELLMAN: shortest walks by so many arcs: plain. -/
import Derived.Test.YtemcolhpghjnkaaBellman
namespace Go.Proofs.Ytemcolhpghjnkaa
open Go.RowKit

/-- a walk to t, of so many arcs, so long -/
inductive Wk (l : List Arc) (t : Nat) : Nat → Nat → Int → Prop
  | nil : Wk l t t 0 0
  | cons {a : Arc} {k : Nat} {x : Int} : a ∈ l → Wk l t (aT a) k x → Wk l t (aF a) (k + 1) (aW a + x)
theorem Wk.snoc {l : List Arc} {t i k : Nat} {x : Int} (h : Wk l t i k x) {a : Arc} (ha : a ∈ l) (e : aF a = t) : Wk l (aT a) i (k + 1) (x + aW a) := by
  induction h with
  | nil =>
    have := Wk.cons (t := aT a) ha .nil
    rw [e] at this
    rw [Int.zero_add]
    rw [Int.add_zero] at this
    exact this
  | cons hb _ ih =>
    have := Wk.cons hb ih
    rw [← Int.add_assoc] at this
    exact this
theorem Wk.zero {l : List Arc} {t i : Nat} {x : Int} (h : Wk l t i 0 x) : i = t ∧ x = 0 := by cases h; exact ⟨rfl, rfl⟩
/-- where no arc makes it shorter, no walk does -/
theorem Wk.ge {l : List Arc} {S : BS} (hS : Still l S) {t i k : Nat} {x : Int} (h : Wk l t i k x) : S.T i = true → S.T t = true ∧ S.F t ≤ S.F i + x := by
  induction h with
  | nil => exact fun h => ⟨h, by omega⟩
  | @cons a k x ha _ ih =>
    intro h
    obtain ⟨h1, h2⟩ := hS a ha h
    obtain ⟨h3, h4⟩ := ih h1
    exact ⟨h3, by omega⟩
/-- each that is told is some walk's length -/
def Walked (l : List Arc) (s : Nat) (S : BS) : Prop := ∀ t, S.T t = true → ∃ k, Wk l t s k (S.F t)
theorem Walked.relax {l : List Arc} {s : Nat} {S : BS} {a : Arc} (ha : a ∈ l) (h : Walked l s S) : Walked l s (relax S a) := by
  intro t ht
  unfold Go.Proofs.Ytemcolhpghjnkaa.relax at ht ⊢
  by_cases hb : bett S a = true
  · rw [if_pos hb] at ht ⊢
    by_cases htt : t = aT a
    · subst htt
      have hf : S.T (aF a) = true := by unfold bett at hb; simp at hb; exact hb.1
      obtain ⟨k, hk⟩ := h _ hf
      exact ⟨k + 1, by simp only [upd_same]; exact hk.snoc ha rfl⟩
    · simp only [upd_other _ _ htt] at ht ⊢
      exact h t ht
  · rw [if_neg hb] at ht ⊢
    exact h t ht
theorem Walked.run (l : List Arc) (s k : Nat) : Walked l s (bfRun l k (bfInit s)).1 :=
  bfRun_inv (I := Walked l s) (fun _ _ ha h => Walked.relax ha h) (fun _ h => h) k (fun t ht => by
    have : t = s := by simpa [bfInit] using ht
    subst this
    exact ⟨0, .nil⟩)
/-- the least lengths to t by just so many arcs -/
def bettG (g : Option Int) (c : Int) : Bool := match g with | none => true | some y => decide (c < y)
def stepG (B G : Nat → Option Int) (a : Arc) : Nat → Option Int :=
  match B (aT a) with
  | none => G
  | some x => if bettG (G (aF a)) (x + aW a) then upd G (aF a) (some (x + aW a)) else G
theorem stepG_none {B G : Nat → Option Int} {a : Arc} (h : B (aT a) = none) : stepG B G a = G := by unfold stepG; rw [h]
theorem stepG_some {B G : Nat → Option Int} {a : Arc} {x : Int} (h : B (aT a) = some x) : stepG B G a = if bettG (G (aF a)) (x + aW a) then upd G (aF a) (some (x + aW a)) else G := by unfold stepG; rw [h]
def rowB (l : List Arc) (B : Nat → Option Int) : Nat → Option Int := l.foldl (stepG B) fun _ => none
def Bst (l : List Arc) (t : Nat) : Nat → Nat → Option Int
  | 0 => fun i => if i = t then some 0 else none
  | k + 1 => rowB l (Bst l t k)
theorem stepG_le (B G : Nat → Option Int) (a : Arc) {i : Nat} {y : Int} (h : G i = some y) : ∃ z, stepG B G a i = some z ∧ z ≤ y := by
  cases hx : B (aT a) with
  | none => rw [stepG_none hx]; exact ⟨y, h, Int.le_refl _⟩
  | some x =>
    rw [stepG_some hx]
    split
    · rename_i hb
      by_cases hi : i = aF a
      · subst hi
        rw [h] at hb
        rw [upd_same]
        exact ⟨_, rfl, by have := of_decide_eq_true hb; omega⟩
      · rw [upd_other _ _ hi]; exact ⟨y, h, Int.le_refl _⟩
    · exact ⟨y, h, Int.le_refl _⟩
theorem foldG_le (B : Nat → Option Int) : ∀ (l : List Arc) (G : Nat → Option Int) {i : Nat} {y : Int}, G i = some y → ∃ z, l.foldl (stepG B) G i = some z ∧ z ≤ y
  | [], G, i, y, h => ⟨y, h, Int.le_refl _⟩
  | a :: l, G, i, y, h => by
    obtain ⟨z, h1, h2⟩ := stepG_le B G a h
    obtain ⟨z', h3, h4⟩ := foldG_le B l (stepG B G a) h1
    exact ⟨z', h3, by omega⟩
theorem foldG_min (B : Nat → Option Int) : ∀ (l : List Arc) (G : Nat → Option Int) {a : Arc} {x : Int}, a ∈ l → B (aT a) = some x → ∃ z, l.foldl (stepG B) G (aF a) = some z ∧ z ≤ x + aW a
  | c :: l, G, a, x, ha, hx => by
    rcases List.mem_cons.1 ha with rfl | ha
    · have : ∃ z, stepG B G a (aF a) = some z ∧ z ≤ x + aW a := by
        rw [stepG_some hx]
        split
        · rw [upd_same]; exact ⟨_, rfl, Int.le_refl _⟩
        · rename_i hb
          cases hg : G (aF a) with
          | none => rw [hg] at hb; exact absurd rfl hb
          | some y =>
            rw [hg] at hb
            have : ¬ x + aW a < y := fun h => hb (decide_eq_true h)
            exact ⟨y, rfl, by omega⟩
      obtain ⟨z, h1, h2⟩ := this
      obtain ⟨z', h3, h4⟩ := foldG_le B l (stepG B G a) h1
      exact ⟨z', h3, by omega⟩
    · exact foldG_min B l _ ha hx
theorem foldG_src (B : Nat → Option Int) : ∀ (l : List Arc) (G : Nat → Option Int) {i : Nat} {y : Int}, l.foldl (stepG B) G i = some y → G i = some y ∨ ∃ a ∈ l, aF a = i ∧ ∃ x, B (aT a) = some x ∧ y = x + aW a
  | [], G, i, y, h => .inl h
  | c :: l, G, i, y, h => by
    rcases foldG_src B l (stepG B G c) h with h1 | ⟨a, ha, h2⟩
    · cases hx : B (aT c) with
      | none => rw [stepG_none hx] at h1; exact .inl h1
      | some x =>
        rw [stepG_some hx] at h1
        split at h1
        · by_cases hi : i = aF c
          · subst hi
            rw [upd_same] at h1
            exact .inr ⟨c, by simp, rfl, x, hx, (Option.some.inj h1).symm⟩
          · rw [upd_other _ _ hi] at h1; exact .inl h1
        · exact .inl h1
    · exact .inr ⟨a, List.mem_cons_of_mem _ ha, h2⟩
theorem Bst_src {l : List Arc} {t k i : Nat} {y : Int} (h : Bst l t (k + 1) i = some y) : ∃ a ∈ l, aF a = i ∧ ∃ x, Bst l t k (aT a) = some x ∧ y = x + aW a := by
  rcases foldG_src _ _ _ h with h | h
  · cases h
  · exact h
theorem Bst_walk {l : List Arc} {t : Nat} : ∀ {k i : Nat} {y : Int}, Bst l t k i = some y → Wk l t i k y
  | 0, i, y, h => by
    unfold Bst at h
    split at h
    · rename_i e; subst e; cases h; exact .nil
    · cases h
  | k + 1, i, y, h => by
    obtain ⟨a, ha, rfl, x, hx, rfl⟩ := Bst_src h
    rw [Int.add_comm]
    exact .cons ha (Bst_walk hx)
theorem Bst_min {l : List Arc} {t : Nat} : ∀ {k i : Nat} {x : Int}, Wk l t i k x → ∃ y, Bst l t k i = some y ∧ y ≤ x
  | 0, i, x, h => by
    obtain ⟨rfl, rfl⟩ := h.zero
    exact ⟨0, by simp [Bst], Int.le_refl _⟩
  | k + 1, _, _, .cons ha h => by
    obtain ⟨y, h1, h2⟩ := Bst_min h
    obtain ⟨z, h3, h4⟩ := foldG_min (Bst l t k) l (fun _ => none) ha h1
    exact ⟨z, h3, by omega⟩
/-- as short as can be -/
def Tight (l : List Arc) (t i k : Nat) (x : Int) : Prop := Wk l t i k x ∧ ∀ k' x', Wk l t i k' x' → x ≤ x'
/-- and by as few arcs -/
def Few (l : List Arc) (t i k : Nat) : Prop := (∃ x, Tight l t i k x) ∧ ∀ k' x', k' < k → ¬ Tight l t i k' x'
theorem few_of {l : List Arc} {t i : Nat} : ∀ (k : Nat) {x : Int}, Tight l t i k x → ∃ m, m ≤ k ∧ Few l t i m := by
  intro k
  induction k using Nat.strongRecOn with
  | _ k ih =>
    intro x h
    by_cases hm : ∃ k' x', k' < k ∧ Tight l t i k' x'
    · obtain ⟨k', x', h1, h2⟩ := hm
      obtain ⟨m, h3, h4⟩ := ih k' h1 h2
      exact ⟨m, by omega, h4⟩
    · exact ⟨k, Nat.le_refl _, ⟨x, h⟩, fun k' x' h1 h2 => hm ⟨k', x', h1, h2⟩⟩
/-- the nodes of such a walk are all different -/
theorem Few.nodes {l : List Arc} {t N : Nat} (hN : ∀ a ∈ l, aF a < N) (ht : t < N) : ∀ (k : Nat) {i : Nat}, Few l t i k → ∃ L : List Nat, L.Nodup ∧ L.length = k + 1 ∧ (∀ j ∈ L, j < N) ∧ ∀ j ∈ L, ∃ m, m ≤ k ∧ Few l t j m
  | 0, i, h => by
    obtain ⟨x, hx⟩ := h.1
    obtain ⟨rfl, _⟩ := hx.1.zero
    exact ⟨[i], by simp, rfl, fun j hj => by simp at hj; subst hj; exact ht, fun j hj => by simp at hj; subst hj; exact ⟨0, Nat.le_refl _, h⟩⟩
  | k + 1, i, h => by
    obtain ⟨x, hx, hmin⟩ := h.1
    have hw := hx
    cases hx with
    | @cons a _ x ha hr =>
      have htl : Tight l t (aT a) k x := ⟨hr, fun k' x' h' => by have := hmin _ _ (.cons ha h'); omega⟩
      have hfl : Few l t (aT a) k := ⟨⟨x, htl⟩, fun k' x' h1 h2 => h.2 (k' + 1) (aW a + x') (by omega) ⟨.cons ha h2.1, fun k2 x2 h3 => by
        have := hmin k2 x2 h3
        have := h2.2 _ _ hr
        omega⟩⟩
      obtain ⟨L, h1, h2, h3, h4⟩ := Few.nodes hN ht k hfl
      refine ⟨aF a :: L, List.nodup_cons.2 ⟨fun hm => ?_, h1⟩, by simp [h2], fun j hj => ?_, fun j hj => ?_⟩
      · obtain ⟨m, hm1, hm2⟩ := h4 _ hm
        obtain ⟨x', hx'⟩ := hm2.1
        exact h.2 m x' (by omega) hx'
      · rcases List.mem_cons.1 hj with rfl | hj
        · exact hN a ha
        · exact h3 j hj
      · rcases List.mem_cons.1 hj with rfl | hj
        · exact ⟨k + 1, Nat.le_refl _, h⟩
        · obtain ⟨m, hm1, hm2⟩ := h4 j hj
          exact ⟨m, by omega, hm2⟩
theorem Few.lt {l : List Arc} {t N k i : Nat} (hN : ∀ a ∈ l, aF a < N) (ht : t < N) (h : Few l t i k) : k < N := by
  obtain ⟨L, h1, h2, h3, _⟩ := Few.nodes hN ht k h
  have := h1.length_le_of_subset (l₂ := List.range N) fun j hj => List.mem_range.2 (h3 j hj)
  simp at this
  omega
/-- what Far tells, and the rows: there is a first row that tells the same, ahead of the N-th -/
theorem bst_found {l : List Arc} {s t N : Nat} {S : BS} (hN : ∀ a ∈ l, aF a < N) (ht : t < N) (hS : Still l S) (hw : Walked l s S) (hs : S.T s = true) (h0 : S.F s = 0) (hT : S.T t = true) :
    ∃ k, k < N ∧ Bst l t k s = some (S.F t) := by
  obtain ⟨k, hk⟩ := hw t hT
  have htight : Tight l t s k (S.F t) := ⟨hk, fun k' x' h' => by have := (h'.ge hS hs).2; omega⟩
  obtain ⟨m, _, hm⟩ := few_of k htight
  have hlt := hm.lt hN ht
  obtain ⟨x, hx⟩ := hm.1
  refine ⟨m, hlt, ?_⟩
  have e : x = S.F t := by
    have h1 := hx.2 _ _ hk
    have h2 := htight.2 _ _ hx.1
    omega
  subst e
  obtain ⟨y, h1, h2⟩ := Bst_min hx.1
  have h3 := hx.2 _ _ (Bst_walk h1)
  rw [h1, show y = S.F t by omega]
/-- the walk that a list of arcs' numbers is -/
def wgo (l : List Arc) : Int → Int → List Int → Option (Int × Int)
  | at_, x, [] => some (x, at_)
  | at_, x, k :: r => if decide (0 ≤ k) && decide (k < l.length) && ((aat l k.toNat).1 == at_) then wgo l (aat l k.toNat).2.1 (x + (aat l k.toNat).2.2.2) r else none
theorem wgo_wk {l : List Arc} (hl : ∀ a ∈ l, ∃ f t : Nat, a.1 = (f : Int) ∧ a.2.1 = (t : Int)) : ∀ (m : List Int) (i : Nat) (x y e : Int), wgo l i x m = some (y, e) → ∃ (k j : Nat), e = (j : Int) ∧ Wk l j i k (y - x)
  | [], i, x, y, e, h => by
    simp only [wgo, Option.some.injEq, Prod.mk.injEq] at h
    obtain ⟨rfl, rfl⟩ := h
    exact ⟨0, i, rfl, by rw [Int.sub_self]; exact .nil⟩
  | k :: r, i, x, y, e, h => by
    unfold wgo at h
    split at h
    · rename_i hc
      simp only [Bool.and_eq_true, decide_eq_true_eq, beq_iff_eq] at hc
      obtain ⟨⟨h1, h2⟩, h3⟩ := hc
      have hm := aat_mem (l := l) (k := k.toNat) (by omega)
      obtain ⟨f, t, hf, ht⟩ := hl _ hm
      rw [ht] at h
      obtain ⟨k', j, rfl, hw⟩ := wgo_wk hl r t _ y e h
      refine ⟨k' + 1, j, rfl, ?_⟩
      have e1 : aT (aat l k.toNat) = t := by unfold aT; rw [ht]; rfl
      have e2 : aF (aat l k.toNat) = i := by unfold aF; rw [h3]; rfl
      have := Wk.cons hm (by rw [e1]; exact hw)
      rw [e2] at this
      have e3 : aW (aat l k.toNat) + (y - (x + (aat l k.toNat).2.2.2)) = y - x := by unfold aW; omega
      rw [e3] at this
      exact this
    · cases h
end Go.Proofs.Ytemcolhpghjnkaa
