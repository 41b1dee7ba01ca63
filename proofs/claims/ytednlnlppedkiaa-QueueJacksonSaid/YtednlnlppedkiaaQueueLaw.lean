/- JOHNSON, SMITH, JACKSON: an order in which each two stand well ends as early as any. No program in sight. -/
import Derived.Test.YtednlnlppedkiaaTwoA
import Derived.Test.YtednlnlppedkiaaOrders
namespace Go.Proofs.Ytednlnlppedkiaa
open Go.RowKit

section
variable {σ α : Type} {step : σ → α → σ} {le : σ → σ → Prop}
theorem fold_mono (hm : ∀ {s t} x, le s t → le (step s x) (step t x)) : ∀ (l : List α) {s t : σ}, le s t → le (l.foldl step s) (l.foldl step t)
  | [], _, _, h => h
  | x :: l, _, _, h => fold_mono hm l (hm x h)
theorem move_front (hr : ∀ s, le s s) (ht : ∀ {a b c}, le a b → le b c → le a c) (hm : ∀ {s t} x, le s t → le (step s x) (step t x)) {a : α} : ∀ (y1 y2 : List α) (s : σ), (∀ b ∈ y1, ∀ s, le (step (step s a) b) (step (step s b) a)) →
    le ((a :: (y1 ++ y2)).foldl step s) ((y1 ++ a :: y2).foldl step s)
  | [], _, _, _ => hr _
  | b :: y1, y2, s, h => by
    have h1 : le ((y1 ++ y2).foldl step (step (step s a) b)) ((y1 ++ y2).foldl step (step (step s b) a)) := fold_mono hm _ (h b (by simp) s)
    exact ht h1 (move_front hr ht hm y1 y2 (step s b) fun c hc => h c (by simp [hc]))
theorem exch (hr : ∀ s, le s s) (ht : ∀ {a b c}, le a b → le b c → le a c) (hm : ∀ {s t} x, le s t → le (step s x) (step t x)) {R : α → α → Prop} (hR : ∀ i j, R i j → ∀ s, le (step (step s i) j) (step (step s j) i)) :
    ∀ (x y : List α) (s : σ), x.Pairwise R → y.Perm x → le (x.foldl step s) (y.foldl step s)
  | [], y, s, _, hp => by obtain rfl := hp.eq_nil; exact hr s
  | a :: x, y, s, hx, hp => by
    obtain ⟨y1, y2, rfl⟩ := List.append_of_mem (hp.mem_iff.2 (List.mem_cons_self (a := a) (l := x)))
    have hp2 : (y1 ++ y2).Perm x := (List.perm_cons a).1 (List.perm_middle.symm.trans hp)
    rw [List.pairwise_cons] at hx
    have h1 := exch hr ht hm hR x (y1 ++ y2) (step s a) hx.2 hp2
    exact ht h1 (move_front hr ht hm y1 y2 s fun b hb => hR a b (hx.1 b (hp2.mem_iff.1 (by simp [hb]))))
end
/-- which goes ahead of which -/
def JR (fs ss : List Int) (i j : Nat) : Prop := (fs.getD i 0 ≤ fs.getD j 0 ∧ fs.getD i 0 ≤ ss.getD i 0) ∨ (ss.getD j 0 ≤ fs.getD j 0 ∧ ss.getD j 0 ≤ ss.getD i 0)
theorem tend_best {fs ss : List Int} {x y : List Nat} (hx : x.Pairwise (JR fs ss)) (hp : y.Perm x) : tend fs ss (natI x) ≤ tend fs ss (natI y) := by
  have h := exch (step := fun p (i : Nat) => tstep fs ss p i) (le := fun s t => s.1 = t.1 ∧ s.2 ≤ t.2) (R := JR fs ss) (fun _ => ⟨rfl, Int.le_refl _⟩) (fun h h' => ⟨h.1.trans h'.1, Int.le_trans h.2 h'.2⟩)
    (fun {s t} z h => by
      obtain ⟨h1, h2⟩ := h
      simp only [tstep, h1, true_and]
      split <;> split <;> omega)
    (fun i j hR s => by
      unfold JR at hR
      simp only [tstep, Int.toNat_natCast]
      generalize fs.getD i 0 = fi at *
      generalize fs.getD j 0 = fj at *
      generalize ss.getD i 0 = si at *
      generalize ss.getD j 0 = sj at *
      refine ⟨by omega, ?_⟩
      split <;> split <;> split <;> split <;> omega) x y (0, 0) hx hp
  unfold tend tfold natI
  rw [List.foldl_map, List.foldl_map]
  exact h.2
/-- JOHNSON's order, made one by one -/
def gr (fs ss : List Int) (i : Nat) : Nat := if fs.getD i 0 < ss.getD i 0 then 0 else 1
structure JI (fs ss : List Int) (n t : Nat) (o : List Nat) : Prop where
  nd : o.Nodup
  lt : ∀ i ∈ o, i < n
  pw : o.Pairwise (JR fs ss)
  fut : ∀ x ∈ o, ∀ j, j < n → j ∉ o → JR fs ss x j
  grp : ∀ j, j < n → gr fs ss j < t → j ∈ o
def Cand (fs ss : List Int) (t : Nat) (o : List Nat) (i : Nat) : Prop := i ∉ o ∧ gr fs ss i = t
def Bet (fs ss : List Int) (t i b : Nat) : Prop := if t = 0 then fs.getD i 0 < fs.getD b 0 else ss.getD b 0 < ss.getD i 0
def BSt (fs ss : List Int) (t : Nat) (o : List Nat) (k : Nat) (v : Int) : Prop :=
  (v = -1 ∧ ∀ j, j < k → ¬ Cand fs ss t o j) ∨ ∃ b : Nat, v = b ∧ b < k ∧ Cand fs ss t o b ∧ ∀ j, j < k → Cand fs ss t o j → ¬ Bet fs ss t j b
section
variable {fs ss : List Int} {n t k : Nat} {o : List Nat} {v : Int}
theorem BSt.zero : BSt fs ss t o 0 (-1) := .inl ⟨rfl, fun _ h => absurd h (by omega)⟩
theorem BSt.skip (h : BSt fs ss t o k v) (hc : ¬ Cand fs ss t o k) : BSt fs ss t o (k + 1) v := by
  rcases h with ⟨h1, h2⟩ | ⟨b, h1, h2, h3, h4⟩
  · exact .inl ⟨h1, fun j hj => by rcases Nat.lt_or_ge j k with h | h; · exact h2 j h
                                   · obtain rfl : j = k := by omega
                                     exact hc⟩
  · exact .inr ⟨b, h1, by omega, h3, fun j hj hcj => by rcases Nat.lt_or_ge j k with h | h; · exact h4 j h hcj
                                                        · obtain rfl : j = k := by omega
                                                          exact absurd hcj hc⟩
theorem BSt.first (h : BSt fs ss t o k (-1)) (hc : Cand fs ss t o k) : BSt fs ss t o (k + 1) k := by
  rcases h with ⟨_, h2⟩ | ⟨b, h1, _⟩
  · refine .inr ⟨k, rfl, by omega, hc, fun j hj hcj => ?_⟩
    rcases Nat.lt_or_ge j k with h | h
    · exact absurd hcj (h2 j h)
    · obtain rfl : j = k := by omega
      unfold Bet; split <;> omega
  · omega
theorem BSt.better {b : Nat} (h : BSt fs ss t o k b) (hc : Cand fs ss t o k) (hb : Bet fs ss t k b) : BSt fs ss t o (k + 1) k := by
  rcases h with ⟨h1, _⟩ | ⟨b', h1, h2, h3, h4⟩
  · omega
  · obtain rfl : b = b' := by omega
    refine .inr ⟨k, rfl, by omega, hc, fun j hj hcj => ?_⟩
    rcases Nat.lt_or_ge j k with h | h
    · have := h4 j h hcj
      unfold Bet at *
      split at this <;> rename_i ht
      · rw [if_pos ht] at hb ⊢; omega
      · rw [if_neg ht] at hb ⊢; omega
    · obtain rfl : j = k := by omega
      unfold Bet; split <;> omega
theorem BSt.keep {b : Nat} (h : BSt fs ss t o k b) (hb : ¬ Bet fs ss t k b) : BSt fs ss t o (k + 1) b := by
  rcases h with ⟨h1, _⟩ | ⟨b', h1, h2, h3, h4⟩
  · omega
  · obtain rfl : b = b' := by omega
    refine .inr ⟨b, rfl, by omega, h3, fun j hj hcj => ?_⟩
    rcases Nat.lt_or_ge j k with h | h
    · exact h4 j h hcj
    · obtain rfl : j = k := by omega
      exact hb
theorem JI.start : JI fs ss n 0 [] := ⟨by simp, by simp, by simp, by simp, fun _ _ h => absurd h (by omega)⟩
theorem gr_le (i : Nat) : gr fs ss i < 2 := by unfold gr; split <;> omega
theorem JI.push (h : JI fs ss n t o) {b : Nat} (hb : BSt fs ss t o n b) (ht : t < 2) : JI fs ss n t (o ++ [b]) := by
  rcases hb with ⟨h1, _⟩ | ⟨b', h1, h2, h3, h4⟩
  · omega
  obtain rfl : b = b' := by omega
  refine ⟨?_, ?_, ?_, ?_, ?_⟩
  · rw [List.nodup_append]; exact ⟨h.nd, by simp, fun a ha c hc e => by simp at hc; subst hc; subst e; exact h3.1 ha⟩
  · intro i hi
    rcases List.mem_append.1 hi with hi | hi
    · exact h.lt i hi
    · simp at hi; omega
  · rw [List.pairwise_append]
    exact ⟨h.pw, by simp, fun a ha c hc => by simp at hc; subst hc; exact h.fut a ha _ h2 h3.1⟩
  · intro x hx j hj hjo
    simp only [List.mem_append, List.mem_singleton, not_or] at hjo
    rcases List.mem_append.1 hx with hx | hx
    · exact h.fut x hx j hj hjo.1
    · simp at hx; subst hx
      have hg := h3.2
      have hj2 : ¬ gr fs ss j < t := fun hlt => hjo.1 (h.grp j hj hlt)
      have hj3 := gr_le (fs := fs) (ss := ss) j
      have hc : gr fs ss j = t → ¬ Bet fs ss t j x := fun e => h4 j hj ⟨hjo.1, e⟩
      unfold JR
      unfold Bet at hc
      unfold gr at hg hj2 hj3 hc
      split at hg <;> split at hj2 <;> rename_i q1 q2
      · subst hg
        rw [if_pos q2] at hc
        have := hc rfl
        simp only [if_true] at this; omega
      · omega
      · omega
      · subst hg
        rw [if_neg q2] at hc
        have := hc rfl
        simp only [reduceIte, show ¬ (1 = 0) by omega] at this; omega
  · exact fun j hj hlt => List.mem_append_left _ (h.grp j hj hlt)
theorem no_cand (h : JI fs ss n t o) (hl : n ≤ o.length) : ∀ j, j < n → ¬ Cand fs ss t o j := fun _ hj hc => hc.1 ((perm_of_sub h.nd h.lt hl).mem_iff.2 (List.mem_range.2 hj))
theorem JI.turn (h : JI fs ss n t o) (hno : ∀ j, j < n → ¬ Cand fs ss t o j) : JI fs ss n (t + 1) o :=
  ⟨h.nd, h.lt, h.pw, h.fut, fun j hj hlt => by
    rcases Nat.lt_or_ge (gr fs ss j) t with h1 | h1
    · exact h.grp j hj h1
    · exact Classical.byContradiction fun hno2 => hno j hj ⟨hno2, by omega⟩⟩
theorem JI.all (h : JI fs ss n 2 o) : o.Perm (List.range n) := (List.perm_ext_iff_of_nodup h.nd List.nodup_range).2 fun a => ⟨fun ha => List.mem_range.2 (h.lt a ha), fun ha => h.grp a (List.mem_range.1 ha) (gr_le a)⟩
end
end Go.Proofs.Ytednlnlppedkiaa
