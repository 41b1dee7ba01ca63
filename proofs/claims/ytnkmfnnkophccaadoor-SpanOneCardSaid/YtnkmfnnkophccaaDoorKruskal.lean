/- Forests by labels; Kruskal's and Jarnik's laws: plain. -/
import Derived.Test.YtnkmfnnkophccaaDoorLabB
import Derived.Test.YtnkmfnnkophccaaDoorMergeLaw
namespace Go.Proofs.YtnkmfnnkophccaaDoor
open Go.RowKit

/-- how many labels there are -/
def rts (n : Nat) (A : List E) : Nat := cntB n fun i => lab A i == i
def linkd (A : List E) (e : E) : Prop := lab A e.1.toNat = lab A e.2.1.toNat
theorem lab_cons (e : E) (A : List E) (i : Nat) : lab (e :: A) i = if lab A i = max (lab A e.1.toNat) (lab A e.2.1.toNat) then min (lab A e.1.toNat) (lab A e.2.1.toNat) else lab A i := rfl
theorem lab_lab : ∀ (A : List E) (i : Nat), lab A (lab A i) = lab A i
  | [], _ => rfl
  | e :: A, i => by
    have ih := lab_lab A
    have hm : lab A (min (lab A e.1.toNat) (lab A e.2.1.toNat)) = min (lab A e.1.toNat) (lab A e.2.1.toNat) := by
      by_cases hx : lab A e.1.toNat ≤ lab A e.2.1.toNat
      · rw [Nat.min_eq_left hx, ih]
      · rw [Nat.min_eq_right (by omega), ih]
    rw [lab_cons e A i]
    by_cases h : lab A i = max (lab A e.1.toNat) (lab A e.2.1.toNat)
    · rw [if_pos h, lab_cons, hm]; split <;> rfl
    · rw [if_neg h, lab_cons, ih, if_neg h]
theorem lab_into {A B : List E} : (∀ e ∈ A, linkd B e) → ∀ i, lab B (lab A i) = lab B i := by
  induction A with
  | nil => intro _ i; rfl
  | cons e A ih =>
    intro h i
    have ih' := ih fun x hx => h x (List.mem_cons_of_mem _ hx)
    have he : lab B e.1.toNat = lab B e.2.1.toNat := h e (by simp)
    simp only [lab]
    by_cases hm : lab A i = max (lab A e.1.toNat) (lab A e.2.1.toNat)
    · rw [if_pos hm]
      have k1 := ih' e.1.toNat
      have k2 := ih' e.2.1.toNat
      have k3 := ih' i
      by_cases hx : lab A e.1.toNat ≤ lab A e.2.1.toNat
      · rw [Nat.min_eq_left hx, k1, he, ← k2, ← k3, hm, Nat.max_eq_right hx]
      · rw [Nat.min_eq_right (by omega), k2, ← he, ← k1, ← k3, hm, Nat.max_eq_left (by omega)]
    · rw [if_neg hm]; exact ih' i
theorem lab_sub {A B : List E} (h : ∀ e ∈ A, linkd B e) {i j : Nat} (hij : lab A i = lab A j) : lab B i = lab B j := by
  rw [← lab_into h i, hij, lab_into h j]
theorem rts_le {A B : List E} (n : Nat) (h : ∀ e ∈ A, linkd B e) : rts n B ≤ rts n A :=
  cntB_le fun i _ hi => by
    simp only [beq_iff_eq] at hi ⊢
    have h1 := lab_le A i
    have h2 := lab_into h i
    have h3 := lab_le B (lab A i)
    omega
theorem linkd_mem {A : List E} {e : E} (h : e ∈ A) : linkd A e := lab_edge A e h
theorem linkd_mono {A : List E} {e x : E} (h : linkd A e) : linkd (x :: A) e := by
  unfold linkd at h ⊢
  simp only [lab]
  rw [h]
theorem rts_cons_ge (n : Nat) (e : E) (A : List E) : rts n A ≤ rts n (e :: A) + 1 :=
  cntB_but (max (lab A e.1.toNat) (lab A e.2.1.toNat)) fun i _ hne hi => by
    simp only [beq_iff_eq] at hi ⊢
    simp only [lab]
    rw [if_neg (by rw [hi]; exact hne), hi]
theorem rts_append_ge (n : Nat) : ∀ (Y X : List E), rts n X ≤ rts n (Y ++ X) + Y.length
  | [], X => by simp
  | e :: Y, X => by
    have := rts_append_ge n Y X
    have := rts_cons_ge n e (Y ++ X)
    simp only [List.cons_append, List.length_cons]
    omega
theorem rts_nil (n : Nat) : rts n [] = n := by
  unfold rts cntB
  rw [List.filter_eq_self.2 (by simp [lab]), List.length_range]
theorem cntB_strict {n : Nat} {p q : Nat → Bool} {a : Nat} (ha : a < n) (hp : p a = false) (hq : q a = true) (h : ∀ i, i < n → p i = true → q i = true) : cntB n p + 1 ≤ cntB n q := by
  induction n with
  | zero => omega
  | succ n ih =>
    rw [cntB_succ, cntB_succ]
    by_cases e : a = n
    · subst e
      have := cntB_le (n := a) (p := p) (q := q) fun i hi => h i (by omega)
      rw [hp, hq]; simp; omega
    · have := ih (by omega) fun i hi => h i (by omega)
      have hn := h n (by omega)
      cases hpn : p n
      · simp; split <;> omega
      · rw [hn hpn]; simp; omega
theorem rts_cons_lt {n : Nat} {e : E} {A : List E} (ha : e.1.toNat < n) (hb : e.2.1.toNat < n) (h : ¬ linkd A e) : rts n (e :: A) + 1 = rts n A := by
  have h1 := rts_cons_ge n e A
  have h2 : rts n (e :: A) + 1 ≤ rts n A := by
    have l1 := lab_le A e.1.toNat
    have l2 := lab_le A e.2.1.toNat
    refine cntB_strict (a := max (lab A e.1.toNat) (lab A e.2.1.toNat)) (by omega) ?_ ?_ fun i _ hi => ?_
    · have hmm : lab A (max (lab A e.1.toNat) (lab A e.2.1.toNat)) = max (lab A e.1.toNat) (lab A e.2.1.toNat) := by
        by_cases hx : lab A e.1.toNat ≤ lab A e.2.1.toNat
        · rw [Nat.max_eq_right hx, lab_lab]
        · rw [Nat.max_eq_left (by omega), lab_lab]
      simp only [lab, hmm, if_true, beq_eq_false_iff_ne]
      unfold linkd at h
      omega
    · by_cases hx : lab A e.1.toNat ≤ lab A e.2.1.toNat
      · rw [Nat.max_eq_right hx, lab_lab]; simp
      · rw [Nat.max_eq_left (by omega), lab_lab]; simp
    · simp only [beq_iff_eq, lab] at hi ⊢
      by_cases hm : lab A i = max (lab A e.1.toNat) (lab A e.2.1.toNat)
      · rw [if_pos hm] at hi
        have := lab_le A i
        omega
      · rw [if_neg hm] at hi; exact hi
  omega
/-- a list of edges without a ring -/
def Free (n : Nat) (A : List E) : Prop := rts n A + A.length = n
theorem free_part {n : Nat} {X Y A : List E} (hA : Free n A) (hp : A.Perm (Y ++ X)) : X.length + rts n X ≤ n := by
  have h1 := rts_append_ge n Y X
  have h2 : rts n (Y ++ X) ≤ rts n A := rts_le n fun e he => linkd_mem (hp.mem_iff.1 he)
  have h3 := hp.length_eq
  rw [List.length_append] at h3
  unfold Free at hA
  omega
def eAt (es : List E) (k : Nat) : E := es.getD k (0, 0, 0)
instance (A : List E) (e : E) : Decidable (linkd A e) := inferInstanceAs (Decidable (_ = _))
/-- what is taken of the first k in the order G, the last first -/
def kr (es : List E) (G : Nat → Nat) : Nat → List Nat
  | 0 => []
  | k + 1 => if linkd ((kr es G k).map (eAt es)) (eAt es (G k)) then kr es G k else G k :: kr es G k
section
variable {es : List E} {G : Nat → Nat} {N n : Nat}
def krE (es : List E) (G : Nat → Nat) (k : Nat) : List E := (kr es G k).map (eAt es)
theorem kr_mem : ∀ {k i : Nat}, i ∈ kr es G k → ∃ j, j < k ∧ i = G j
  | k + 1, i, h => by
    unfold kr at h
    split at h
    · obtain ⟨j, hj, he⟩ := kr_mem h
      exact ⟨j, by omega, he⟩
    · rcases List.mem_cons.1 h with rfl | h
      · exact ⟨k, by omega, rfl⟩
      · obtain ⟨j, hj, he⟩ := kr_mem h
        exact ⟨j, by omega, he⟩
theorem kr_link : ∀ {k j : Nat}, j < k → linkd (krE es G k) (eAt es (G j))
  | k + 1, j, h => by
    unfold krE kr
    by_cases hl : linkd ((kr es G k).map (eAt es)) (eAt es (G k))
    · rw [if_pos hl]
      by_cases e : j = k
      · subst e; exact hl
      · exact kr_link (k := k) (by omega)
    · rw [if_neg hl, List.map_cons]
      by_cases e : j = k
      · subst e; exact linkd_mem (by simp)
      · exact linkd_mono (kr_link (k := k) (by omega))
theorem kr_nodup (hG : Fu n G) : ∀ {k : Nat}, k ≤ n → (kr es G k).Nodup
  | 0, _ => by simp [kr]
  | k + 1, h => by
    unfold kr
    split
    · exact kr_nodup hG (by omega)
    · refine List.nodup_cons.2 ⟨fun hm => ?_, kr_nodup hG (by omega)⟩
      obtain ⟨j, hj, he⟩ := kr_mem hm
      have := hG.2 k j (by omega) (by omega) he
      omega
theorem kr_free (hok : ∀ i, i < n → (eAt es i).1.toNat < N ∧ (eAt es i).2.1.toNat < N) (hG : Fu n G) : ∀ {k : Nat}, k ≤ n → Free N (krE es G k)
  | 0, _ => by unfold Free krE kr; simp [rts_nil]
  | k + 1, h => by
    have ih := kr_free hok hG (k := k) (by omega)
    unfold Free krE at ih ⊢
    unfold kr
    split
    · exact ih
    · rename_i hl
      have := rts_cons_lt (n := N) (hok _ (hG.1 k (by omega))).1 (hok _ (hG.1 k (by omega))).2 hl
      rw [List.map_cons, List.length_cons]
      omega
/-- the sum of the weights of the first k that are in l -/
def wsum (es : List E) (G : Nat → Nat) (l : List Nat) : Nat → Int
  | 0 => 0
  | k + 1 => wsum es G l k + if G k ∈ l then (eAt es (G k)).2.2 else 0
def incnt (G : Nat → Nat) (l : List Nat) : Nat → Nat
  | 0 => 0
  | k + 1 => incnt G l k + if G k ∈ l then 1 else 0
theorem incnt_filter (G : Nat → Nat) (l : List Nat) (hn : l.Nodup) : ∀ {k : Nat}, (∀ p q, p < k → q < k → G p = G q → p = q) → incnt G l k = (l.filter fun i => (List.range k).any fun j => G j == i).length
  | 0, _ => by rw [List.filter_eq_nil_iff.2 (by simp)]; rfl
  | k + 1, hG => by
    rw [incnt, incnt_filter G l hn (k := k) fun p q h1 h2 => hG p q (by omega) (by omega)]
    have hno : ∀ j, j < k → G j ≠ G k := fun j hj he => by have := hG j k (by omega) (by omega) he; omega
    have key : ∀ l : List Nat, l.Nodup → (l.filter fun i => (List.range (k + 1)).any fun j => G j == i).length = (l.filter fun i => (List.range k).any fun j => G j == i).length + if G k ∈ l then 1 else 0 := by
      intro l hl
      induction l with
      | nil => simp
      | cons x l ih =>
        have hx := List.nodup_cons.1 hl
        have ih := ih hx.2
        rw [List.filter_cons, List.filter_cons]
        have hr : ((List.range (k + 1)).any fun j => G j == x) = (((List.range k).any fun j => G j == x) || (G k == x)) := by
          rw [List.range_succ, List.any_append]; simp
        rw [hr]
        by_cases he : G k = x
        · have h0 : ((List.range k).any fun j => G j == x) = false := by
            rw [List.any_eq_false]
            intro j hj
            have := hno j (List.mem_range.1 hj)
            rw [he] at this
            simp [this]
          rw [h0, if_pos (by simp [he]), if_neg (by simp), if_pos (by simp [he]), List.length_cons, ih, if_neg (by rw [he]; exact hx.1)]
        · have e2 : (G k == x) = false := by simp [he]
          rw [e2, Bool.or_false]
          have e3 : (G k ∈ x :: l) ↔ G k ∈ l := by simp [he]
          cases hb : ((List.range k).any fun j => G j == x)
          · simp only [Bool.false_eq_true, if_false, e3]; exact ih
          · simp only [if_true, List.length_cons, e3]; omega
    exact (key l hn).symm
/-- Kruskal: no other forest weighs less -/
theorem kruskal (hok : ∀ i, i < n → (eAt es i).1.toNat < N ∧ (eAt es i).2.1.toNat < N) (hG : Fu n G) (hS : Sr (fun i => (eAt es i).2.2) 0 n G) {l : List Nat} (hl : l.Nodup) (hfree : Free N (l.map (eAt es))) :
    ∀ k, k ≤ n → incnt G l k ≤ (kr es G k).length ∧ ∀ t : Int, (∀ j, j < k → (eAt es (G j)).2.2 ≤ t) → t * ((incnt G l k : Int) - ((kr es G k).length : Int)) ≤ wsum es G l k - ((krE es G k).map fun e => e.2.2).sum := by
  have hin : ∀ k, k ≤ n → incnt G l k ≤ (kr es G k).length := fun k hk => by
    rw [incnt_filter G l hl fun p q h1 h2 => hG.2 p q (by omega) (by omega)]
    have hp : (l.map (eAt es)).Perm (((l.filter fun i => !((List.range k).any fun j => G j == i)).map (eAt es)) ++ ((l.filter fun i => (List.range k).any fun j => G j == i).map (eAt es))) := by
      rw [← List.map_append]
      refine List.Perm.map _ ?_
      exact ((List.filter_append_perm (fun i => (List.range k).any fun j => G j == i) l).symm.trans List.perm_append_comm)
    have h1 := free_part hfree hp
    have h2 := kr_free (es := es) hok hG (k := k) hk
    have h3 : rts N (krE es G k) ≤ rts N ((l.filter fun i => (List.range k).any fun j => G j == i).map (eAt es)) := rts_le N fun e he => by
      obtain ⟨i, hi, rfl⟩ := List.mem_map.1 he
      have := (List.mem_filter.1 hi).2
      obtain ⟨j, hj, hje⟩ := List.any_eq_true.1 this
      rw [← beq_iff_eq.1 hje]
      exact kr_link (List.mem_range.1 hj)
    unfold Free krE at h2
    unfold krE at h3
    rw [List.length_map] at h1 h2
    omega
  intro k
  induction k with
  | zero => intro _; exact ⟨by simp [incnt], fun t _ => by simp [incnt, kr, krE, wsum]⟩
  | succ k ih =>
    intro hk
    refine ⟨hin _ hk, fun t ht => ?_⟩
    have hi := ih (by omega)
    have hw := hi.2 (eAt es (G k)).2.2 fun j hj => hS j k (by omega) hj (by omega)
    have hc := hin _ hk
    have ht' := ht k (by omega)
    generalize hwk : (eAt es (G k)).2.2 = wk at *
    have hstep : wk * ((incnt G l (k + 1) : Int) - ((kr es G (k + 1)).length : Int)) ≤ wsum es G l (k + 1) - ((krE es G (k + 1)).map fun e => e.2.2).sum := by
      have e1 : wsum es G l (k + 1) = wsum es G l k + if G k ∈ l then wk else 0 := by rw [wsum, hwk]
      have e2 : incnt G l (k + 1) = incnt G l k + if G k ∈ l then 1 else 0 := rfl
      have e3 : ((krE es G (k + 1)).map fun e => e.2.2).sum = ((krE es G k).map fun e => e.2.2).sum + wk * (((kr es G (k + 1)).length : Int) - ((kr es G k).length : Int)) := by
        unfold krE
        rw [kr]
        split
        · rw [Int.sub_self, Int.mul_zero, Int.add_zero]
        · rw [List.map_cons, List.map_cons, List.sum_cons, List.length_cons, hwk]
          rw [show (((kr es G k).length + 1 : Nat) : Int) - ((kr es G k).length : Int) = 1 by omega, Int.mul_one]; omega
      rw [e1, e2, e3]
      by_cases hm : G k ∈ l
      · rw [if_pos hm, if_pos hm]
        have : wk * (((incnt G l k + 1 : Nat) : Int) - ((kr es G (k + 1)).length : Int)) = wk * ((incnt G l k : Int) - ((kr es G k).length : Int)) + wk - wk * (((kr es G (k + 1)).length : Int) - ((kr es G k).length : Int)) := by
          rw [← Int.mul_one wk, Int.mul_assoc, Int.mul_assoc, Int.mul_assoc, ← Int.mul_add, ← Int.mul_sub]; congr 1; omega
        omega
      · rw [if_neg hm, if_neg hm]
        have : wk * (((incnt G l k + 0 : Nat) : Int) - ((kr es G (k + 1)).length : Int)) = wk * ((incnt G l k : Int) - ((kr es G k).length : Int)) - wk * (((kr es G (k + 1)).length : Int) - ((kr es G k).length : Int)) := by
          rw [← Int.mul_sub]; congr 1; omega
        omega
    refine Int.le_trans ?_ hstep
    have hneg : ((incnt G l (k + 1) : Int) - ((kr es G (k + 1)).length : Int)) ≤ 0 := by omega
    exact Int.mul_le_mul_of_nonpos_right ht' hneg
/-- Jarnik: of the edges over a cut the first one in the order is taken -/
theorem jarnik {S : Nat → Bool} {k : Nat} (hk : k < n) (hno : ∀ j, j < k → S (eAt es (G j)).1.toNat = S (eAt es (G j)).2.1.toNat) (hc : S (eAt es (G k)).1.toNat ≠ S (eAt es (G k)).2.1.toNat) : G k ∈ kr es G n := by
  have hlab : ∀ A : List E, (∀ e ∈ A, S e.1.toNat = S e.2.1.toNat) → ∀ i, S (lab A i) = S i := by
    intro A
    induction A with
    | nil => intro _ i; rfl
    | cons e A ih =>
      intro h i
      have ih' := ih fun x hx => h x (List.mem_cons_of_mem _ hx)
      have he := h e (by simp)
      simp only [lab]
      by_cases hm : lab A i = max (lab A e.1.toNat) (lab A e.2.1.toNat)
      · rw [if_pos hm]
        have k1 := ih' e.1.toNat
        have k2 := ih' e.2.1.toNat
        have k3 := ih' i
        by_cases hx : lab A e.1.toNat ≤ lab A e.2.1.toNat
        · rw [Nat.min_eq_left hx, k1, he, ← k2, ← k3, hm, Nat.max_eq_right hx]
        · rw [Nat.min_eq_right (by omega), k2, ← he, ← k1, ← k3, hm, Nat.max_eq_left (by omega)]
      · rw [if_neg hm]; exact ih' i
  have hnl : ¬ linkd ((kr es G k).map (eAt es)) (eAt es (G k)) := fun h => hc (by
    have hA : ∀ e ∈ (kr es G k).map (eAt es), S e.1.toNat = S e.2.1.toNat := fun e he => by
      obtain ⟨i, hi, rfl⟩ := List.mem_map.1 he
      obtain ⟨j, hj, rfl⟩ := kr_mem hi
      exact hno j hj
    rw [← hlab _ hA (eAt es (G k)).1.toNat, h, hlab _ hA])
  have hmono : ∀ d, G k ∈ kr es G (k + 1 + d) := fun d => by
    induction d with
    | zero => rw [Nat.add_zero, kr, if_neg hnl]; simp
    | succ d ih =>
      rw [← Nat.add_assoc, kr]
      split
      · exact ih
      · exact List.mem_cons_of_mem _ ih
  have := hmono (n - (k + 1))
  rwa [show k + 1 + (n - (k + 1)) = n by omega] at this
end
end Go.Proofs.YtnkmfnnkophccaaDoor
