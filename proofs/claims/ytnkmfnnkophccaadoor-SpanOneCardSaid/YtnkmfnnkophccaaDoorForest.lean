/- Forests: what the program asks of a list of places, by labels. -/
import Derived.Test.YtnkmfnnkophccaaDoorKruskal
import Derived.Test.YtnkmfnnkophccaaDoorWarsh
namespace Go.Proofs.YtnkmfnnkophccaaDoor
open Go.RowKit

theorem nodup_map_on {α β : Type} {f : α → β} : ∀ {l : List α}, (∀ a ∈ l, ∀ b ∈ l, f a = f b → a = b) → l.Nodup → (l.map f).Nodup
  | [], _, _ => by simp
  | a :: l, h, hn => by
    rw [List.nodup_cons] at hn
    rw [List.map_cons, List.nodup_cons]
    refine ⟨fun hm => ?_, nodup_map_on (fun x hx y hy => h x (List.mem_cons_of_mem _ hx) y (List.mem_cons_of_mem _ hy)) hn.2⟩
    obtain ⟨b, hb, e⟩ := List.mem_map.1 hm
    have := h a (by simp) b (List.mem_cons_of_mem _ hb) e.symm
    exact hn.1 (this ▸ hb)
theorem perm_of_sub {n : Nat} {p : List Nat} (hp : p.Nodup) (hlt : ∀ i ∈ p, i < n) (hl : n ≤ p.length) : p.Perm (List.range n) := by
  refine (List.perm_ext_iff_of_nodup hp List.nodup_range).2 fun a => ⟨fun ha => List.mem_range.2 (hlt a ha), fun ha => ?_⟩
  refine Classical.byContradiction fun hno => ?_
  have h1 : (p ++ [a]).Nodup := by rw [List.nodup_append]; exact ⟨hp, by simp, fun x hx b hb e => by simp at hb; subst hb; subst e; exact hno hx⟩
  have h2 := h1.length_le_of_subset (l₂ := List.range n) fun x hx => by
    rcases List.mem_append.1 hx with h | h
    · exact List.mem_range.2 (hlt x h)
    · simp at h; rw [h]; exact ha
  simp at h2; omega
theorem perm_sumI {l₁ l₂ : List Int} (h : l₁.Perm l₂) : l₁.sum = l₂.sum := by
  induction h with
  | nil => rfl
  | cons a _ ih => simp [ih]
  | swap a b l => simp; omega
  | trans _ _ h1 h2 => exact h1.trans h2
theorem lab_same {A B : List E} (h1 : ∀ e ∈ A, linkd B e) (h2 : ∀ e ∈ B, linkd A e) (i : Nat) : lab A i = lab B i := by
  have k1 := lab_into h1 i
  have k2 := lab_into h2 i
  have k3 := lab_le B (lab A i)
  have k4 := lab_le A (lab B i)
  omega
theorem adj_mem {es : List E} {e : E} (he : e ∈ es) {x y : Nat} (hx : e.1 = (x : Int)) (hy : e.2.1 = (y : Int)) : adj es x y = true :=
  List.any_eq_true.2 ⟨e, he, by unfold adjE; simp [hx, hy]⟩
theorem mem_adj {es : List E} {a b : Nat} (h : adj es a b = true) : ∃ e ∈ es, (e.1 = (a : Int) ∧ e.2.1 = (b : Int)) ∨ (e.1 = (b : Int) ∧ e.2.1 = (a : Int)) := by
  obtain ⟨e, he, h⟩ := List.any_eq_true.1 h
  exact ⟨e, he, by unfold adjE at h; simpa using h⟩
theorem cn_of_lab {N : Nat} {es : List E} (hok : ∀ e ∈ es, okE N e) : ∀ A : List E, (∀ e ∈ A, e ∈ es) → ∀ i, i < N → cn es N i (lab A i) := by
  intro A
  induction A with
  | nil => intro _ i _; exact cn_refl es N i
  | cons e A ih =>
    intro h i hi
    have ih' := ih fun x hx => h x (List.mem_cons_of_mem _ hx)
    obtain ⟨x, y, hx, hy, hxn, hyn, _⟩ := hok e (h e (by simp))
    have hxt : e.1.toNat = x := by rw [hx]; simp
    have hyt : e.2.1.toNat = y := by rw [hy]; simp
    have hadj : adj es x y = true := adj_mem (h e (by simp)) hx hy
    have l1 := lab_le A x
    have l2 := lab_le A y
    have k1 := ih' x hxn
    have k2 := ih' y hyn
    have kxy := cn_adj hadj N
    rw [lab_cons, hxt, hyt]
    by_cases hm : lab A i = max (lab A x) (lab A y)
    · rw [if_pos hm]
      have k3 := ih' i hi
      rw [hm] at k3
      -- both labels are one part
      have kl : cn es N (lab A x) (lab A y) := cn_trans es N y hyn _ _ (cn_trans es N x hxn _ _ (cn_symm es N _ _ k1) kxy) k2
      by_cases hle : lab A x ≤ lab A y
      · rw [Nat.min_eq_left hle]
        rw [Nat.max_eq_right hle] at k3
        exact cn_trans es N (lab A y) (by omega) _ _ k3 (cn_symm es N _ _ kl)
      · rw [Nat.min_eq_right (by omega)]
        rw [Nat.max_eq_left (by omega)] at k3
        exact cn_trans es N (lab A x) (by omega) _ _ k3 kl
    · rw [if_neg hm]; exact ih' i hi
theorem lab_of_cn {N : Nat} {es : List E} {i j : Nat} (h : cn es N i j) : lab es i = lab es j :=
  cn_least (R := fun a b => lab es a = lab es b) (fun _ => rfl) (fun _ _ _ h1 h2 => h1.trans h2) (fun a b hab => by
    obtain ⟨e, he, hor⟩ := mem_adj hab
    have := lab_edge es e he
    rcases hor with ⟨h1, h2⟩ | ⟨h1, h2⟩
    · rw [h1, h2] at this; simpa using this
    · rw [h1, h2] at this; simpa using this.symm) N i j h
theorem isPart_lab {N : Nat} {es : List E} (hok : ∀ e ∈ es, okE N e) {i p : Nat} (hi : i < N) (hp : IsPart es N i p) : p = lab es i := by
  have h1 := lab_of_cn hp.has
  have h2 := lab_le es p
  have h3 := cn_of_lab hok es (fun _ h => h) i hi
  rcases Nat.lt_trichotomy p (lab es i) with h | h | h
  · omega
  · exact h
  · exact absurd h3 (hp.least _ h)
theorem unl_lab (N : Nat) (A : List E) : unl ((List.range N).map fun i => ((lab A i : Nat) : Int)) = rts N A := by
  unfold unl rts
  rw [List.length_map, List.length_range]
  unfold cntB
  congr 1
  apply List.filter_congr
  intro i hi
  have hi := List.mem_range.1 hi
  have hg : ∀ j, j < N → ((List.range N).map fun i => ((lab A i : Nat) : Int)).getD j 0 = ((lab A j : Nat) : Int) := fun j hj => by simp [List.getD, hj]
  rw [hg i hi, Bool.eq_iff_iff]
  simp only [Bool.not_eq_true', List.contains_eq_any_beq, List.any_eq_false, beq_iff_eq]
  constructor
  · intro h
    have h1 := lab_le A i
    by_cases he : lab A i = i
    · exact he
    · exfalso
      have hl : lab A i < i := by omega
      refine h ((lab A i : Nat) : Int) ?_ rfl
      rw [List.mem_take_iff_getElem]
      refine ⟨lab A i, by simp; omega, ?_⟩
      simp only [List.getElem_map, List.getElem_range, lab_lab]
  · intro he y hy hye
    obtain ⟨q, hq, rfl⟩ := List.mem_take_iff_getElem.1 hy
    simp only [List.getElem_map, List.getElem_range] at hye
    simp at hq
    have := lab_le A q
    omega
/-- what is asked of a forest -/
structure IsFor (es : List E) (N : Nat) (l : List Nat) : Prop where
  ins : ∀ i ∈ l, i < es.length
  one : l.Nodup
  par : ∀ i, i < N → lab (l.map (eAt es)) i = lab es i
  cnt : l.length + rts N es = N
section
variable {es : List E} {N : Nat} {G : Nat → Nat}
theorem rts_congr {A B : List E} (h : ∀ i, i < N → lab A i = lab B i) : rts N A = rts N B := by
  unfold rts cntB
  congr 1
  apply List.filter_congr
  intro i hi
  rw [h i (List.mem_range.1 hi)]
theorem IsFor.free {l : List Nat} (h : IsFor es N l) : Free N (l.map (eAt es)) := by
  have h1 := rts_congr h.par
  have h2 := h.cnt
  unfold Free
  rw [List.length_map]; omega
theorem eAt_ok (hok : ∀ e ∈ es, okE N e) {i : Nat} (hi : i < es.length) : (eAt es i).1.toNat < N ∧ (eAt es i).2.1.toNat < N := by
  obtain ⟨x, y, hx, hy, hxn, hyn, _⟩ := hok (eAt es i) (by unfold eAt; rw [List.getD, List.getElem?_eq_getElem hi]; exact List.getElem_mem _)
  rw [hx, hy]; simp; exact ⟨hxn, hyn⟩
theorem fu_perm {n : Nat} (hG : Fu n G) : ((List.range n).map G).Perm (List.range n) := by
  refine perm_of_sub (nodup_map_on (fun a ha b hb he => hG.2 a b (List.mem_range.1 ha) (List.mem_range.1 hb) he) List.nodup_range) (fun x hx => ?_) (by simp)
  obtain ⟨k, hk, rfl⟩ := List.mem_map.1 hx
  exact hG.1 k (List.mem_range.1 hk)
theorem fu_onto {n : Nat} (hG : Fu n G) {i : Nat} (hi : i < n) : ∃ k, k < n ∧ G k = i := by
  have := (fu_perm hG).mem_iff.2 (List.mem_range.2 hi)
  obtain ⟨k, hk, he⟩ := List.mem_map.1 this
  exact ⟨k, List.mem_range.1 hk, he⟩
theorem kr_for (hok : ∀ e ∈ es, okE N e) (hG : Fu es.length G) : IsFor es N (kr es G es.length) := by
  have hsame : ∀ i, lab ((kr es G es.length).map (eAt es)) i = lab es i := lab_same (fun e he => by
      obtain ⟨i, hi, rfl⟩ := List.mem_map.1 he
      obtain ⟨j, hj, rfl⟩ := kr_mem hi
      refine linkd_mem ?_
      unfold eAt
      rw [List.getD, List.getElem?_eq_getElem (hG.1 j hj)]; exact List.getElem_mem _) (fun e he => by
      obtain ⟨i, hi, rfl⟩ := List.getElem_of_mem he
      obtain ⟨k, hk, hke⟩ := fu_onto hG hi
      have := kr_link (es := es) (G := G) (k := es.length) hk
      rw [hke] at this
      unfold eAt at this
      rwa [List.getD, List.getElem?_eq_getElem hi] at this)
  refine ⟨fun i hi => ?_, kr_nodup hG (Nat.le_refl _), fun i _ => hsame i, ?_⟩
  · obtain ⟨j, hj, rfl⟩ := kr_mem hi
    exact hG.1 j hj
  · have h1 := kr_free (es := es) (N := N) (G := G) (fun i hi => eAt_ok hok hi) hG (Nat.le_refl _)
    have h2 : rts N (krE es G es.length) = rts N es := rts_congr fun i _ => hsame i
    unfold Free krE at h1
    unfold krE at h2
    rw [List.length_map] at h1
    omega
theorem IsFor.perm {l l' : List Nat} (h : IsFor es N l) (hp : l'.Perm l) : IsFor es N l' := by
  refine ⟨fun i hi => h.ins i (hp.mem_iff.1 hi), hp.nodup_iff.2 h.one, fun i hi => ?_, by rw [hp.length_eq]; exact h.cnt⟩
  rw [← h.par i hi]
  exact lab_same (fun e he => linkd_mem ((hp.map _).mem_iff.1 he)) (fun e he => linkd_mem ((hp.map _).mem_iff.2 he)) i
def wgt (es : List E) (l : List Nat) : Int := (l.map fun i => (eAt es i).2.2).sum
theorem wsum_filter (l : List Nat) : ∀ k, wsum es G l k = wgt es (((List.range k).map G).filter fun i => decide (i ∈ l)) ∧ incnt G l k = (((List.range k).map G).filter fun i => decide (i ∈ l)).length
  | 0 => ⟨rfl, rfl⟩
  | k + 1 => by
    obtain ⟨h1, h2⟩ := wsum_filter l k
    rw [wsum, incnt, h1, h2, List.range_succ, List.map_append, List.filter_append]
    unfold wgt
    rw [List.map_append, List.sum_append, List.length_append]
    by_cases h : G k ∈ l <;> simp [h]
theorem kruskal_law (hok : ∀ e ∈ es, okE N e) (hG : Fu es.length G) (hS : Sr (fun i => (eAt es i).2.2) 0 es.length G) {l : List Nat} (hl : IsFor es N l) : wgt es (kr es G es.length) ≤ wgt es l := by
  have hk := kr_for hok hG
  obtain ⟨t, ht⟩ : ∃ t : Int, ∀ j, j < es.length → (eAt es (G j)).2.2 ≤ t := by
    have key : ∀ k, ∃ t : Int, ∀ j, j < k → (eAt es (G j)).2.2 ≤ t := fun k => by
      induction k with
      | zero => exact ⟨0, fun j hj => by omega⟩
      | succ k ih =>
        obtain ⟨t, ht⟩ := ih
        refine ⟨max t (eAt es (G k)).2.2, fun j hj => ?_⟩
        by_cases e : j = k
        · subst e; omega
        · have := ht j (by omega); omega
    exact key _
  have h1 := (kruskal (N := N) (fun i hi => eAt_ok hok hi) hG hS hl.one hl.free es.length (Nat.le_refl _)).2 t ht
  obtain ⟨h2, h3⟩ := wsum_filter (es := es) (G := G) l es.length
  have hp : (((List.range es.length).map G).filter fun i => decide (i ∈ l)).Perm l := by
    refine (List.perm_ext_iff_of_nodup (((fu_perm hG).nodup_iff.2 List.nodup_range).filter _) hl.one).2 fun i => ?_
    rw [List.mem_filter, decide_eq_true_eq]
    exact ⟨fun h => h.2, fun h => ⟨(fu_perm hG).mem_iff.2 (List.mem_range.2 (hl.ins i h)), h⟩⟩
  have h4 : wgt es (((List.range es.length).map G).filter fun i => decide (i ∈ l)) = wgt es l := perm_sumI (hp.map _)
  have h5 := hp.length_eq
  have h6 := hl.cnt
  have h7 := hk.cnt
  have h8 : ((krE es G es.length).map fun e => e.2.2).sum = wgt es (kr es G es.length) := by
    unfold wgt krE
    rw [List.map_map]; rfl
  rw [h8, h2, h4, show (incnt G l es.length : Int) - ((kr es G es.length).length : Int) = 0 by omega, Int.mul_zero] at h1
  omega
end
end Go.Proofs.YtnkmfnnkophccaaDoor
