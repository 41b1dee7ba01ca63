/- GraphLinked: the plain law. -/
import Derived.Test.YtnpgnohnpbdblaaDoorSpreadLaw
import Derived.Test.YtnpgnohnpbdblaaDoorAdj
namespace Go.Proofs.YtnpgnohnpbdblaaDoor
open Go.RowKit

def cntB (n : Nat) (p : Nat → Bool) : Nat := ((List.range n).filter p).length
theorem cntB_succ (n : Nat) (p : Nat → Bool) : cntB (n + 1) p = cntB n p + if p n then 1 else 0 := by
  unfold cntB
  rw [List.range_succ, List.filter_append, List.length_append]
  cases h : p n <;> simp [h]
theorem cntB_le {n : Nat} {p q : Nat → Bool} (h : ∀ i, i < n → p i = true → q i = true) : cntB n p ≤ cntB n q := by
  induction n with
  | zero => simp [cntB]
  | succ n ih =>
    rw [cntB_succ, cntB_succ]
    have := ih fun i hi => h i (by omega)
    have hn := h n (by omega)
    cases hp : p n
    · simp; omega
    · rw [hn hp]; simp; omega
theorem cntB_but {n : Nat} {p q : Nat → Bool} (a : Nat) (h : ∀ i, i < n → i ≠ a → p i = true → q i = true) : cntB n p ≤ cntB n q + 1 := by
  induction n with
  | zero => simp [cntB]
  | succ n ih =>
    by_cases hna : n = a
    · subst hna
      have := cntB_le (n := n) (p := p) (q := q) fun i hi => h i (by omega) (by omega)
      rw [cntB_succ, cntB_succ]
      split <;> split <;> omega
    · rw [cntB_succ, cntB_succ]
      have := ih fun i hi => h i (by omega)
      have hn := h n (by omega) hna
      cases hp : p n
      · simp; omega
      · rw [hn hp]; simp; omega
/-- the parts, made edge by edge -/
def lab : List E → Nat → Nat
  | [] => id
  | e :: es => fun i => if lab es i = max (lab es e.1.toNat) (lab es e.2.1.toNat) then min (lab es e.1.toNat) (lab es e.2.1.toNat) else lab es i
theorem lab_le : ∀ (es : List E) (i : Nat), lab es i ≤ i
  | [], _ => Nat.le_refl _
  | e :: es, i => by
    have := lab_le es i
    simp only [lab]
    split <;> omega
theorem lab_edge : ∀ (es : List E) (e : E), e ∈ es → lab es e.1.toNat = lab es e.2.1.toNat
  | [], _, h => by simp at h
  | e' :: es, e, h => by
    rcases List.mem_cons.1 h with rfl | h
    · simp only [lab]
      split <;> split <;> omega
    · have := lab_edge es e h
      simp only [lab, this]
theorem lab_roots (n : Nat) : ∀ es : List E, n ≤ cntB n (fun i => lab es i == i) + es.length
  | [] => by
    have : cntB n (fun i => lab [] i == i) = n := by
      unfold cntB
      rw [List.filter_eq_self.2 (by simp [lab]), List.length_range]
    omega
  | e :: es => by
    have ih := lab_roots n es
    have := cntB_but (n := n) (p := fun i => lab es i == i) (q := fun i => lab (e :: es) i == i) (max (lab es e.1.toNat) (lab es e.2.1.toNat)) fun i _ hne hi => by
      simp only [beq_iff_eq] at hi ⊢
      simp only [lab]
      rw [if_neg (by rw [hi]; exact hne), hi]
    simp only [List.length_cons]
    omega
/-- how many of a list are not there before -/
def unl (l : List Int) : Nat := cntB l.length fun k => !(l.take k).contains (l.getD k 0)
theorem linked_edges {N : Nat} {es : List E} (h : gchk N es = 0) (g : Gr N (nearW N es)) : N ≤ es.length + unl ((List.range N).map fun i => ((part (nearW N es) i : Nat) : Int)) := by
  obtain ⟨_, _, _, hok, _⟩ := gchk_ok h
  rw [Int.toNat_natCast] at hok
  have h1 := lab_roots N es
  have hstep : ∀ j m, nb (nearW N es) j m = true → lab es j = lab es m := fun j m hjm => by
    have hj := (g.ok j m hjm).1
    unfold nb at hjm
    rw [nearW_bit es hok j m hj] at hjm
    obtain ⟨e, he, hae⟩ := List.any_eq_true.1 hjm
    have := lab_edge es e he
    unfold adjE at hae
    simp at hae
    rcases hae with ⟨p, q⟩ | ⟨p, q⟩
    · rw [p, q] at this; simpa using this
    · rw [p, q] at this; simpa using this.symm
  have hr : ∀ i, i < N → ∀ k m, Rch (nearW N es) k i m → lab es i = lab es m := fun i hi k => by
    induction k with
    | zero => intro m h; rw [Rch.zero] at h; rw [h]
    | succ k ih =>
      intro m h
      rcases (Rch.succ g hi).1 h with h | ⟨j, h1, h2⟩
      · exact ih m h
      · exact (ih j h1).trans (hstep j m h2)
  have h2 : cntB N (fun i => lab es i == i) ≤ unl ((List.range N).map fun i => ((part (nearW N es) i : Nat) : Int)) := by
    unfold unl
    rw [List.length_map, List.length_range]
    refine cntB_le fun i hi hl => ?_
    simp only [beq_iff_eq] at hl
    obtain ⟨p1, p2, _⟩ := part_at g hi
    have hpi : part (nearW N es) i = i := by
      rcases far_cases g (j := part (nearW N es) i) hi with ⟨q, _⟩ | ⟨k, _, _, q, _⟩
      · omega
      · have := hr i hi k _ q
        have := lab_le es (part (nearW N es) i)
        omega
    have hg : ((List.range N).map fun i => ((part (nearW N es) i : Nat) : Int)).getD i 0 = (i : Int) := by
      simp [List.getD, hi, hpi]
    rw [hg]
    simp only [Bool.not_eq_true', List.contains_eq_any_beq, List.any_eq_false, beq_iff_eq]
    intro y hy he
    rw [← List.map_take, List.take_range] at hy
    simp only [List.mem_map, List.mem_range] at hy
    obtain ⟨j, hj, rfl⟩ := hy
    have := (part_at g (i := j) (by omega)).1
    omega
  omega
end Go.Proofs.YtnpgnohnpbdblaaDoor
