/- Parts, made edge by edge (XLinkLaw's plain half, for seats without graph.Near). -/
import Derived.Test.YtnkmfnnkophccaaDoorGraph
namespace Go.Proofs.YtnkmfnnkophccaaDoor
open Go.RowKit

def cntB (n : Nat) (p : Nat → Bool) : Nat := ((List.range n).filter p).length
theorem cntB_succ (n : Nat) (p : Nat → Bool) : cntB (n + 1) p = cntB n p + if p n then 1 else 0 := by
  unfold cntB
  rw [List.range_succ, List.filter_append, List.length_append]
  cases h : p n <;> simp [h]
theorem cntB_le {n : Nat} {p q : Nat → Bool} (h : ∀ i, i < n → p i = true → q i = true) : cntB n p ≤ cntB n q := by
  induction n with
  | zero => simp [cntB]
  | succ n ih =>
    rw [cntB_succ, cntB_succ]
    have := ih fun i hi => h i (by omega)
    have hn := h n (by omega)
    cases hp : p n
    · simp; omega
    · rw [hn hp]; simp; omega
theorem cntB_but {n : Nat} {p q : Nat → Bool} (a : Nat) (h : ∀ i, i < n → i ≠ a → p i = true → q i = true) : cntB n p ≤ cntB n q + 1 := by
  induction n with
  | zero => simp [cntB]
  | succ n ih =>
    by_cases hna : n = a
    · subst hna
      have := cntB_le (n := n) (p := p) (q := q) fun i hi => h i (by omega) (by omega)
      rw [cntB_succ, cntB_succ]
      split <;> split <;> omega
    · rw [cntB_succ, cntB_succ]
      have := ih fun i hi => h i (by omega)
      have hn := h n (by omega) hna
      cases hp : p n
      · simp; omega
      · rw [hn hp]; simp; omega
/-- the parts, made edge by edge -/
def lab : List E → Nat → Nat
  | [] => id
  | e :: es => fun i => if lab es i = max (lab es e.1.toNat) (lab es e.2.1.toNat) then min (lab es e.1.toNat) (lab es e.2.1.toNat) else lab es i
theorem lab_le : ∀ (es : List E) (i : Nat), lab es i ≤ i
  | [], _ => Nat.le_refl _
  | e :: es, i => by
    have := lab_le es i
    simp only [lab]
    split <;> omega
theorem lab_edge : ∀ (es : List E) (e : E), e ∈ es → lab es e.1.toNat = lab es e.2.1.toNat
  | [], _, h => by simp at h
  | e' :: es, e, h => by
    rcases List.mem_cons.1 h with rfl | h
    · simp only [lab]
      split <;> split <;> omega
    · have := lab_edge es e h
      simp only [lab, this]
theorem lab_roots (n : Nat) : ∀ es : List E, n ≤ cntB n (fun i => lab es i == i) + es.length
  | [] => by
    have : cntB n (fun i => lab [] i == i) = n := by
      unfold cntB
      rw [List.filter_eq_self.2 (by simp [lab]), List.length_range]
    omega
  | e :: es => by
    have ih := lab_roots n es
    have := cntB_but (n := n) (p := fun i => lab es i == i) (q := fun i => lab (e :: es) i == i) (max (lab es e.1.toNat) (lab es e.2.1.toNat)) fun i _ hne hi => by
      simp only [beq_iff_eq] at hi ⊢
      simp only [lab]
      rw [if_neg (by rw [hi]; exact hne), hi]
    simp only [List.length_cons]
    omega
/-- how many of a list are not there before -/
def unl (l : List Int) : Nat := cntB l.length fun k => !(l.take k).contains (l.getD k 0)
end Go.Proofs.YtnkmfnnkophccaaDoor
