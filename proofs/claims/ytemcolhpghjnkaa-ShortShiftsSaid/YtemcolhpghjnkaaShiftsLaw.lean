/- Johnson's heights: the plain law. -/
import Derived.Test.YtemcolhpghjnkaaBellman
namespace Go.Proofs.Ytemcolhpghjnkaa
open Go.RowKit

def shift (h : Nat → Int) (a : Arc) : Arc := (a.1, a.2.1, a.2.2.1, a.2.2.2 + h (aF a) - h (aT a))
def Cp (h : Nat → Int) (s : Nat) (S S' : BS) : Prop := S'.T = S.T ∧ S'.b = S.b ∧ ∀ i, S.T i = true → S'.F i = S.F i + h s - h i
theorem shift_F (h : Nat → Int) (a : Arc) : aF (shift h a) = aF a := rfl
theorem shift_T (h : Nat → Int) (a : Arc) : aT (shift h a) = aT a := rfl
theorem shift_W (h : Nat → Int) (a : Arc) : aW (shift h a) = aW a + h (aF a) - h (aT a) := rfl
theorem Cp.relax {h : Nat → Int} {s : Nat} {S S' : BS} (c : Cp h s S S') (a : Arc) : Cp h s (relax S a) (relax S' (shift h a)) := by
  obtain ⟨c1, c2, c3⟩ := c
  have hb : bett S' (shift h a) = bett S a := by
    unfold bett
    rw [shift_F, shift_T, shift_W, c1]
    cases hf : S.T (aF a)
    · rfl
    · cases ht : S.T (aT a)
      · rfl
      · rw [c3 _ hf, c3 _ ht]
        simp only [Bool.true_and, Bool.not_true, Bool.false_or]
        rw [decide_eq_decide]
        omega
  unfold Go.Proofs.Ytemcolhpghjnkaa.relax
  rw [hb]
  by_cases hq : bett S a = true
  · rw [if_pos hq, if_pos hq, shift_F, shift_T, shift_W]
    have hf : S.T (aF a) = true := by unfold bett at hq; simp at hq; exact hq.1
    refine ⟨by rw [c1], rfl, fun i hi => ?_⟩
    by_cases h1 : i = aT a
    · subst h1
      simp only [upd_same]
      rw [c3 _ hf]; omega
    · simp only [upd_other _ _ h1] at hi ⊢
      exact c3 i hi
  · rw [if_neg hq, if_neg hq]
    exact ⟨c1, c2, c3⟩
theorem Cp.sweep {h : Nat → Int} {s : Nat} : ∀ {l : List Arc} {S S' : BS}, Cp h s S S' → Cp h s (sweep S l) (sweep S' (l.map (shift h))) := by
  intro l
  induction l with
  | nil => exact fun c => c
  | cons a r ih => exact fun c => ih (c.relax a)
theorem Cp.run {h : Nat → Int} {s : Nat} {l : List Arc} : ∀ (k : Nat) {S S' : BS}, Cp h s S S' → (bfRun (l.map (shift h)) k S').2 = (bfRun l k S).2 ∧ Cp h s (bfRun l k S).1 (bfRun (l.map (shift h)) k S').1
  | 0, _, _, c => ⟨rfl, c⟩
  | k + 1, S, S', c => by
    have cs : Cp h s (Go.Proofs.Ytemcolhpghjnkaa.sweep (begun S) l) (Go.Proofs.Ytemcolhpghjnkaa.sweep (begun S') (l.map (shift h))) := Cp.sweep ⟨c.1, rfl, c.2.2⟩
    rw [bfRun, bfRun, cs.2.1]
    split
    · exact Cp.run k cs
    · exact ⟨rfl, cs⟩
theorem shifts {h : Nat → Int} {s : Nat} (l : List Arc) (k : Nat) : (bfRun (l.map (shift h)) k (bfInit s)).2 = (bfRun l k (bfInit s)).2 ∧ (bfRun (l.map (shift h)) k (bfInit s)).1.T = (bfRun l k (bfInit s)).1.T ∧
    ∀ i, (bfRun l k (bfInit s)).1.T i = true → (bfRun (l.map (shift h)) k (bfInit s)).1.F i = (bfRun l k (bfInit s)).1.F i + h s - h i := by
  have c0 : Cp h s (bfInit s) (bfInit s) := ⟨rfl, rfl, fun i hi => by simp [bfInit] at hi; subst hi; omega⟩
  obtain ⟨h1, h2, _, h3⟩ := Cp.run (l := l) k c0
  exact ⟨h1, h2, h3⟩
end Go.Proofs.Ytemcolhpghjnkaa
