/- A crew in memory, behind changes. -/
import Derived.Test.YticffbcbfgboeaaCrewA
namespace Go.Proofs.Yticffbcbfgboeaa
open Go.RowKit Go.Shelf

section
variable {cb ns : Nat} {vw vs : Value} {s : CS} {cs : List Int} {vC vW vT : Value} {tv : List Value} {W W' : World}
theorem own_apart {r : Option Nat} {b e sz n : Nat} {v : Value} {xs : List Value} (h : W.ownsRow b e sz v n xs) (hg : W.grownBy W' r) (hne : ∀ q, v.ownBlock = some q → r ≠ some q) : W'.ownsRow b e sz v n xs :=
  h.kept hg (by
    cases hb : v.ownBlock with
    | none => exact .inl rfl
    | some q => exact .inr (fun e => hne q hb e.symm))
/-- another word of those who are in -/
theorem CM.setIn (h : CM cb ns vw vs s cs vC vW vT tv W) (x : Nat) : CM cb ns vw vs ⟨x, s.wants, s.tasks⟩ cs vC vW vT tv (W.setCell ⟨cb, 3, none⟩ (.int .u32 (x : Int))) := by
  have hg := grown_setA W cb 3 (.int .u32 (x : Int))
  have hne : ∀ {e n : Nat} {v : Value} {xs : List Value}, W.ownsRow (cb + 1) e 1 v n xs → ∀ q, v.ownBlock = some q → (some cb : Option Nat) ≠ some q := fun ho q hq e => by
    have := (ho.lt q hq).1
    cases e; omega
  exact ⟨h.bk.set 3 _, own_apart h.co hg (hne h.co), own_apart h.wa hg (hne h.wa), own_apart h.ta hg (hne h.ta), fun k hk => own_apart (h.tk k hk) hg (hne (h.tk k hk)), h.dw, h.dt⟩
theorem getD_set {α : Type} (l : List α) (k j : Nat) (x d : α) (hk : k < l.length) : (l.set k x).getD j d = if j = k then x else l.getD j d := by
  simp only [List.getD]
  by_cases e : j = k
  · subst e; rw [if_pos rfl, List.getElem?_set_self hk]; rfl
  · rw [if_neg e, List.getElem?_set_ne (Ne.symm e)]
/-- another list of one service -/
theorem CM.putT (h : CM cb ns vw vs s cs vC vW vT tv W) (htl : s.tasks.length = ns) {k gT c : Nat} (hk : k < ns) (hvT : vT = .slice (some ⟨gT, 0, none⟩) ns c) {r : Option Nat} (hg : W.grownBy W' r) (hr : r = none ∨ r = (tv.getD k undef).ownBlock)
    {v' : Value} {xs' : List Int} (ho : W'.ownsRow (cb + 1) 3 1 v' xs'.length (ints .i64 xs')) (hv' : ∀ q, v'.ownBlock = some q → (tv.getD k undef).ownBlock = some q ∨ W.heap.size ≤ q) :
    CM cb ns vw vs ⟨s.inn, s.wants, s.tasks.set k xs'⟩ cs vC vW vT (tv.set k v') (W'.setCell ⟨gT, k, none⟩ v') := by
  subst hvT
  have htvl : tv.length = ns := by have := h.ta.1; omega
  have hgT := h.ta.lt gT rfl
  have hr' : ∀ q, r = some q → (tv.getD k undef).ownBlock = some q := fun q e => by
    rcases hr with h | h
    · rw [h] at e; cases e
    · rw [← h]; exact e
  -- apart from the row of k
  have a1 : ∀ {e n : Nat} {v : Value} {xs : List Value}, W.ownsRow (cb + 1) e 1 v n xs → e ≠ 3 → ∀ q, v.ownBlock = some q → r ≠ some q := fun ho hne q hq e => own_types ho (h.tk k hk) hne hq (hr' q e)
  have hcr : some cb ≠ r := fun e => by have := ((h.tk k hk).lt cb (hr' cb e.symm)).1; omega
  have c1 := own_apart h.co hg (a1 h.co (by decide))
  have w1 := own_apart h.wa hg (fun q hq e => h.dw k hk q (hr' q e) hq)
  have t1 := own_apart h.ta hg (a1 h.ta (by decide))
  have k1 : ∀ j, j < ns → j ≠ k → W'.ownsRow (cb + 1) 3 1 (tv.getD j undef) (s.tasks.getD j []).length (ints .i64 (s.tasks.getD j [])) := fun j hj hjk => own_apart (h.tk j hj) hg (fun q hq e => h.dt j k hj hk hjk q hq (hr' q e))
  have hs := t1.stored k v'
  have b2 := (h.bk.kept hg hcr).kept hs.2 (fun e => by cases e; omega)
  have a2 : ∀ {e n : Nat} {v : Value} {xs : List Value}, W'.ownsRow (cb + 1) e 1 v n xs → e ≠ 29 → ∀ q, v.ownBlock = some q → (some gT : Option Nat) ≠ some q := fun ho hne q hq e => own_types ho t1 hne hq e
  refine ⟨b2, own_apart c1 hs.2 (a2 c1 (by decide)), own_apart w1 hs.2 (a2 w1 (by decide)), hs.1, fun j hj => ?_, fun j hj g hgj => ?_, fun i j hi hj hij g hgi => ?_⟩
  · rw [getD_set _ _ _ _ _ (by omega), getD_set _ _ _ _ _ (by omega)]
    by_cases e : j = k
    · rw [if_pos e, if_pos e]
      exact own_apart ho hs.2 (a2 ho (by decide))
    · rw [if_neg e, if_neg e]
      exact own_apart (k1 j hj e) hs.2 (a2 (k1 j hj e) (by decide))
  · rw [getD_set _ _ _ _ _ (by omega)] at hgj
    by_cases e : j = k
    · rw [if_pos e] at hgj
      rcases hv' g hgj with h1 | h1
      · exact h.dw k hk g h1
      · intro e2
        have := (h.wa.lt g e2).2
        omega
    · rw [if_neg e] at hgj
      exact h.dw j hj g hgj
  · rw [getD_set _ _ _ _ _ (by omega)] at hgi ⊢
    by_cases e : i = k
    · rw [if_pos e] at hgi
      rw [if_neg (by omega)]
      rcases hv' g hgi with h1 | h1
      · exact h.dt k j hk hj (by omega) g h1
      · intro e2
        have := ((h.tk j hj).lt g e2).2
        omega
    · rw [if_neg e] at hgi
      by_cases e3 : j = k
      · rw [if_pos e3]
        intro e2
        rcases hv' g e2 with h1 | h1
        · exact h.dt i k hi hk e g hgi h1
        · have := ((h.tk i hi).lt g hgi).2
          omega
      · rw [if_neg e3]
        exact h.dt i j hi hj hij g hgi
end
end Go.Proofs.Yticffbcbfgboeaa
