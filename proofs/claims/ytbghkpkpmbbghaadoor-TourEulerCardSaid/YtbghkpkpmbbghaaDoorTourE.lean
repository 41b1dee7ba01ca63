/- TourEuler: what the law asks is what Tour tells. Plain. -/
import Derived.Test.YtbghkpkpmbbghaaDoorTourD
import Derived.Test.YtbghkpkpmbbghaaDoorPartsB
import Derived.Test.YtbghkpkpmbbghaaDoorOkL
namespace Go.Proofs.YtbghkpkpmbbghaaDoor
open Go.RowKit

theorem adj_nb {n : Nat} {es : List E} (hok : ∀ e ∈ es, okE n e) : nb (nearW n es) = adj es := by
  funext x y
  by_cases hx : x < n
  · exact nearW_bit es hok x y hx
  · have h1 : nb (nearW n es) x y = false := by
      unfold nb
      rw [show (nearW n es).getD x 0 = 0 by simp [List.getD, show (nearW n es)[x]? = none by rw [List.getElem?_eq_none_iff, nearW_length]; omega]]
      simp
    rw [h1]
    symm
    refine List.any_eq_false.2 fun e he => ?_
    obtain ⟨p, q, h2, h3, h4, h5, _⟩ := hok e he
    unfold adjE
    rw [h2, h3]
    simp
    omega
theorem erase_mem {α : Type} {l : List α} {i : Nat} (hi : i < l.length) (x : α) : x ∈ l ↔ x = l[i] ∨ x ∈ l.eraseIdx i := by
  conv => lhs; rw [← List.take_append_drop i l, List.drop_eq_getElem_cons hi]
  rw [List.eraseIdx_eq_take_drop_succ]
  simp only [List.mem_append, List.mem_cons]
  constructor
  · rintro (h | h | h)
    · exact .inr (.inl h)
    · exact .inl h
    · exact .inr (.inr h)
  · rintro (h | h | h)
    · exact .inr (.inl h)
    · exact .inl h
    · exact .inr (.inr h)
theorem fewer_ok {N : Int} {es : List E} {i : Nat} (h : gchk N es = 0) (hi : i < es.length) : gchk N (es.eraseIdx i) = 0 := by
  obtain ⟨h1, h2⟩ := gchk_iff.1 h
  refine gchk_iff.2 ⟨?_, fun e he => h2.each e ((erase_mem hi e).2 (.inr he)), h2.two.sublist (List.eraseIdx_sublist _ _)⟩
  rw [List.length_eraseIdx, if_pos hi]
  simp [glarge] at h1 ⊢
  omega
theorem adj_erase {es : List E} {i : Nat} (hi : i < es.length) (x y : Nat) : adj es x y = (adjE x y es[i] || adj (es.eraseIdx i) x y) := by
  unfold adj
  rw [Bool.eq_iff_iff, Bool.or_eq_true, List.any_eq_true, List.any_eq_true]
  constructor
  · rintro ⟨e, he, h⟩
    rcases (erase_mem hi e).1 he with rfl | he
    · exact .inl h
    · exact .inr ⟨e, he, h⟩
  · rintro (h | ⟨e, he, h⟩)
    · exact ⟨_, List.getElem_mem hi, h⟩
    · exact ⟨e, (erase_mem hi e).2 (.inr he), h⟩

section
variable {n : Nat} {ns : List Nat}
theorem part_go (g : Gr n ns) {i j : Nat} (hi : i < n) (hj : j < n) : part ns i = part ns j ↔ Go (nb ns) i j := by
  rw [part_eq g hi hj, ← ball_go g hi j, ball_far g hi, decide_eq_true_iff]
/-- what the law reckons -/
def LawT (ns : List Nat) (a i : Nat) : Prop := ∀ j, j < i → popc 10 (ns.getD j 0) % 2 = 0 ∧ (ns.getD j 0 = 0 ∨ part ns j = part ns a)
theorem tourC_iff (g : Gr n ns) {a : Nat} (hF : FstI ns n a) (h1 : 0 < n) : LawT ns a n ↔ TourC n ns := by
  have ha := hF.lt h1
  unfold LawT TourC
  constructor
  · intro h
    refine ⟨fun x hx => (h x hx).1, fun b hb => ?_⟩
    rw [hF.uniq hb]
    intro x y hxy
    have hx := (g.ok x y hxy).1
    rcases (h x hx).2 with h0 | h0
    · unfold nb at hxy; rw [h0] at hxy; simp at hxy
    · exact (part_go g ha hx).1 h0.symm
  · intro h x hx
    refine ⟨h.1 x hx, ?_⟩
    by_cases h0 : ns.getD x 0 = 0
    · exact .inl h0
    · obtain ⟨y, hy⟩ := Nat.exists_testBit_of_ne_zero h0
      exact .inr ((part_go g ha hx).2 (h.2 a hF x y hy)).symm
end
theorem adjE_of {n : Nat} {e : E} (h : okE n e) {a b x y : Nat} (hab : adjE a b e = true) : adjE x y e = true ↔ (x = a ∧ y = b) ∨ (x = b ∧ y = a) := by
  obtain ⟨p, q, h1, h2, _, _, _⟩ := h
  unfold adjE at hab ⊢
  rw [h1, h2] at hab ⊢
  simp at hab ⊢
  omega
theorem erase_rem {n : Nat} {fs : List E} (h : OkL n fs) {i a b : Nat} (hi : i < fs.length) (hab : adjE a b fs[i] = true) : adj (fs.eraseIdx i) = remE (adj fs) a b := by
  funext x y
  unfold remE
  rw [adj_erase hi x y]
  have hk := adjE_of (h.ok _ (List.getElem_mem hi)) (x := x) (y := y) hab
  by_cases e : (x = a ∧ y = b) ∨ (x = b ∧ y = a)
  · rw [decide_eq_true e, Bool.not_true, Bool.and_false]
    cases hc : adj (fs.eraseIdx i) x y
    · rfl
    · exfalso
      obtain ⟨f, hf, hxy⟩ := List.any_eq_true.1 hc
      have hxy0 : adjE x y fs[i] = true := hk.2 e
      obtain ⟨j, hj, rfl⟩ := List.mem_iff_getElem.1 hf
      rw [List.length_eraseIdx, if_pos hi] at hj
      have h2 := List.pairwise_iff_getElem.1 h.two
      have hsame : ∀ u v : E, adjE x y u = true → adjE x y v = true → sameE v u = true := fun u v h3 h4 => by
        unfold adjE at h3 h4
        unfold sameE
        simp at h3 h4 ⊢
        omega
      rw [List.getElem_eraseIdx] at hxy
      split at hxy
      · rename_i hji
        have := h2 j i (by omega) hi hji
        rw [hsame _ _ hxy hxy0] at this; cases this
      · rename_i hji
        have := h2 i (j + 1) hi (by omega) (by omega)
        rw [hsame _ _ hxy0 hxy] at this; cases this
  · rw [decide_eq_false e, Bool.not_false, Bool.and_true]
    cases hc : adjE x y fs[i]
    · rfl
    · exact absurd (hk.1 hc) e
theorem erase_okL {n : Nat} {fs : List E} (h : OkL n fs) {i : Nat} (hi : i < fs.length) : OkL n (fs.eraseIdx i) :=
  ⟨fun e he => h.each e ((erase_mem hi e).2 (.inr he)), h.two.sublist (List.eraseIdx_sublist _ _)⟩
/-- as many edges as steps -/
theorem Wk.count {n : Nat} {r r' : Nat → Nat → Bool} {L : List Nat} (h : Wk r L r') : ∀ {fs : List E}, OkL n fs → adj fs = r → (∀ x y, r' x y = false) → fs.length + 1 = L.length := by
  induction h with
  | one r a =>
    intro fs hok hr h0
    have : fs = [] := by
      cases fs with
      | nil => rfl
      | cons e l =>
        obtain ⟨p, q, h1, h2, _, _, _⟩ := hok.ok e (by simp)
        have := h0 p q
        rw [← hr] at this
        unfold adj at this
        rw [List.any_cons] at this
        unfold adjE at this
        rw [h1, h2] at this
        simp at this
    subst this; rfl
  | @step r r' a j l haj hw ih =>
    intro fs hok hr h0
    have h1 : adj fs a j = true := by rw [hr]; exact haj
    obtain ⟨e, he, h2⟩ := List.any_eq_true.1 h1
    obtain ⟨i, hi, rfl⟩ := List.mem_iff_getElem.1 he
    have := ih (erase_okL hok hi) (by rw [erase_rem hok hi h2, hr]) h0
    rw [List.length_eraseIdx, if_pos hi] at this
    simp only [List.length_cons] at this ⊢
    omega
end Go.Proofs.YtbghkpkpmbbghaaDoor
