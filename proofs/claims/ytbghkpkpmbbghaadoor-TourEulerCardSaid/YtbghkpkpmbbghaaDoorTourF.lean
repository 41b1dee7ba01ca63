/- TourEuler: the two loops of the law in plain words. -/
import Derived.Test.YtbghkpkpmbbghaaDoorTourE
import Derived.Test.YtbghkpkpmbbghaaDoorInside
import Derived.Test.YtbghkpkpmbbghaaDoorNatI
namespace Go.Proofs.YtbghkpkpmbbghaaDoor
open Go.RowKit

section
variable {n : Nat} {ns : List Nat}
/-- the law's first loop: may, part -/
def LawI (ns : List Nat) (i : Nat) (m : Bool) (q : Int) : Prop := ∃ a, FstI ns i a ∧ (m = true ↔ LawT ns a i) ∧ ((ns.getD a 0 ≠ 0 ∧ a < i ∧ q = part ns a) ∨ ((∀ j, j < i → ns.getD j 0 = 0) ∧ q = -1))
theorem LawI.zero : LawI ns 0 true (-1) := ⟨0, FstI.zero, by simp [LawT], .inr ⟨fun j hj => absurd hj (by omega), rfl⟩⟩
theorem lawT_succ {a i : Nat} : LawT ns a (i + 1) ↔ LawT ns a i ∧ popc 10 (ns.getD i 0) % 2 = 0 ∧ (ns.getD i 0 = 0 ∨ part ns i = part ns a) := by
  constructor
  · exact fun h => ⟨fun j hj => h j (by omega), h i (by omega)⟩
  · rintro ⟨h1, h2⟩ j hj
    by_cases e : j = i
    · rw [e]; exact h2
    · exact h1 j (by omega)
theorem popc_nil (g : Gr n ns) (i : Nat) : popc 10 (ns.getD i 0) = 0 ↔ ns.getD i 0 = 0 := by
  constructor
  · intro h
    refine Nat.eq_of_testBit_eq fun j => ?_
    rw [Nat.zero_testBit]
    by_cases hj : j < 10
    · cases hb : (ns.getD i 0).testBit j
      · rfl
      · have : 0 < popc 10 (ns.getD i 0) := by
          unfold popc
          exact List.length_pos_of_mem (List.mem_filter.2 ⟨List.mem_range.2 hj, hb⟩)
        omega
    · exact Nat.testBit_lt_two_pow (Nat.lt_of_lt_of_le (g.lt i) (Nat.pow_le_pow_right (by omega) (by have := g.n10; omega)))
  · intro h; rw [h]; exact popc_zero 10
/-- a node that makes the part -/
theorem LawI.new (g : Gr n ns) {i : Nat} {m : Bool} {q : Int} (h : LawI ns i m q) (hq : q < 0) (h0 : popc 10 (ns.getD i 0) ≠ 0) : m = true ∧ LawI ns (i + 1) (decide (popc 10 (ns.getD i 0) % 2 = 0)) (part ns i) := by
  have h0' : ns.getD i 0 ≠ 0 := fun e => h0 ((popc_nil g i).2 e)
  obtain ⟨a, hF, hm, hc⟩ := h
  rcases hc with ⟨_, _, rfl⟩ | ⟨hz, rfl⟩
  · omega
  · refine ⟨hm.2 fun j hj => ?_, i, .inl ⟨h0', hz, by omega⟩, ?_, .inl ⟨h0', by omega, rfl⟩⟩
    · rw [hz j hj]; exact ⟨by simp [popc_zero], .inl rfl⟩
    · rw [lawT_succ, decide_eq_true_iff]
      constructor
      · exact fun h => ⟨fun j hj => by rw [hz j hj]; exact ⟨by simp [popc_zero], .inl rfl⟩, h, .inr rfl⟩
      · exact fun h => h.2.1
/-- any other node -/
theorem LawI.old (g : Gr n ns) {i : Nat} {m : Bool} {q : Int} (h : LawI ns i m q) (h0 : popc 10 (ns.getD i 0) = 0 ∨ 0 ≤ q) : LawI ns (i + 1) (m && decide (popc 10 (ns.getD i 0) % 2 = 0) && (decide (popc 10 (ns.getD i 0) = 0) || decide ((part ns i : Int) = q))) q := by
  obtain ⟨a, hF, hm, hc⟩ := h
  rw [popc_nil g i] at h0
  refine ⟨a, hF.same (by rcases hc with ⟨h1, _⟩ | ⟨_, rfl⟩; exact .inr h1; exact .inl (by omega)), ?_, ?_⟩
  · rw [lawT_succ, Bool.and_eq_true, Bool.and_eq_true, Bool.or_eq_true, hm, decide_eq_true_iff, decide_eq_true_iff, decide_eq_true_iff, popc_nil g i, and_assoc]
    rcases hc with ⟨h1, h2, rfl⟩ | ⟨hz, rfl⟩
    · rw [Int.ofNat_inj]
    · have h00 : ns.getD i 0 = 0 := by omega
      constructor
      · exact fun h => ⟨h.1, h.2.1, .inl h00⟩
      · exact fun h => ⟨h.1, h.2.1, .inl h00⟩
  · rcases hc with ⟨h1, h2, rfl⟩ | ⟨hz, rfl⟩
    · exact .inl ⟨h1, by omega, rfl⟩
    · refine .inr ⟨fun j hj => ?_, rfl⟩
      by_cases e : j = i
      · rw [e]; omega
      · exact hz j (by omega)
theorem LawI.end_ (g : Gr n ns) (h1 : 0 < n) {m : Bool} {q : Int} (h : LawI ns n m q) : m = true ↔ TourC n ns := by
  obtain ⟨a, hF, hm, _⟩ := h
  rw [hm, tourC_iff g hF h1]
end
/-- the law's second loop -/
structure TgI (n : Nat) (L : List Nat) (k : Nat) (fs : List E) : Prop where
  ok : OkL (n : Int) fs
  wk : ∃ r, Wk (adj fs) (L.drop (k - 1)) r ∧ ∀ x y, r x y = false
  k1 : 1 ≤ k
theorem TgI.start {n : Nat} {ns : List Nat} {es : List E} {L : List Nat} (hok : OkL (n : Int) es) (hnb : nb ns = adj es) (hP : TourP n ns L) : TgI n L 1 es ∧ es.length + 1 = L.length ∧ L.getD 0 0 = L.getD (L.length - 1) 0 ∧ insideB n (natI L) = true := by
  obtain ⟨h1, h2, h3, r, h4, h5⟩ := hP
  rw [hnb] at h4
  refine ⟨⟨hok, ⟨r, h4, h5⟩, by omega⟩, h4.count hok rfl h5, ?_, ?_⟩
  · cases L with
    | nil => exact absurd rfl h1
    | cons a l =>
      rw [List.head?_cons, List.getLast?_eq_getElem?] at h2
      simpa [List.getD] using h2
  · unfold insideB natI
    rw [List.all_map, List.all_eq_true]
    intro x hx
    have := h3 x hx
    simp [inB]
    omega
theorem TgI.find {n k : Nat} {L : List Nat} {fs : List E} (h : TgI n L k fs) (hk : k < L.length) : ∃ i, ∃ hi : i < fs.length, adjE (L.getD (k - 1) 0) (L.getD k 0) fs[i] = true := by
  obtain ⟨r, hw, _⟩ := h.wk
  have hk1 := h.k1
  rw [List.drop_eq_getElem_cons (by omega), show k - 1 + 1 = k by omega, List.drop_eq_getElem_cons hk] at hw
  cases hw with
  | step haj _ =>
    obtain ⟨e, he, h2⟩ := List.any_eq_true.1 haj
    obtain ⟨i, hi, rfl⟩ := List.mem_iff_getElem.1 he
    refine ⟨i, hi, ?_⟩
    simpa [List.getD, hk, show k - 1 < L.length by omega] using h2
theorem TgI.next {n k : Nat} {L : List Nat} {fs : List E} (h : TgI n L k fs) (hk : k < L.length) {i : Nat} (hi : i < fs.length) (ha : adjE (L.getD (k - 1) 0) (L.getD k 0) (fs.getD i (0, 0, 0)) = true) : TgI n L (k + 1) (fs.eraseIdx i) := by
  obtain ⟨r, hw, h0⟩ := h.wk
  have hk1 := h.k1
  rw [show fs.getD i (0, 0, 0) = fs[i] by simp [List.getD, hi]] at ha
  rw [List.drop_eq_getElem_cons (by omega), show k - 1 + 1 = k by omega, List.drop_eq_getElem_cons hk] at hw
  have e1 : L.getD (k - 1) 0 = L[k - 1]'(by omega) := by simp [List.getD, show k - 1 < L.length by omega]
  have e2 : L.getD k 0 = L[k] := by simp [List.getD, hk]
  rw [e1, e2] at ha
  cases hw with
  | step haj hw =>
    refine ⟨erase_okL h.ok hi, ⟨r, ?_, h0⟩, by omega⟩
    rw [erase_rem h.ok hi ha, Nat.add_sub_cancel, List.drop_eq_getElem_cons hk]
    exact hw
/-- the law's inner loop: the last edge that is meant -/
def AtI (a b : Nat) (fs : List E) (i : Nat) (t : Int) : Prop := (t = -1 ∧ ∀ j, j < i → adjE a b (fs.getD j (0, 0, 0)) = false) ∨ ∃ j : Nat, t = j ∧ j < i ∧ adjE a b (fs.getD j (0, 0, 0)) = true
theorem AtI.zero {a b : Nat} {fs : List E} : AtI a b fs 0 (-1) := .inl ⟨rfl, fun j hj => absurd hj (by omega)⟩
theorem AtI.yes {a b i : Nat} {fs : List E} (h : adjE a b (fs.getD i (0, 0, 0)) = true) : AtI a b fs (i + 1) i := .inr ⟨i, rfl, by omega, h⟩
theorem AtI.no {a b i : Nat} {fs : List E} {t : Int} (h : AtI a b fs i t) (h0 : adjE a b (fs.getD i (0, 0, 0)) = false) : AtI a b fs (i + 1) t := by
  rcases h with ⟨h1, h2⟩ | ⟨j, h1, h2, h3⟩
  · refine .inl ⟨h1, fun j hj => ?_⟩
    by_cases e : j = i
    · rw [e]; exact h0
    · exact h2 j (by omega)
  · exact .inr ⟨j, h1, by omega, h3⟩
theorem AtI.end_ {n k : Nat} {L : List Nat} {fs : List E} {t : Int} (h : AtI (L.getD (k - 1) 0) (L.getD k 0) fs fs.length t) (hT : TgI n L k fs) (hk : k < L.length) : ∃ j : Nat, t = j ∧ j < fs.length ∧ TgI n L (k + 1) (fs.eraseIdx j) := by
  rcases h with ⟨_, h2⟩ | ⟨j, h1, h2, h3⟩
  · obtain ⟨i, hi, h⟩ := hT.find hk
    have := h2 i hi
    rw [show fs.getD i (0, 0, 0) = fs[i] by simp [List.getD, hi], h] at this
    cases this
  · exact ⟨j, h1, h2, hT.next hk h2 h3⟩
end Go.Proofs.YtbghkpkpmbbghaaDoor
