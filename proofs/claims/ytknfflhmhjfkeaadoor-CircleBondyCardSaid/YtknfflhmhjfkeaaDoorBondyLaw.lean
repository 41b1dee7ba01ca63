/- circle.Close: the edges that come of degrees: plain. -/
import Derived.Test.YtknfflhmhjfkeaaDoorCircRing
import Derived.Test.YtknfflhmhjfkeaaDoorOkL
namespace Go.Proofs.YtknfflhmhjfkeaaDoor
open Go.RowKit

def e3 (a b : Nat) : E := ((a : Int), (b : Int), 0)
/-- from es on, edges that come of degrees, one by one -/
inductive Gw (n : Nat) (es : List E) : List E → Prop
  | refl : Gw n es es
  | snoc {fs : List E} {a b : Nat} : Gw n es fs → a < b → b < n → adj fs a b = false → n ≤ degE fs a + degE fs b → Gw n es (fs ++ [e3 a b])
/-- no edge comes any more -/
def Shut (n : Nat) (fs : List E) : Prop := ∀ a b, a < b → b < n → adj fs a b = false → degE fs a + degE fs b < n
theorem adj_add (es : List E) (e : E) (x y : Nat) : adj (es ++ [e]) x y = (adj es x y || adjE x y e) := by simp [adj]
theorem okL_len {n : Nat} (hn : n ≤ 10) {es : List E} (h : OkL n es) : 2 * es.length = ((List.range n).map (degE es)).sum := by
  have hs := sum_near hn es h.ok (okL_iff.1 h) es.length (Nat.le_refl _)
  rw [List.take_of_length_le (Nat.le_refl _)] at hs
  rw [← hs]
  have hl := nearW_length n es
  have : (nearW n es).map (popc 10) = (List.range n).map (degE es) := by
    refine List.ext_getElem (by simp [hl]) fun i h1 h2 => ?_
    simp only [List.length_map, hl] at h1
    have := deg_near hn es h.ok (okL_iff.1 h) i h1 es.length (Nat.le_refl _)
    rw [List.take_of_length_le (Nat.le_refl _)] at this
    simp only [List.getElem_map, List.getElem_range]
    rw [← this, List.getD, List.getElem?_eq_getElem (by omega)]
    rfl
  rw [this]
theorem degE_dg {n : Nat} (hn : n ≤ 10) {es : List E} (h : OkL n es) {i : Nat} (hi : i < n) : degE es i = dg (adj es) (List.range n) i := (dg_deg hn h.ok (okL_iff.1 h) hi).symm
theorem degE_lt {n : Nat} (hn : n ≤ 10) {es : List E} (h : OkL n es) {i : Nat} (hi : i < n) : degE es i ≤ n - 1 := by
  rw [degE_dg hn h hi]
  unfold dg
  have h1 : ((List.range n).filter (adj es i)).length + ((List.range n).filter fun j => !adj es i j).length = n := by
    rw [← List.countP_eq_length_filter, ← List.countP_eq_length_filter]
    have := List.length_eq_countP_add_countP (adj es i) (l := List.range n)
    simp only [List.length_range] at this
    have e : List.countP (fun j => !adj es i j) (List.range n) = List.countP (fun a => decide ¬adj es i a = true) (List.range n) := by
      congr 1
      funext j; cases adj es i j <;> rfl
    omega
  have h2 : 0 < ((List.range n).filter fun j => !adj es i j).length := List.length_pos_of_mem (List.mem_filter.2 ⟨List.mem_range.2 hi, by rw [adj_irr h.ok]; rfl⟩)
  omega
theorem okL_45 {n : Nat} (hn : n ≤ 10) {es : List E} (h : OkL n es) : es.length ≤ 45 := by
  have hl := okL_len hn h
  have : ∀ k, k ≤ n → ((List.range k).map (degE es)).sum ≤ k * 9 := by
    intro k
    induction k with
    | zero => simp
    | succ k ih =>
      intro hk
      have := ih (by omega)
      have := degE_lt hn h (show k < n by omega)
      rw [List.range_succ, List.map_append, List.sum_append]
      simp
      omega
  have := this n (Nat.le_refl _)
  omega
theorem okL_same {n : Nat} (hn : n ≤ 10) {es fs : List E} (h1 : OkL n es) (h2 : OkL n fs) (h : ∀ a b, adj es a b = adj fs a b) : es.length = fs.length := by
  have e1 := okL_len hn h1
  have e2 := okL_len hn h2
  have : (List.range n).map (degE es) = (List.range n).map (degE fs) := List.map_congr_left fun i hi => by
    rw [degE_dg hn h1 (List.mem_range.1 hi), degE_dg hn h2 (List.mem_range.1 hi)]
    unfold dg
    congr 1
    exact List.filter_congr fun j _ => h i j
  rw [this] at e1
  omega
theorem adjE_e3 (a b x y : Nat) : adjE x y (e3 a b) = ((a == x && b == y) || (a == y && b == x)) := by
  unfold adjE e3
  simp only
  have : ∀ p q : Nat, ((p : Int) == (q : Int)) = (p == q) := fun p q => by
    by_cases h : p = q
    · subst h; simp
    · rw [beq_eq_false_iff_ne.2 h, beq_eq_false_iff_ne.2 (by omega)]
  rw [this, this, this, this]
theorem okL_snoc {n : Nat} {fs : List E} {a b : Nat} (h : OkL n fs) (hab : a < b) (hb : b < n) (hno : adj fs a b = false) : OkL n (fs ++ [e3 a b]) := by
  refine ⟨fun e he => ?_, List.pairwise_append.2 ⟨h.two, by simp, fun f hf e he => ?_⟩⟩
  · rcases List.mem_append.1 he with he | he
    · exact h.each e he
    · simp at he
      subst he
      refine ⟨?_, ?_, by unfold heavyE e3; simp⟩
      · unfold outE e3; simp; omega
      · unfold e3; simp; omega
  · simp at he
    subst he
    have := List.any_eq_false.1 hno f hf
    unfold adjE at this
    unfold sameE e3
    cases hh : (f.1 == (a : Int) && f.2.1 == (b : Int) || f.1 == (b : Int) && f.2.1 == (a : Int))
    · rfl
    · exact absurd hh this
theorem Gw.ok {n : Nat} {es fs : List E} (h : Gw n es fs) (hok : OkL n es) : OkL n fs := by
  induction h with
  | refl => exact hok
  | snoc _ h1 h2 h3 _ ih => exact okL_snoc ih h1 h2 h3
theorem Gw.sub {n : Nat} {es fs : List E} (h : Gw n es fs) {x y : Nat} (hxy : adj es x y = true) : adj fs x y = true := by
  induction h with
  | refl => exact hxy
  | snoc _ _ _ _ _ ih => rw [adj_add, ih]; rfl
theorem Gw.len {n : Nat} {es fs : List E} (h : Gw n es fs) : es.length ≤ fs.length := by
  induction h with
  | refl => exact Nat.le_refl _
  | snoc _ _ _ _ _ ih => simp; omega
theorem deg_le_of {n : Nat} (hn : n ≤ 10) {es fs : List E} (h1 : OkL n es) (h2 : OkL n fs) (h : ∀ x y, adj es x y = true → adj fs x y = true) {i : Nat} (hi : i < n) : degE es i ≤ degE fs i := by
  rw [degE_dg hn h1 hi, degE_dg hn h2 hi]
  unfold dg
  rw [← List.countP_eq_length_filter, ← List.countP_eq_length_filter]
  exact List.countP_mono_left fun x _ hx => h i x hx
/-- whatever is shut, and has all of es, has all that comes of es -/
theorem Gw.least {n : Nat} (hn : n ≤ 10) {es fs hs : List E} (h : Gw n es fs) (hok : OkL n es) (hh : OkL n hs) (hS : Shut n hs) (hsub : ∀ x y, adj es x y = true → adj hs x y = true) : ∀ x y, adj fs x y = true → adj hs x y = true := by
  induction h with
  | refl => exact hsub
  | @snoc fs a b hg h1 h2 h3 h4 ih =>
    intro x y hxy
    rw [adj_add, Bool.or_eq_true] at hxy
    rcases hxy with hxy | hxy
    · exact ih x y hxy
    · have hab : adj hs a b = true := by
        cases hq : adj hs a b
        · have := hS a b h1 h2 hq
          have := deg_le_of hn (hg.ok hok) hh ih (show a < n by omega)
          have := deg_le_of hn (hg.ok hok) hh ih h2
          omega
        · rfl
      rw [adjE_e3] at hxy
      simp only [Bool.or_eq_true, Bool.and_eq_true, beq_iff_eq] at hxy
      rcases hxy with ⟨rfl, rfl⟩ | ⟨rfl, rfl⟩
      · exact hab
      · rw [adj_symm]; exact hab
/-- the closure is one thing -/
theorem gw_same {n : Nat} (hn : n ≤ 10) {es fs es' gs : List E} (h1 : Gw n es fs) (h2 : Gw n es' gs) (o1 : OkL n es) (o2 : OkL n es') (s1 : Shut n fs) (s2 : Shut n gs) (he : ∀ x y, adj es x y = true → adj gs x y = true) (he' : ∀ x y, adj es' x y = true → adj fs x y = true) :
    (∀ x y, adj fs x y = adj gs x y) ∧ fs.length = gs.length := by
  have a1 := h1.least hn o1 (h2.ok o2) s2 he
  have a2 := h2.least hn o2 (h1.ok o1) s1 he'
  have : ∀ x y, adj fs x y = adj gs x y := fun x y => by
    rw [Bool.eq_iff_iff]; exact ⟨a1 x y, a2 x y⟩
  exact ⟨this, okL_same hn (h1.ok o1) (h2.ok o2) this⟩
theorem gchk_okL {n : Nat} (hn : n ≤ 10) {es : List E} (h : OkL n es) : gchk n es = 0 := by
  refine gchk_iff.2 ⟨?_, h⟩
  have := okL_45 hn h
  simp [glarge]; omega
theorem sa_near {n : Nat} (hn : n ≤ 10) {es : List E} (h : OkL n es) : SA (nb (nearW n es)) n := by
  have g := nearGr (gchk_okL hn h)
  exact ⟨fun a b hab => (g.ok a b hab).2.2.1, fun a => by
    cases hh : nb (nearW n es) a a
    · rfl
    · exact absurd rfl (g.ok a a hh).2.2.2⟩
theorem degA_deg {n : Nat} (hn : n ≤ 10) {es : List E} (h : OkL n es) {i : Nat} (hi : i < n) : degA (nb (nearW n es)) n i = degE es i := by
  rw [degE_dg hn h hi]
  unfold degA dg
  rw [List.countP_eq_length_filter]
  congr 1
  exact List.filter_congr fun j _ => nearW_bit es h.ok i j hi
/-- BONDY, CHVATAL -/
theorem Gw.ring {n : Nat} (hn : n ≤ 10) (h3 : 3 ≤ n) {es fs : List E} (h : Gw n es fs) (hok : OkL n es) : (∃ p, Cy (nb (nearW n fs)) n p) ↔ ∃ p, Cy (nb (nearW n es)) n p := by
  induction h with
  | refl => exact Iff.rfl
  | @snoc fs a b hg h1 h2 h3' h4 ih =>
    rw [← ih]
    have hf := hg.ok hok
    have hf' := okL_snoc hf h1 h2 h3'
    have hnb : ∀ {gs : List E}, OkL n gs → ∀ x y, x < n → nb (nearW n gs) x y = adj gs x y := fun h x y hx => nearW_bit _ h.ok x y hx
    constructor
    · rintro ⟨p, hp⟩
      refine cross (u := a) (v := b) (p := p) (sa_near hn hf) h3 (by rw [degA_deg hn hf (by omega), degA_deg hn hf h2]; exact h4) ⟨hp.lt, hp.inj, fun k hk => ?_⟩
      have := hp.adj k hk
      rw [hnb hf' _ _ (hp.lt k hk), adj_add, adjE_e3, Bool.or_eq_true] at this
      unfold addA
      rw [hnb hf _ _ (hp.lt k hk)]
      rcases this with h | h
      · rw [h]; rfl
      · simp only [Bool.or_eq_true, Bool.and_eq_true, beq_iff_eq] at h ⊢
        rcases h with ⟨h1, h2⟩ | ⟨h1, h2⟩
        · exact .inl (.inr ⟨h1.symm, h2.symm⟩)
        · exact .inr ⟨h2.symm, h1.symm⟩
    · rintro ⟨p, hp⟩
      refine ⟨p, hp.lt, hp.inj, fun k hk => ?_⟩
      have := hp.adj k hk
      rw [hnb hf _ _ (hp.lt k hk)] at this
      rw [hnb hf' _ _ (hp.lt k hk), adj_add, this]
      rfl
theorem Gw.wy {n : Nat} (hn : n ≤ 10) (h3 : 3 ≤ n) {es fs : List E} (h : Gw n es fs) (hok : OkL n es) : (∃ R, Wy (nearW n fs) 0 (but0 n) R) ↔ ∃ R, Wy (nearW n es) 0 (but0 n) R := by
  constructor
  · rintro ⟨R, hR⟩
    obtain ⟨p, hp⟩ := (h.ring hn h3 hok).1 ⟨_, (wy_cy hn (by omega) hR).2⟩
    exact cy_wy hn (by omega) hp
  · rintro ⟨R, hR⟩
    obtain ⟨p, hp⟩ := (h.ring hn h3 hok).2 ⟨_, (wy_cy hn (by omega) hR).2⟩
    exact cy_wy hn (by omega) hp
theorem okL_rev {n : Nat} {es : List E} (h : OkL n es) : OkL n es.reverse :=
  ⟨fun e he => h.each e (List.mem_reverse.1 he), List.pairwise_reverse.2 (h.two.imp fun {a b} hh => by
    unfold sameE at *
    simp only [Bool.or_eq_false_iff, Bool.and_eq_false_iff, beq_eq_false_iff_ne] at *
    omega)⟩
theorem adj_rev (es : List E) (x y : Nat) : adj es.reverse x y = adj es x y := by simp [adj]
end Go.Proofs.YtknfflhmhjfkeaaDoor
