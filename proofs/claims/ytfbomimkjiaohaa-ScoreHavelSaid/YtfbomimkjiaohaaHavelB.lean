/- Havel and Hakimi, the making: what is left to be had, and what has been made. Plain. -/
import Derived.Test.YtfbomimkjiaohaaHavelLaw
import Derived.Test.YtfbomimkjiaohaaNodes
namespace Go.Proofs.Ytfbomimkjiaohaa

def sameQ (e f : Nat × Nat) : Prop := (e.1 = f.1 ∧ e.2 = f.2) ∨ (e.1 = f.2 ∧ e.2 = f.1)
def dgP (ps : List (Nat × Nat)) (x : Nat) : Nat := ps.countP fun e => e.1 == x || e.2 == x
theorem dgP_append (a b : List (Nat × Nat)) (x : Nat) : dgP (a ++ b) x = dgP a x + dgP b x := List.countP_append
theorem nodup_at {l : List Nat} (hn : l.Nodup) {i j : Nat} {hi : i < l.length} {hj : j < l.length} (e : l[i] = l[j]) : i = j := by
  have h := List.pairwise_iff_getElem.1 hn
  rcases Nat.lt_trichotomy i j with h1 | h1 | h1
  · exact absurd e (h i j hi hj h1)
  · exact h1
  · exact absurd e.symm (h j i hj hi h1)
/-- what the making holds: the edges ps have been made; of those in y each still needs nd -/
structure Hv (n : Nat) (d : Nat → Nat) (ps : List (Nat × Nat)) (y : List Nat) (nd : Nat → Nat) : Prop where
  nod : y.Nodup
  lt : ∀ x ∈ y, x < n
  ok : ∀ e ∈ ps, e.1 < n ∧ e.2 < n ∧ e.1 ≠ e.2 ∧ e.1 ∉ y
  once : ps.Pairwise fun e f => ¬ sameQ e f
  dg : ∀ x, x < n → dgP ps x + (if x ∈ y then nd x else 0) = d x
  gr : Gph (List.range n) d → Gph y nd
theorem Hv.beg (n : Nat) (d : Nat → Nat) : Hv n d [] (List.range n) d :=
  ⟨List.nodup_range, fun x hx => List.mem_range.1 hx, fun e he => (by cases he), List.Pairwise.nil, fun x hx => by rw [if_pos (List.mem_range.2 hx)]; simp [dgP], fun h => h⟩
section
variable {n : Nat} {d : Nat → Nat} {ps : List (Nat × Nat)} {y l : List Nat} {nd : Nat → Nat} {v : Nat}
theorem Hv.perm {y' : List Nat} (h : Hv n d ps y nd) (hp : y'.Perm y) : Hv n d ps y' nd :=
  ⟨hp.nodup_iff.2 h.nod, fun x hx => h.lt x (hp.mem_iff.1 hx), fun e he => ⟨(h.ok e he).1, (h.ok e he).2.1, (h.ok e he).2.2.1, fun hx => (h.ok e he).2.2.2 (hp.mem_iff.1 hx)⟩, h.once,
    fun x hx => by
      have := h.dg x hx
      by_cases e : x ∈ y
      · rw [if_pos e] at this; rw [if_pos (hp.mem_iff.2 e)]; exact this
      · rw [if_neg e] at this; rw [if_neg (fun e' => e (hp.mem_iff.1 e'))]; exact this,
    fun hg => (h.gr hg).perm hp.symm⟩
theorem cnt_star (v : Nat) : ∀ (t : List Nat), t.Nodup → v ∉ t → ∀ x, dgP (t.map fun u => (v, u)) x = if x = v then t.length else if x ∈ t then 1 else 0
  | [], _, _, x => by simp [dgP]
  | a :: t, hn, hv, x => by
    rw [List.nodup_cons] at hn
    have ih := cnt_star v t hn.2 (fun h => hv (List.mem_cons_of_mem _ h)) x
    have hva : v ≠ a := fun e => hv (e ▸ List.mem_cons_self ..)
    unfold dgP at ih ⊢
    rw [List.map_cons, List.countP_cons, ih]
    by_cases e1 : x = v
    · subst e1
      simp
    · rw [if_neg e1, if_neg e1]
      by_cases e2 : x = a
      · subst e2
        rw [if_neg hn.1, if_pos (List.mem_cons_self ..)]
        simp
      · have e3 : x ∈ a :: t ↔ x ∈ t := by rw [List.mem_cons]; exact ⟨fun h => h.resolve_left e2, .inr⟩
        have e4 : ((v, a).1 == x || (v, a).2 == x) = false := by
          simp only [Bool.or_eq_false_iff, beq_eq_false_iff_ne]
          exact ⟨fun e => e1 e.symm, fun e => e2 e.symm⟩
        rw [e4]
        by_cases e5 : x ∈ t
        · rw [if_pos e5, if_pos (e3.2 e5)]; simp
        · rw [if_neg e5, if_neg (fun h => e5 (e3.1 h))]; simp
/-- what is left when k of the next ones have got their edge -/
def lessN (l : List Nat) (k : Nat) (nd : Nat → Nat) (x : Nat) : Nat := if x ∈ l.take k then nd x - 1 else nd x
theorem Hv.next (h : Hv n d ps (v :: l) nd) (hs : l.Pairwise fun a b => nd b ≤ nd a) (hl : nd v ≤ l.length) (h1 : ∀ x ∈ l.take (nd v), 1 ≤ nd x) :
    Hv n d (ps ++ (l.take (nd v)).map fun u => (v, u)) l (lessN l (nd v) nd) := by
  have hn := List.nodup_cons.1 h.nod
  have hvn := h.lt v (List.mem_cons_self ..)
  have htn : (l.take (nd v)).Nodup := hn.2.sublist (List.take_sublist ..)
  have hvt : v ∉ l.take (nd v) := fun e => hn.1 (List.mem_of_mem_take e)
  refine ⟨hn.2, fun x hx => h.lt x (List.mem_cons_of_mem _ hx), fun e he => ?_, ?_, fun x hx => ?_, fun hg => ?_⟩
  · rcases List.mem_append.1 he with he | he
    · have := h.ok e he
      exact ⟨this.1, this.2.1, this.2.2.1, fun hx => this.2.2.2 (List.mem_cons_of_mem _ hx)⟩
    · obtain ⟨u, hu, rfl⟩ := List.mem_map.1 he
      have hul := List.mem_of_mem_take hu
      exact ⟨hvn, h.lt u (List.mem_cons_of_mem _ hul), fun e => hn.1 (show v ∈ l from (show v = u from e) ▸ hul), hn.1⟩
  · rw [List.pairwise_append]
    refine ⟨h.once, ?_, fun e he f hf => ?_⟩
    · rw [List.pairwise_map]
      refine htn.imp_of_mem fun {a b} ha hb hab hs => ?_
      rcases hs with ⟨_, e⟩ | ⟨e, _⟩
      · exact hab e
      · exact hvt (show v ∈ l.take (nd v) from (show v = b from e) ▸ hb)
    · obtain ⟨u, hu, rfl⟩ := List.mem_map.1 hf
      have he4 := (h.ok e he).2.2.2
      rintro (⟨e1, _⟩ | ⟨e1, _⟩)
      · exact he4 (e1 ▸ List.mem_cons_self ..)
      · exact he4 (e1 ▸ List.mem_cons_of_mem _ (List.mem_of_mem_take hu))
  · have h2 := h.dg x hx
    rw [dgP_append, cnt_star v _ htn hvt x]
    unfold lessN
    by_cases e1 : x = v
    · subst e1
      rw [if_pos (List.mem_cons_self ..)] at h2
      rw [if_pos rfl, if_neg hn.1, List.length_take]
      omega
    · rw [if_neg e1]
      by_cases e2 : x ∈ l
      · rw [if_pos (List.mem_cons_of_mem _ e2)] at h2
        rw [if_pos e2]
        by_cases e3 : x ∈ l.take (nd v)
        · have := h1 x e3
          rw [if_pos e3, if_pos e3]; omega
        · rw [if_neg e3, if_neg e3]; omega
      · rw [if_neg (fun h => (List.mem_cons.1 h).elim e1 e2)] at h2
        rw [if_neg e2, if_neg (fun h => e2 (List.mem_of_mem_take h))]; omega
  · exact (havel_step h.nod hs (h.gr hg)).2.2
theorem Hv.few (h : Hv n d ps (v :: l) nd) (hs : l.Pairwise fun a b => nd b ≤ nd a) (hl : l.length < nd v) : ¬ Gph (List.range n) d := fun hg => by
  have := (havel_step h.nod hs (h.gr hg)).1
  omega
theorem Hv.none (h : Hv n d ps (v :: l) nd) (hs : l.Pairwise fun a b => nd b ≤ nd a) {x : Nat} (hx : x ∈ l.take (nd v)) (h0 : nd x = 0) : ¬ Gph (List.range n) d := fun hg => by
  have := (havel_step h.nod hs (h.gr hg)).2.1 x hx
  omega
theorem Hv.done (h : Hv n d ps y nd) (h0 : ∀ x ∈ y, nd x = 0) : ∀ x, x < n → dgP ps x = d x := fun x hx => by
  have := h.dg x hx
  split at this <;> rename_i e
  · rw [h0 x e] at this; omega
  · omega
/-- the nodes and what they need, as they lie in memory -/
def zof (y : List Nat) (nd : Nat → Nat) : List (Int × Int) := y.map fun (x : Nat) => ((x : Int), (nd x : Int))
theorem zof_perm {z : List (Int × Int)} (h : z.Perm (zof y nd)) : ∃ y', y'.Perm y ∧ z = zof y' nd := by
  have hm : ∀ p ∈ z, ∃ x : Nat, p = ((x : Int), (nd x : Int)) := fun p hp => by
    obtain ⟨x, _, e⟩ := List.mem_map.1 (h.mem_iff.1 hp)
    exact ⟨x, e.symm⟩
  refine ⟨z.map fun p => p.1.toNat, ?_, ?_⟩
  · have := h.map fun p => p.1.toNat
    unfold zof at this
    rw [List.map_map] at this
    have e : ((fun p : Int × Int => p.1.toNat) ∘ fun x : Nat => ((x : Int), (nd x : Int))) = id := by funext x; simp
    rw [e, List.map_id] at this
    exact this
  · unfold zof
    rw [List.map_map]
    refine (List.map_id z).symm.trans (List.map_congr_left fun p hp => ?_)
    obtain ⟨x, rfl⟩ := hm p hp
    simp
theorem zof_at (y : List Nat) (nd : Nat → Nat) {j : Nat} (hj : j < y.length) : (zof y nd).getD j (0, 0) = ((y.getD j 0 : Int), (nd (y.getD j 0) : Int)) := by simp [zof, List.getD, hj]
theorem zof_sm {nd : Nat → Nat} (hy : ∀ x ∈ y, x < 10) : SmP (zof y nd) := SmP.of_mem fun p hp => by
  obtain ⟨x, hx, rfl⟩ := List.mem_map.1 hp
  have := hy x hx
  simp only; omega
theorem zof_sorted {m : Nat} (hm : y.length = m) (hy : ∀ x ∈ y, x < 10) (h : SrI (0, 0) KO (zof y nd) m) : y.Pairwise fun a b => nd b ≤ nd a := by
  rw [List.pairwise_iff_getElem]
  intro p q hp hq hpq
  have := h p q hpq (by omega)
  rw [zof_at y nd hq, zof_at y nd hp] at this
  have h1 := hy y[p] (List.getElem_mem hp)
  have h2 := hy y[q] (List.getElem_mem hq)
  rw [show y.getD p 0 = y[p] by simp [List.getD, hp], show y.getD q 0 = y[q] by simp [List.getD, hq]] at this
  unfold KO at this
  simp only at this
  omega
theorem zof_congr {nd' : Nat → Nat} (h : ∀ x ∈ y, nd x = nd' x) : zof y nd = zof y nd' := List.map_congr_left fun x hx => by rw [h x hx]
theorem lessN_zero (l : List Nat) (nd : Nat → Nat) : lessN l 0 nd = nd := by funext x; simp [lessN]
/-- the k-th one gets its edge -/
theorem zof_step (hn : l.Nodup) {k : Nat} (hk : k < l.length) : (zof l (lessN l k nd)).set k ((l.getD k 0 : Int), ((nd (l.getD k 0) - 1 : Nat) : Int)) = zof l (lessN l (k + 1) nd) := by
  refine List.ext_getElem (by simp [zof]) fun i h1 h2 => ?_
  have hi : i < l.length := by simpa [zof] using h2
  have hmem : ∀ k', l[i] ∈ l.take k' ↔ i < k' := fun k' => by
    constructor
    · intro h
      obtain ⟨j, hj, e⟩ := List.mem_iff_getElem.1 h
      rw [List.getElem_take] at e
      rw [List.length_take] at hj
      have := nodup_at hn e
      omega
    · intro h
      exact List.mem_iff_getElem.2 ⟨i, by rw [List.length_take]; omega, by rw [List.getElem_take]⟩
  rw [List.getElem_set]
  by_cases e : k = i
  · subst e
    rw [if_pos rfl]
    simp only [zof, List.getElem_map, lessN]
    rw [if_pos ((hmem _).2 (by omega)), show l.getD k 0 = l[k] by simp [List.getD, hk]]
  · rw [if_neg e]
    simp only [zof, List.getElem_map, lessN]
    by_cases e2 : i < k
    · rw [if_pos ((hmem _).2 e2), if_pos ((hmem _).2 (by omega))]
    · rw [if_neg (fun h => e2 ((hmem _).1 h)), if_neg (fun h => by have := (hmem _).1 h; omega)]
theorem lessN_at (hn : l.Nodup) {k : Nat} (hk : k < l.length) : lessN l k nd (l.getD k 0) = nd (l.getD k 0) := by
  unfold lessN
  rw [if_neg]
  intro h
  obtain ⟨j, hj, e⟩ := List.mem_iff_getElem.1 h
  rw [List.getElem_take, show l.getD k 0 = l[k] by simp [List.getD, hk]] at e
  rw [List.length_take] at hj
  have := nodup_at hn e
  omega
end
theorem Gph.deg_lt {n : Nat} {d : Nat → Nat} (h : Gph (List.range n) d) {x : Nat} (hx : x < n) : d x < n := by
  obtain ⟨r, h⟩ := h
  have h1 := h.dg x (List.mem_range.2 hx)
  have h2 := cnt_upd (p := fun y => if y = x then true else r x y) (q := r x) (z := x) (fun y hy => by simp [hy]) List.nodup_range (List.mem_range.2 hx)
  have h3 := List.countP_le_length (p := fun y => if y = x then true else r x y) (l := List.range n)
  simp only [if_true, h.ir, Bool.toNat_false, Bool.toNat_true, List.length_range] at h2 h3
  omega
end Go.Proofs.Ytfbomimkjiaohaa
