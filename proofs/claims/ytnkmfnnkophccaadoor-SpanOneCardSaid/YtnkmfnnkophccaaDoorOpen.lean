/- Opening arguments: from the reading of an argument as data to the cells that the walk wants. Plain theorems over any program. -/
import Derived.Test.YtnkmfnnkophccaaDoorBase
import Derived.ProofKit
import Derived.OpenShut
import Derived.Below
import Derived.SizedLaws
import Derived.Deep.Slices
import Derived.Deep.Fields
import Derived.ChangeSame
import Derived.Lib.SmallJoins
namespace Go.Proofs.YtnkmfnnkophccaaDoor
open Go.RowKit Go.ChangeShapes Go.WideShapes Go.Deep Go.Joins

section
variable {H : Type} {enc : TypeId × Value → H} {P : Program} {w : World} {base : Nat} {spare : Nat → Bool} {held : Bool}

theorem exists_list {α : Type} (d : α) (n : Nat) (R : Nat → α → Prop) (h : ∀ i, i < n → ∃ a, R i a) : ∃ l : List α, l.length = n ∧ ∀ i, i < n → R i (l.getD i d) := by
  induction n with
  | zero => exact ⟨[], rfl, fun i hi => absurd hi (by omega)⟩
  | succ n ih =>
    obtain ⟨l, hl, hR⟩ := ih fun i hi => h i (by omega)
    obtain ⟨a, ha⟩ := h n (by omega)
    refine ⟨l ++ [a], by simp [hl], fun i hi => ?_⟩
    rcases Nat.lt_or_ge i n with h1 | h1
    · have := hR i h1
      simpa [List.getD, List.getElem?_append, hl, h1] using this
    · obtain rfl : i = n := by omega
      simpa [List.getD, ← hl] using ha
theorem mem_of_getD {α : Type} (d : α) (Q : α → Prop) (l : List α) (h : ∀ i, i < l.length → Q (l.getD i d)) : ∀ a ∈ l, Q a := by
  intro a ha
  obtain ⟨i, hi, rfl⟩ := List.mem_iff_getElem.1 ha
  simpa [List.getD, hi] using h i hi

theorem add_none (b o j : Nat) : (⟨b, o, none⟩ : Addr).add j = ⟨b, o + j, none⟩ := by unfold Addr.add; by_cases h : j = 0 <;> simp [h]

/-- the bound that the reach lays on a slice -/
def Fits (P : Program) (t : TypeId) (d : DataW H) (len bytes : Nat) : Prop := (d.weights P t).all (· ≤ reachBytes) = true → len * bytes ≤ reachBytes
theorem fits_of {t e : TypeId} (ht : P.underlying t = some (.slice e)) {elems sp : List (DataW H)} {len bytes : Nat} (hb : P.bytesOf e = bytes) (hl : len ≤ elems.length) : Fits P t (.slice elems sp) len bytes := by
  intro h
  have := List.all_eq_true.1 h ((elems.length + sp.length) * P.bytesOf e) (by simp [DataW.weights, ht])
  simp only [decide_eq_true_eq, hb] at this
  exact Nat.le_trans (Nat.mul_le_mul_right _ (by omega)) this

theorem tr_int {k : IntKind} {t : TypeId} {fuel : Nat} {v : Value} {x : DataW H × List MemPlace} (ht : P.underlying t = some (.int k)) (h : DataW.trod enc P w base spare held fuel t [v] = some x) : ∃ n, v = .int k n ∧ (Lit.int k n).wf = true := by
  obtain ⟨n, hc, _, hw⟩ := DataW.trod_int ht h
  exact ⟨n, by simpa using hc, hw⟩

theorem tr_ints {k : IntKind} {t e : TypeId} {bytes fuel : Nat} {v : Value} {x : DataW H × List MemPlace} (ht : P.underlying t = some (.slice e)) (he : P.underlying e = some (.int k)) (hc : P.cellsOf e = 1) (hb : P.bytesOf e = bytes)
    (h : DataW.trod enc P w base spare held fuel t [v] = some x) :
    ∃ (A : Option Addr) (len cap : Nat) (zs : List Int), v = .slice A len cap ∧ len ≤ maxLen ∧ len ≤ cap ∧ Rd w A len 1 (ints k zs) ∧ (∀ z ∈ zs, (Lit.int k z).wf = true) ∧ Fits P t x.1 len bytes := by
  rcases open_ints ht he hc h with ⟨hcs, rfl⟩ | ⟨a, len, cap, zs, hcs, _, hl, hm, hz, rfl, hcell, hwz⟩
  · injection hcs with hcs _
    exact ⟨none, 0, 0, [], hcs, Nat.zero_le _, Nat.le_refl _, ⟨rfl, fun h => absurd h (by omega)⟩, by simp, fun _ => by simp⟩
  · injection hcs with hcs _
    have hlz : len ≤ zs.length := by rw [hz]; split <;> omega
    refine ⟨some a, len, cap, zs.take len, hcs, Nat.le_trans hl hm, hl, ⟨by simp [ints]; omega, fun hn => ?_⟩, fun z hz => hwz z (List.mem_of_mem_take hz), fits_of ht hb (by simp [lits]; omega)⟩
    have h0 := hcell 0 (by omega)
    have hs : a.spot = none := by
      have := World.cell?_spot h0
      simpa [Addr.add] using this
    obtain ⟨b, o, sp⟩ := a
    simp only at hs
    subst hs
    rw [add_none] at h0
    refine ⟨b, o, rfl, World.block_lt_of_cell? w _ h0, fun j hj => ?_⟩
    have := hcell j (by omega)
    rw [add_none] at this
    rw [this, ints_get (by simp; omega)]
    congr 2
    simp only [List.getD]
    rw [List.getElem?_take_of_lt (by omega)]

/-- the room of a slice of numbers -/
theorem tr_ints_cap {k : IntKind} {t e : TypeId} {fuel : Nat} {A : Option Addr} {len cap : Nat} {x : DataW H × List MemPlace} (ht : P.underlying t = some (.slice e)) (he : P.underlying e = some (.int k)) (hc : P.cellsOf e = 1)
    (h : DataW.trod enc P w base spare held fuel t [.slice A len cap] = some x) : cap ≤ maxLen := by
  rcases open_ints ht he hc h with ⟨hcs, rfl⟩ | ⟨a, len, cap, zs, hcs, _, hl, hm, _⟩
  · injection hcs with hcs _
    injection hcs with _ _ h3
    omega
  · injection hcs with hcs _
    injection hcs with _ _ h3
    omega
theorem open_slice_fields {t e : TypeId} {fs : Array Field} {fuel : Nat} {cs : List Value} {x : DataW H × List MemPlace} (ht : P.underlying t = some (.slice e)) (he : P.underlying e = some (.struct fs))
    (hone : oneCellFields P fs = true) (hC : P.cellsOf e = fs.size) (h : DataW.trod enc P w base spare held fuel t cs = some x) :
    (cs = [.slice none 0 0] ∧ x = (.nil, [])) ∨
    ∃ (a : Addr) (len cap m : Nat) (D : Nat → DataW H) (Pl : Nat → List MemPlace), cs = [.slice (some a) len cap] ∧ base ≤ a.block ∧ len ≤ cap ∧ cap ≤ maxLen ∧ m = (if spare a.block then cap else len) ∧
      x = (.slice ((List.range len).map D) ((List.range (m - len)).map fun j => D (len + j)), MemPlace.row a (m * fs.size) ++ (List.range m).flatMap Pl) ∧
      ∀ i, i < m → ∃ (ys : List (DataW H × List MemPlace)) (n : Nat), D i = .agg (ys.map (·.1)) ∧ Pl i = ys.flatMap (·.2) ∧ ys.length = fs.size ∧
        ∀ (j : Nat) (f : Field), fs[j]? = some f → ∃ (v : Value) (y : DataW H × List MemPlace), w.cell? (a.add (i * fs.size + j)) = some v ∧ ys[j]? = some y ∧ DataW.trod enc P w base spare held n f.type [v] = some y := by
  rcases open_slice ht h with h0 | ⟨a, len, cap, m, n, D, Pl, hcs, hb, hl, hm, hmm, hx, hi⟩
  · exact .inl h0
  · refine .inr ⟨a, len, cap, m, D, Pl, hcs, hb, hl, hm, hmm, by rw [hC] at hx; exact hx, fun i him => ?_⟩
    obtain ⟨cs', hc, ht'⟩ := hi i him
    rw [hC] at hc
    obtain ⟨ys, n', hn', hy, hlen, hyl, hf⟩ := DataW.trod_struct he ht'
    obtain ⟨_, hcl, hat⟩ := World.cells?_some hc
    simp only [Prod.mk.injEq] at hy
    refine ⟨ys, n', hy.1, hy.2, hyl, fun j f hj => ?_⟩
    obtain ⟨ho, hk⟩ := hone_of hone j f hj
    have hjl : j < fs.size := (Array.getElem?_eq_some_iff.1 hj).1
    have hcell := hat j hjl
    have hv : cs'[j]? = some (cs'[j]'(by omega)) := List.getElem?_eq_getElem (by omega)
    have h1 := hf j f hj
    rw [ho, hk] at h1
    have hone' : (cs'.drop j).take 1 = [cs'[j]'(by omega)] := by
      rw [List.drop_eq_getElem_cons (by omega)]
      rfl
    rw [hone'] at h1
    have hys : ys[j]? = some (ys[j]'(by omega)) := List.getElem?_eq_getElem (by omega)
    refine ⟨_, _, ?_, hys, h1.trans hys⟩
    rw [← Go.Deep.add_add, hcell, hv]

/-- a slice of structs of s fields, each of which satisfies what R says of its values -/
theorem tr_structs {α : Type} (d0 : α) (f : α → List Value) {t e : TypeId} {fs : Array Field} {bytes fuel s : Nat} {v : Value} {x : DataW H × List MemPlace} (ht : P.underlying t = some (.slice e)) (he : P.underlying e = some (.struct fs))
    (hone : oneCellFields P fs = true) (hC : P.cellsOf e = s) (hs : fs.size = s) (h0s : 0 < s) (hb : P.bytesOf e = bytes) (hf : ∀ a, (f a).length = s) (Q : α → Prop)
    (hel : ∀ (vs : List Value) (n : Nat), vs.length = s → (∀ (j : Nat) (g : Field), fs[j]? = some g → ∃ u y, vs[j]? = some u ∧ DataW.trod enc P w base spare held n g.type [u] = some y) → ∃ a, f a = vs ∧ Q a)
    (h : DataW.trod enc P w base spare held fuel t [v] = some x) :
    ∃ (A : Option Addr) (len cap : Nat) (l : List α), v = .slice A len cap ∧ len ≤ maxLen ∧ len ≤ cap ∧ l.length = len ∧ Rd w A len s (l.flatMap f) ∧ (∀ a ∈ l, Q a) ∧ Fits P t x.1 len bytes := by
  subst hs
  rcases open_slice_fields ht he hone hC h with ⟨hcs, rfl⟩ | ⟨a, len, cap, m, D, Pl, hcs, _, hl, hm, hmm, rfl, hi⟩
  · injection hcs with hcs _
    exact ⟨none, 0, 0, [], hcs, Nat.zero_le _, Nat.le_refl _, rfl, ⟨by simp, fun h => absurd h (by omega)⟩, by simp, fun _ => by simp⟩
  · injection hcs with hcs _
    have hlm : len ≤ m := by rw [hmm]; split <;> omega
    obtain ⟨l, hll, hR⟩ := exists_list d0 len (fun i c => Q c ∧ ∀ j, j < fs.size → w.cell? (a.add (i * fs.size + j)) = (f c)[j]?) (by
      intro i hil
      obtain ⟨ys, n, _, _, _, hg⟩ := hi i (by omega)
      obtain ⟨vs, hvl, hvs⟩ := exists_list undef fs.size (fun j u => w.cell? (a.add (i * fs.size + j)) = some u ∧ ∃ y, DataW.trod enc P w base spare held n (fs.getD j default).type [u] = some y) (by
        intro j hj
        obtain ⟨u, y, h1, _, h2⟩ := hg j (fs.getD j default) (by simp [Array.getD, hj])
        exact ⟨u, h1, y, h2⟩)
      obtain ⟨c, hc, hQ⟩ := hel vs n hvl (by
        intro j g hj
        have hjl : j < fs.size := (Array.getElem?_eq_some_iff.1 hj).1
        obtain ⟨h1, y, h2⟩ := hvs j hjl
        refine ⟨vs.getD j undef, y, by simp [List.getD, hvl, hjl], ?_⟩
        have : fs.getD j default = g := by
          have := (Array.getElem?_eq_some_iff.1 hj).2
          simp [Array.getD, hjl, this]
        rwa [this] at h2)
      refine ⟨c, hQ, fun j hj => ?_⟩
      rw [hc, (hvs j hj).1]
      simp [List.getD, hvl, hj])
    refine ⟨some a, len, cap, l, hcs, Nat.le_trans hl hm, hl, hll, ⟨by rw [flat_length hf, hll], fun hn => ?_⟩, mem_of_getD d0 Q l (fun i hi => (hR i (by omega)).1), fits_of ht hb (by simp)⟩
    have h0 := (hR 0 hn).2 0 h0s
    have h0' : (f (l.getD 0 d0))[0]? = some ((f (l.getD 0 d0))[0]'(by rw [hf]; exact h0s)) := List.getElem?_eq_getElem _
    rw [h0'] at h0
    have hsp : a.spot = none := by
      have := World.cell?_spot h0
      simpa [Addr.add] using this
    obtain ⟨b, o, sp⟩ := a
    simp only at hsp
    subst hsp
    rw [add_none] at h0
    refine ⟨b, o, rfl, World.block_lt_of_cell? w _ h0, fun j hj => ?_⟩
    have hd : j / fs.size < len := Nat.div_lt_of_lt_mul (by rw [Nat.mul_comm]; exact hj)
    have hmod : j % fs.size < fs.size := Nat.mod_lt _ h0s
    have := (hR (j / fs.size) hd).2 (j % fs.size) hmod
    rw [add_none, show j / fs.size * fs.size + j % fs.size = j by rw [Nat.mul_comm]; exact Nat.div_add_mod j fs.size] at this
    rw [this]
    have hg := flat_get hf l (j / fs.size) (j % fs.size) hmod
    rw [show j / fs.size * fs.size + j % fs.size = j by rw [Nat.mul_comm]; exact Nat.div_add_mod j fs.size] at hg
    rw [hg]
    simp [List.getD, show j / fs.size < l.length by omega]

theorem tr_ps2 {t e : TypeId} {g0 g1 : Field} {k₁ k₂ : IntKind} {bytes fuel : Nat} {v : Value} {x : DataW H × List MemPlace} (ht : P.underlying t = some (.slice e)) (he : P.underlying e = some (.struct #[g0, g1]))
    (hone : oneCellFields P #[g0, g1] = true) (hC : P.cellsOf e = 2) (hb : P.bytesOf e = bytes) (h0 : P.underlying g0.type = some (.int k₁)) (h1 : P.underlying g1.type = some (.int k₂))
    (h : DataW.trod enc P w base spare held fuel t [v] = some x) :
    ∃ (A : Option Addr) (len cap : Nat) (l : List (Int × Int)), v = .slice A len cap ∧ len ≤ maxLen ∧ len ≤ cap ∧ l.length = len ∧ Rd w A len 2 (ps2 k₁ k₂ l) ∧ (∀ a ∈ l, (Lit.int k₁ a.1).wf = true ∧ (Lit.int k₂ a.2).wf = true) ∧ Fits P t x.1 len bytes := by
  refine tr_structs (0, 0) (fun c : Int × Int => [.int k₁ c.1, .int k₂ c.2]) ht he hone hC rfl (by omega) hb (fun _ => rfl) _ ?_ h
  intro vs n hl hg
  match vs, hl with
  | [u0, u1], _ =>
    obtain ⟨_, _, h2, h3⟩ := hg 0 g0 rfl
    obtain ⟨_, _, h4, h5⟩ := hg 1 g1 rfl
    simp at h2 h4
    subst h2; subst h4
    obtain ⟨a, rfl, wa⟩ := tr_int h0 h3
    obtain ⟨b, rfl, wb⟩ := tr_int h1 h5
    exact ⟨(a, b), rfl, wa, wb⟩
theorem tr_ps3 {t e : TypeId} {g0 g1 g2 : Field} {k₁ k₂ k₃ : IntKind} {bytes fuel : Nat} {v : Value} {x : DataW H × List MemPlace} (ht : P.underlying t = some (.slice e)) (he : P.underlying e = some (.struct #[g0, g1, g2]))
    (hone : oneCellFields P #[g0, g1, g2] = true) (hC : P.cellsOf e = 3) (hb : P.bytesOf e = bytes) (h0 : P.underlying g0.type = some (.int k₁)) (h1 : P.underlying g1.type = some (.int k₂)) (h2 : P.underlying g2.type = some (.int k₃))
    (h : DataW.trod enc P w base spare held fuel t [v] = some x) :
    ∃ (A : Option Addr) (len cap : Nat) (l : List (Int × Int × Int)), v = .slice A len cap ∧ len ≤ maxLen ∧ len ≤ cap ∧ l.length = len ∧ Rd w A len 3 (ps3 k₁ k₂ k₃ l) ∧ (∀ a ∈ l, (Lit.int k₁ a.1).wf = true ∧ (Lit.int k₂ a.2.1).wf = true ∧ (Lit.int k₃ a.2.2).wf = true) ∧ Fits P t x.1 len bytes := by
  refine tr_structs (0, 0, 0) (fun c : Int × Int × Int => [.int k₁ c.1, .int k₂ c.2.1, .int k₃ c.2.2]) ht he hone hC rfl (by omega) hb (fun _ => rfl) _ ?_ h
  intro vs n hl hg
  match vs, hl with
  | [u0, u1, u2], _ =>
    obtain ⟨_, _, h3, h4⟩ := hg 0 g0 rfl
    obtain ⟨_, _, h5, h6⟩ := hg 1 g1 rfl
    obtain ⟨_, _, h7, h8⟩ := hg 2 g2 rfl
    simp at h3 h5 h7
    subst h3; subst h5; subst h7
    obtain ⟨a, rfl, wa⟩ := tr_int h0 h4
    obtain ⟨b, rfl, wb⟩ := tr_int h1 h6
    obtain ⟨c, rfl, wc⟩ := tr_int h2 h8
    exact ⟨(a, b, c), rfl, wa, wb, wc⟩
end

section
variable {H : Type} {enc : TypeId × Value → H} {P : Program}
/-- what lay below the heap's old end reads as it did -/
theorem trodAll_below (hl : laidOutB P = true) {W W' : World} (hb : Below W.heap.size W W') : ∀ (ts : List TypeId) (vs : List Value) (ds : List (DataW H)) (ps : List MemPlace), (∀ t ∈ ts, P.readableRec t = true ∧ t < P.types.size) →
    DataW.TrodAll enc P W 0 (fun _ => true) true ts vs ds ps → DataW.TrodAll enc P W' 0 (fun b => decide (b < W.heap.size)) true ts vs ds ps
  | [], vs, ds, ps, _, h => by
    obtain ⟨rfl, rfl, rfl⟩ := trodAll_nil h
    exact trodAll_mk0
  | t :: ts, vs, ds, ps, ht, h => by
    obtain ⟨v, vs', d, ds', p, q, rfl, rfl, rfl, h0, h1⟩ := trodAll_cons h
    have hlt : ∀ x ∈ p, x.block < W.heap.size := by
      obtain ⟨m, hm⟩ := h0
      exact DataW.trod_lt m _ _ _ hm
    exact trodAll_cons_mk (Below.trod hl (ht t (by simp)).1 (ht t (by simp)).2 h0 hb hlt) (trodAll_below hl hb ts vs' ds' q (fun t' h' => ht t' (List.mem_cons_of_mem _ h')) h1)
theorem trodAll_length : ∀ {w : World} {base : Nat} {spare : Nat → Bool} {held : Bool} (ts : List TypeId) (vs : List Value) (ds : List (DataW H)) (ps : List MemPlace), DataW.TrodAll enc P w base spare held ts vs ds ps → ds.length = ts.length
  | _, _, _, _, [], vs, ds, ps, h => by obtain ⟨rfl, rfl, rfl⟩ := trodAll_nil h; rfl
  | _, _, _, _, t :: ts, vs, ds, ps, h => by
    obtain ⟨v, vs', d, ds', p, q, rfl, rfl, rfl, h0, h1⟩ := trodAll_cons h
    simp [trodAll_length ts vs' ds' q h1]
end

/-- A LAW's STEP: the call returns true and leaves all that was there as it was: then the row's 'post' holds. -/
theorem law_lift {H : Type} {enc : TypeId × Value → H} {C : Checked} {os : Os} {f : FuncId} {fn : Func} {s : ChangeSpec} {conds : List PathCond} {tb : TypeId}
    (own : ownKnob C.prog.godebug = none) (started : os.Started) (noInit : C.prog.inits.idxOf? f = none) (hfn : C.prog.funcs[f]? = some fn) (hl : laidOutB C.prog = true)
    (hp : (fn.params.toList.all fun t => C.prog.readableRec t && decide (t < C.prog.types.size)) = true) (hr : fn.resultTypes = #[tb]) (htb : C.prog.underlying tb = some .bool) (hvars : s.vars = [])
    (hspec : ∀ (H' : Type) (ds : List (DataW H')), ds.length = fn.params.toList.length → s.fn H' ds = { results := [.lit (.bool true)], args := ds })
    (witness : ∃ (w : World) (tape : Tape) (i : Input), w.os = os ∧ (w.forCall tape i).Shaped C.prog ∧ i.vars = [] ∧ Input.okWide C.prog (w.forCall tape i) .any w.heap.size f i ∧
      s.pre6 enc C.prog fn conds false (w.forCall tape i).memory i.args ∧ ({} : Assume).holds C.prog (lone (Frame.enter C.prog f i.args .normal) [] (w.forCall tape i)))
    (walk : ∀ (W : World) (base : Nat) (args : Array Value) (ds : List (DataW H)) (p : List MemPlace),
      (∀ (j : Nat) t v, fn.params[j]? = some t → args[j]? = some v → Value.okWide C.prog W .any base t v) →
      DataW.TrodAll enc C.prog W 0 (fun _ => true) true fn.params.toList args.toList ds p →
      (DataW.weightsEach C.prog fn.params.toList ds).all (· ≤ reachBytes) = true →
      Calls C.prog f args W fun e W' => e = .returned (.bool true) ∧ Below W.heap.size W W') :
    ReturnsInHanded {} C os f .any (s.pre6 enc C.prog fn conds false) (s.post enc C.prog fn false true false false) := by
  refine returnsInHanded_of_change_sized own started noInit hfn witness ?_
  intro W base args ds gs before hval hW _ hsz _
  have hW' := hW
  obtain ⟨p, q, hA, hV, rfl, _, _⟩ := hW
  rw [hvars] at hV
  obtain ⟨rfl, rfl⟩ := trodVars_none hV
  have hvt : s.plain.varTypes C.prog = [] := by simp [ChangeSpec.plain, DataSpec.varTypes, hvars]
  rw [hvt, List.append_nil, List.append_nil] at hsz
  refine (walk W base args ds p hval hA hsz).mono fun e W' ⟨he, bel⟩ => ?_
  subst he
  have hsp := hspec H ds (trodAll_length _ _ _ _ hA)
  refine ⟨_, rfl, ds, [], _, [], p, [], hW', ?_, ?_, ?_, bel.frame _, fun h => by cases h⟩
  · rw [List.append_nil, hsp, hr]
    exact trodAll_mk1 (shut_bool htb _)
  · rw [List.append_nil, hsp]
    exact trodAll_below hl bel _ _ _ _ (fun t ht => by simpa using List.all_eq_true.1 hp t ht) hA
  · rw [hvars, List.append_nil, hsp]
    rfl

/-- the bounds of a number that fits its kind -/
theorem wf_i64 {n : Int} (h : (Lit.int .i64 n).wf = true) : -9223372036854775808 ≤ n ∧ n ≤ 9223372036854775807 := by
  simp [Lit.wf, IntKind.min, IntKind.max, IntKind.bits, IntKind.signed] at h
  omega
theorem wf_u32 {n : Int} (h : (Lit.int .u32 n).wf = true) : 0 ≤ n ∧ n < 4294967296 := by
  simp [Lit.wf, IntKind.min, IntKind.max, IntKind.bits, IntKind.signed] at h
  omega
theorem wf_u8 {n : Int} (h : (Lit.int .u8 n).wf = true) : 0 ≤ n ∧ n < 256 := by
  simp [Lit.wf, IntKind.min, IntKind.max, IntKind.bits, IntKind.signed] at h
  omega
end Go.Proofs.YtnkmfnnkophccaaDoor
