/- lanes: an arc is laid (XPlaceA's, turned); the net of a graph in which each node is two. A row of rows of ints, each of which grows by append. lanes.Apart. -/
import Derived.Test.YteadceghjfaekaaDoorLanesAll
import Derived.Test.YteadceghjfaekaaDoorNet
import Derived.Test.YteadceghjfaekaaDoorRow
import Derived.Test.YteadceghjfaekaaDoorBlk
import Derived.Test.YteadceghjfaekaaDoorAdj
import Derived.Test.YteadceghjfaekaaDoorSq
import Derived.Test.YteadceghjfaekaaDoorNatI
import Derived.Test.YteadceghjfaekaaDoorLastW
namespace Go.Proofs.YteadceghjfaekaaDoor
open Go.RowKit Go.Shelf

theorem tiArc : TI Tryd.prog 38 42 (.agg #[.int .i64 0, .int .i64 0, .int .i64 0, .int .i64 0]) 4 32 := TI.mk' Tryd.underlying38 (by kernel_rfl) rfl (by decide)
/-- a net that is being laid at p -/
structure NA (p : Nat) (N : Int) (l : List Arc) (v : Value) (W : World) : Prop where
  bk : Blk W p 40 #[.int .i64 N, v]
  ow : W.ownsRow (p + 1) 42 4 v l.length (arcs l)
theorem NA.lt {p : Nat} {N : Int} {l : List Arc} {v : Value} {W : World} (h : NA p N l v W) : p < W.heap.size := h.bk.lt
theorem NA.alloc {p : Nat} {N : Int} {l : List Arc} {v : Value} {W : World} (h : NA p N l v W) (o : Obj) : NA p N l v (W.alloc o) := ⟨h.bk.alloc o, h.ow.alloc o⟩
theorem NA.later {p : Nat} {N : Int} {l : List Arc} {v : Value} {W W' : World} (h : NA p N l v W) (hb : Below W.heap.size W W') : NA p N l v W' :=
  ⟨h.bk.below hb h.bk.lt, h.ow.kept (row := none) ⟨hb.os, hb.tape, hb.output, hb.size, fun j hj _ => hb.block j hj⟩ (by cases v.ownBlock with | none => exact .inl rfl | some g => exact .inr (by simp))⟩
def NKeep (p : Nat) (v v' : Value) (w w' : World) : Prop := ∀ q t cs, Blk w q t cs → q ≠ p → v.ownBlock ≠ some q → Blk w' q t cs ∧ v'.ownBlock ≠ some q
set_option maxHeartbeats 3200000 in
set_option maxRecDepth 100000 in
theorem arc_any (p : Nat) (N : Int) (l : List Arc) (v : Value) (w : World) (h : NA p N l v w) (hl : l.length ≤ 128) (f t : Int) :
    Calls Tryd.prog 12 #[.int .i64 f, .int .i64 t, .pointer (some ⟨p, 0, none⟩)] w fun e w' => (∃ x, e = .returned x) ∧ ∃ v', NA p N (l ++ [(f, t, 1, 0)]) v' w' ∧ Below p w w' ∧ NKeep p v v' w w' := by
  obtain ⟨A, c, rfl⟩ := own_slice h.ow
  have c1 := h.bk.cell (j := 1) rfl
  have hp := h.lt
  have hH := Lib.hid h
  clear h
  go_enter Tryd.func12, Tryd.ntmps12
  go_wp2_with (at_builtin; refine wpList_app (s := .tmp 6) (x := .tmp 10) _ tiArc (hH.out.ow.alloc _) (rd_new4 _ (.int .i64 f) (.int .i64 t) (.int .i64 1) (.int .i64 0) 42) (arcs_one (l := [(f, t, 1, 0)])) (by omega) (by omega) (by simp; omega) rfl rfl rfl rfl ?_)
  intro v' w5 hown hg hv
  obtain ⟨A', c', rfl⟩ := own_slice hown
  have hpv : ∀ g, (Value.slice A l.length c).ownBlock = some g → p + 1 ≤ g := fun g e => (hH.out.ow.lt g e).1
  have hbk5 := (hH.out.bk.alloc (Obj.cells #[.int .i64 f, .int .i64 t, .int .i64 1, .int .i64 0] 42)).kept hg (fun e => by have := hpv p e.symm; omega)
  have hb5 : Below p w w5 := ((Below.refl p w).alloc (Nat.le_of_lt hp) _).grown hg (by simp; omega) (fun g e => by have := hpv g e; omega)
  have hk5 : NKeep p (Value.slice A l.length c) (Value.slice A' (l.length + 1) c') w w5 := fun q t' cs hq hqp hvq => ⟨(hq.alloc _).kept hg (fun e => hvq e.symm), fun e => by
    rcases hv with h1 | h1
    · exact hvq (h1.symm.trans e)
    · rw [e] at h1
      have := hq.lt
      simp at h1
      omega⟩
  have c5 := hbk5.cell (j := 1) rfl
  have f5 := hbk5.frozen 1
  have hlt5 := hbk5.lt
  have hvp : (Value.slice A' (l.length + 1) c').ownBlock ≠ some p := fun e => by have := (hown.lt p e).1; omega
  have hfin := Lib.hid (show NA p N (l ++ [(f, t, 1, 0)]) (Value.slice A' (l.length + 1) c') (w5.setCell ⟨p, 1, none⟩ (Value.slice A' (l.length + 1) c')) ∧ Below p w (w5.setCell ⟨p, 1, none⟩ (Value.slice A' (l.length + 1) c')) ∧ NKeep p (Value.slice A l.length c) (Value.slice A' (l.length + 1) c') w (w5.setCell ⟨p, 1, none⟩ (Value.slice A' (l.length + 1) c')) from
    ⟨⟨hbk5.set 1 (Value.slice A' (l.length + 1) c'), by
      have e1 : arcs l ++ [Value.int .i64 f, .int .i64 t, .int .i64 1, .int .i64 0] = arcs (l ++ [(f, t, 1, 0)]) := by simp [arcs, av]
      rw [List.length_append, List.length_singleton, ← e1]
      exact hown.kept (grown_setA w5 p 1 (Value.slice A' (l.length + 1) c')) (.inr hvp)⟩, hb5.setCell (Nat.le_refl _) _, fun q t' cs hq hqp hvq => ⟨(hk5 q t' cs hq hqp hvq).1.other (a := ⟨p, 1, none⟩) hqp (Value.slice A' (l.length + 1) c'), (hk5 q t' cs hq hqp hvq).2⟩⟩)
  clear hown hg hv hbk5 hb5 hk5 hH hvp hpv
  go_wp2
  go_end0
  exact ⟨⟨_, rfl⟩, _, hfin.out⟩
/-- the arcs within nodes -/
def lnN (N k : Nat) : List Arc := (List.range k).map fun (i : Nat) => ((i : Int), ((N + i : Nat) : Int), (1 : Int), (0 : Int))
def edA (N : Nat) (e : E) : List Arc := [((N : Int) + e.1, e.2.1, (1 : Int), (0 : Int)), ((N : Int) + e.2.1, e.1, (1 : Int), (0 : Int))]
def lnE (N : Nat) (es : List E) : List Arc := es.flatMap (edA N)
def LN (N : Nat) (es : List E) : List Arc := lnN N N ++ lnE N es
theorem lnN_succ (N k : Nat) : lnN N (k + 1) = lnN N k ++ [((k : Int), ((N + k : Nat) : Int), (1 : Int), (0 : Int))] := by unfold lnN; rw [List.range_succ, List.map_append]; rfl
theorem lnN_len (N k : Nat) : (lnN N k).length = k := by simp [lnN]
theorem lnE_snoc (N : Nat) (es : List E) (e : E) : lnE N (es ++ [e]) = lnE N es ++ [((N : Int) + e.1, e.2.1, (1 : Int), (0 : Int))] ++ [((N : Int) + e.2.1, e.1, (1 : Int), (0 : Int))] := by simp [lnE, edA]
theorem lnE_len (N : Nat) (es : List E) : (lnE N es).length = 2 * es.length := by
  induction es with
  | nil => rfl
  | cons e l ih =>
    have : lnE N (e :: l) = edA N e ++ lnE N l := by simp [lnE]
    rw [this, List.length_append, ih]
    simp [edA]; omega
theorem LN_len (N : Nat) (es : List E) : (LN N es).length = N + 2 * es.length := by rw [LN, List.length_append, lnN_len, lnE_len]
theorem LN_hn {N : Nat} {es : List E} (hok : ∀ e ∈ es, okE N e) : HN N (adj es) (LN N es) := by
  have hlo : ∀ k, k < N → aat (LN N es) k = ((k : Int), ((N + k : Nat) : Int), (1 : Int), (0 : Int)) := fun k hk => by
    unfold aat LN
    rw [List.getD, List.getElem?_append_left (by rw [lnN_len]; exact hk)]
    unfold lnN
    simp [hk]
  have hmem : ∀ k, N ≤ k → k < (LN N es).length → aat (LN N es) k ∈ lnE N es := fun k h1 h2 => by
    have e : aat (LN N es) k = (lnE N es).getD (k - N) (0, 0, 0, 0) := by
      unfold aat LN
      rw [List.getD, List.getElem?_append_right (by rw [lnN_len]; exact h1), lnN_len]; rfl
    rw [LN_len] at h2
    have h3 : k - N < (lnE N es).length := by rw [lnE_len]; omega
    rw [e]
    simp only [List.getD, List.getElem?_eq_getElem h3]
    exact List.getElem_mem h3
  have hE : ∀ c ∈ lnE N es, ∃ u x : Nat, u < N ∧ x < N ∧ c = (((N + u : Nat) : Int), (x : Int), (1 : Int), (0 : Int)) ∧ adj es u x = true := fun c hc => by
    obtain ⟨e, he, hc⟩ := List.mem_flatMap.1 hc
    obtain ⟨x, y, h1, h2, h3, h4, _⟩ := hok e he
    unfold edA at hc
    rcases List.mem_cons.1 hc with rfl | hc
    · exact ⟨x, y, h3, h4, by rw [h1, h2]; simp, List.any_eq_true.2 ⟨e, he, by unfold adjE; rw [h1, h2]; simp⟩⟩
    · rw [List.mem_singleton] at hc
      subst hc
      exact ⟨y, x, h4, h3, by rw [h1, h2]; simp, List.any_eq_true.2 ⟨e, he, by unfold adjE; rw [h1, h2]; simp⟩⟩
  refine ⟨⟨fun c hc => ?_⟩, by rw [LN_len]; omega, fun k hk => by unfold fr tn; rw [hlo k hk]; exact ⟨by simp, by simp; omega⟩, fun k h1 h2 => ?_, fun u x hux => ?_, fun k hk => ?_, fun u x hux => ?_⟩
  · rcases List.mem_append.1 hc with hc | hc
    · obtain ⟨i, hi, rfl⟩ := List.mem_map.1 hc
      rw [List.mem_range] at hi
      exact aokMk (by omega) (by omega) (by omega) (by omega) (by omega) (by decide) (by decide)
    · obtain ⟨u, x, h1, h2, rfl, _⟩ := hE c hc
      exact aokMk (by omega) (by omega) (by omega) (by omega) (by omega) (by decide) (by decide)
  · obtain ⟨u, x, h3, h4, h5, h6⟩ := hE _ (hmem k h1 h2)
    refine ⟨u, x, h3, h4, ?_, ?_, h6⟩
    · unfold fr; rw [h5]; simp; omega
    · unfold tn; rw [h5]; simp
  · obtain ⟨e, he, h⟩ := List.any_eq_true.1 hux
    have hc : (((N + u : Nat) : Int), (x : Int), (1 : Int), (0 : Int)) ∈ lnE N es := by
      refine List.mem_flatMap.2 ⟨e, he, ?_⟩
      unfold adjE at h
      unfold edA
      simp at h ⊢
      omega
    obtain ⟨i, hi, e⟩ := List.mem_iff_getElem.1 hc
    have hi2 := hi
    rw [lnE_len] at hi2
    have hat : aat (LN N es) (N + i) = (((N + u : Nat) : Int), (x : Int), (1 : Int), (0 : Int)) := by
      unfold aat LN
      rw [List.getD, List.getElem?_append_right (by rw [lnN_len]; omega), lnN_len, Nat.add_sub_cancel_left, List.getElem?_eq_getElem hi, e]; rfl
    refine ⟨N + i, by omega, by rw [LN_len]; omega, ?_, ?_⟩
    · unfold fr; rw [hat]; simp; omega
    · unfold tn; rw [hat]; simp
  · unfold mo
    by_cases h : k < N
    · rw [hlo k h]
    · obtain ⟨u, x, _, _, h5, _⟩ := hE _ (hmem k (by omega) hk)
      rw [h5]
  · obtain ⟨e, he, h⟩ := List.any_eq_true.1 hux
    obtain ⟨p, q, h1, h2, h3, h4, _⟩ := hok e he
    unfold adjE at h
    rw [h1, h2] at h
    simp at h
    omega
end Go.Proofs.YteadceghjfaekaaDoor

namespace Go.Proofs.YteadceghjfaekaaDoor
open Go.RowKit

theorem tiIl : TI Tryd.prog 49 3 (.int .i64 0) 1 8 := TI.mk' Tryd.underlying49 (by kernel_rfl) rfl (by decide)
structure NX (W : World) (B g N : Nat) (V : Nat → Value) (F : Nat → List Nat) : Prop where
  out : W.ownsRow B 49 1 (.slice (some ⟨g, 0, none⟩) N N) N ((List.range N).map V)
  row : ∀ u, u < N → W.ownsRow B 3 1 (V u) (F u).length (ints .i64 (natI (F u)))
  ne : ∀ u, u < N → (V u).ownBlock ≠ some g
  two : ∀ u u', u < N → u' < N → u ≠ u' → (V u).ownBlock = none ∨ (V u).ownBlock ≠ (V u').ownBlock
section
variable {W W' : World} {B g N : Nat} {V : Nat → Value} {F : Nat → List Nat}
theorem NX.start (h : W.ownsRow B 49 1 (.slice (some ⟨g, 0, none⟩) N N) N (List.replicate N (.slice none 0 0))) : NX W B g N (fun _ => .slice none 0 0) (fun _ => []) := by
  refine ⟨?_, fun _ _ => World.ownsRow_nil _ _ _ _, fun _ _ => by simp [Value.ownBlock], fun _ _ _ _ _ => .inl rfl⟩
  rw [show (List.range N).map (fun _ => Value.slice none 0 0) = List.replicate N (.slice none 0 0) from (List.eq_replicate_iff.2 ⟨by simp, by simp⟩)]
  exact h
theorem NX.glt (h : NX W B g N V F) : B ≤ g ∧ g < W.heap.size := h.out.lt g rfl
theorem NX.grown {row : Option Nat} (h : NX W B g N V F) (hg : W.grownBy W' row) (h1 : row ≠ some g) (h2 : ∀ u, u < N → (V u).ownBlock = none ∨ (V u).ownBlock ≠ row) : NX W' B g N V F :=
  ⟨h.out.kept hg (.inr fun e => h1 e.symm), fun u hu => (h.row u hu).kept hg (h2 u hu), h.ne, h.two⟩
theorem NX.later (h : NX W B g N V F) (hb : Below W.heap.size W W') : NX W' B g N V F :=
  h.grown (row := none) ⟨hb.os, hb.tape, hb.output, hb.size, fun k hk _ => hb.block k hk⟩ (by simp) (fun u _ => by cases (V u).ownBlock <;> simp)
theorem NX.alloc (h : NX W B g N V F) (o : Obj) : NX (W.alloc o) B g N V F := h.later ((Below.refl _ W).alloc (Nat.le_refl _) o)
theorem NX.drew (h : NX W B g N V F) : NX W.drew B g N V F := ⟨h.out, h.row, h.ne, h.two⟩
theorem NX.cell (h : NX W B g N V F) {u : Nat} (hu : u < N) : W.cell? ⟨g, u, none⟩ = some (V u) :=
  (h.out.cellAt u (by omega)).trans (by simp [hu])
theorem NX.frz (h : NX W B g N V F) (u : Nat) : W.frozen? ⟨g, u, none⟩ = false := h.out.frozenAt u
theorem NX.app (h : NX W B g N V F) {u x : Nat} (hu : u < N) {v' : Value} (ho : W'.ownsRow B 3 1 v' ((F u).length + 1) (ints .i64 (natI (F u)) ++ [.int .i64 (x : Int)])) (hg : W.grownBy W' (V u).ownBlock) (hv : v'.ownBlock = (V u).ownBlock ∨ v'.ownBlock = some W.heap.size) :
    NX (W'.setCell ⟨g, u, none⟩ v') B g N (fun i => if i = u then v' else V i) (fun i => if i = u then F u ++ [x] else F i) := by
  have hgl := h.glt
  have hvg : v'.ownBlock ≠ some g := by
    rcases hv with e | e
    · rw [e]; exact h.ne u hu
    · rw [e]; intro e; injection e with e; omega
  have hout : W'.ownsRow B 49 1 (.slice (some ⟨g, 0, none⟩) N N) N ((List.range N).map V) := h.out.kept hg (.inr fun e => h.ne u hu e.symm)
  refine ⟨?_, fun i hi => ?_, fun i hi => ?_, fun i j hi hj hij => ?_⟩
  · have := (hout.stored u v').1
    rw [show (List.range N).map (fun i => if i = u then v' else V i) = ((List.range N).map V).set u v' by
      refine List.ext_getElem? fun i => ?_
      rw [List.getElem?_set]
      by_cases e : u = i
      · subst e; simp [hu]
      · rw [if_neg e]
        by_cases hi : i < N
        · simp [hi, Ne.symm e]
        · simp [hi]]
    exact this
  · by_cases e : i = u
    · subst e
      rw [if_pos rfl, if_pos rfl, List.length_append, show natI (F i ++ [x]) = natI (F i) ++ [(x : Int)] by simp [natI], show ints .i64 (natI (F i) ++ [(x : Int)]) = ints .i64 (natI (F i)) ++ [.int .i64 (x : Int)] by simp [ints]]
      exact own_set_other ho hvg _
    · rw [if_neg e, if_neg e]
      exact own_set_other ((h.row i hi).kept hg (h.two i u hi hu e)) (h.ne i hi) _
  · split
    · exact hvg
    · exact h.ne i hi
  · by_cases e : i = u
    · subst e
      rw [if_pos rfl, if_neg (Ne.symm hij)]
      rcases hv with e | e
      · rw [e]; exact h.two i j hi hj hij
      · right
        rw [e]
        intro e2
        have := ((h.row j hj).lt _ e2.symm).2
        omega
    · rw [if_neg e]
      by_cases e2 : j = u
      · subst e2
        rw [if_pos rfl]
        rcases hv with e3 | e3
        · rw [e3]; exact h.two i j hi hj hij
        · right
          rw [e3]
          intro e4
          have := ((h.row i hi).lt _ e4).2
          omega
      · rw [if_neg e2]; exact h.two i j hi hj hij
theorem NX.congr {F' : Nat → List Nat} (h : NX W B g N V F) (he : ∀ u, u < N → F u = F' u) : NX W B g N V F' :=
  ⟨h.out, fun u hu => by rw [← he u hu]; exact h.row u hu, h.ne, h.two⟩
end
end Go.Proofs.YteadceghjfaekaaDoor

namespace Go.Proofs.YteadceghjfaekaaDoor
open Go.RowKit Go.Shelf
attribute [local go_sem] Oper.semAt_some

set_option maxHeartbeats 1600000 in
set_option maxRecDepth 100000 in
theorem apart_bad (N : Int) (A : Option Addr) (len cap : Nat) (es : List E) (a b : Int) (w : World) (hr : Rd w A len 3 (ps3 .i64 .i64 .i64 es)) (hlen : len ≤ 9223372036854775807) (h : lwr N es a b ≠ 0) :
    Calls Tryd.prog 4 #[.agg #[.int .i64 N, .slice A len cap], .int .i64 a, .int .i64 b] w fun e w' => e = .returned (.tuple #[.slice none 0 0, .int .i64 (lwr N es a b)]) ∧ Below w.heap.size w w' := by
  have hb0 := (Below.refl _ w).alloc (Nat.le_refl _) (.cells #[.int .i64 N, .slice A len cap] 24)
  have HC := Lib.hid (wrong_any N A len cap es a b _ (hr.later hb0) hlen)
  have hK := Blk.new w 24 #[.int .i64 N, .slice A len cap]
  have k0 := hK.cell (j := 0) rfl
  have k1 := hK.cell (j := 1) rfl
  have hb0H := Lib.hid hb0
  clear hr hK hb0
  obtain ⟨c, hc⟩ : ∃ c, lwr N es a b = c := ⟨_, rfl⟩
  rw [hc] at HC h ⊢
  have hc2 : (c != 0) = true := bne_iff_ne.2 h
  clear hc h
  go_enter Tryd.func4, Tryd.ntmps4
  go_wp2_with fail
  refine HC.out.mono ?_
  rintro e w1 ⟨rfl, hb1⟩
  have hbH := Lib.hid (hb0H.out.trans (hb1.mono hb0H.out.size))
  clear hb1 HC k0 k1
  go_wp2
  go_ret2
  exact ⟨rfl, hbH.out⟩
set_option maxHeartbeats 6400000 in
set_option maxRecDepth 100000 in
theorem apart_ok (n x y : Nat) (A : Option Addr) (len cap : Nat) (es : List E) (w : World) (hr : Rd w A len 3 (ps3 .i64 .i64 .i64 es)) (hlen : len ≤ 9223372036854775807) (h : gchk n es = 0) (hx : x < n) (hy : y < n) (hxy : x ≠ y) (hna : adj es x y = false) :
    Calls Tryd.prog 4 #[.agg #[.int .i64 (n : Int), .slice A len cap], .int .i64 (x : Int), .int .i64 (y : Int)] w fun e w' => ∃ (A' : Option Addr) (k c : Nat) (f : Nat → Int), e = .returned (.tuple #[.slice A' k c, .int .i64 0]) ∧ HF n (adj es) (LN n es) x y f k ∧ (∃ S : Nat → Bool, S (n + x) = true ∧ S y = false ∧ capS (LN n es) S = k) ∧ Below w.heap.size w w' := by
  obtain ⟨_, h10, hl45, hok, _⟩ := gchk_ok h
  rw [Int.toNat_natCast] at hok
  have h10 : n ≤ 10 := by omega
  have hel := ps3_len hr
  rw [hel] at hl45
  have hlw : lwr n es x y = 0 := by
    have hl : ¬ lbad n x y := by unfold lbad; omega
    unfold lwr
    rw [if_neg (by simp [h]), if_neg hl, Int.toNat_natCast, Int.toNat_natCast, hna]; rfl
  have hb0 := (Below.refl _ w).alloc (Nat.le_refl _) (.cells #[.int .i64 n, .slice A len cap] 24)
  have HC := Lib.hid (wrong_any n A len cap es x y _ (hr.later hb0) hlen)
  rw [hlw] at HC
  have hK := Blk.new w 24 #[.int .i64 n, .slice A len cap]
  have k0 := hK.cell (j := 0) (v := .int .i64 n) rfl
  have k1 := hK.cell (j := 1) (v := .slice A len cap) rfl
  have hKH := Lib.hid hK; have hb0H := Lib.hid hb0; have hrH := Lib.hid hr; have helH := Lib.hid hel
  have hHN := Lib.hid (LN_hn hok)
  have hLNl := LN_len n es
  rw [hel] at hLNl
  have hLNlH := Lib.hid hLNl
  have hokH := Lib.hid hok
  clear hr hK hb0 hlw hna hok h hel hLNl
  go_enter Tryd.func4, Tryd.ntmps4
  go_wp2_with fail
  refine HC.out.mono ?_
  rintro e w1 ⟨rfl, hb1⟩
  have hbb := hb0H.out.trans (hb1.mono hb0H.out.size)
  have hK1 : Blk w1 w.heap.size 24 #[.int .i64 n, .slice A len cap] := (hb1.block _ hKH.out.lt).trans hKH.out
  have q0 := hK1.cell (j := 0) (v := .int .i64 n) rfl
  have q1 := hK1.cell (j := 1) (v := .slice A len cap) rfl
  have hbH := Lib.hid hbb
  have hK1H := Lib.hid hK1
  have hs1 := hK1.lt
  clear hb1 hbb hK1 k0 k1 HC hb0H hKH
  have hn2 : IntKind.i64.wrap (2 * (n : Int)) = ((2 * n : Nat) : Int) := by rw [IntWalk.i64_in _ (by omega)]; omega
  go_wp2_with fail
  have hNA0 := Lib.hid (show NA w1.heap.size (2 * (n : Int)) (lnN n 0) (.slice none 0 0) (w1.alloc (.cells #[.int .i64 (2 * (n : Int)), .slice none 0 0] 40)) from ⟨Blk.new w1 40 #[.int .i64 (2 * (n : Int)), .slice none 0 0], World.ownsRow_nil _ _ _ _⟩)
  have hB0 := Lib.hid ((Below.refl _ w1).alloc (Nat.le_refl _) (.cells #[.int .i64 (2 * (n : Int)), .slice none 0 0] 40))
  go_loopw [11, 37] (fun _ i wr => ∃ (k : Nat) (v : Value), k ≤ n ∧ i = .int .i64 k ∧ NA w1.heap.size (2 * (n : Int)) (lnN n k) v wr ∧ Below w1.heap.size w1 wr) (fun _ i _ => n - (intOf i).toNat)
  case atStart => exact ⟨0, _, Nat.zero_le _, rfl, hNA0.out, hB0.out⟩
  case round =>
    clear hNA0 hB0
    obtain ⟨k, v, hk, rfl, hN, hb⟩ := hrel
    have q0 := (hK1H.out.below hb hs1).cell (j := 0) (v := .int .i64 n) rfl
    have q1 := (hK1H.out.below hb hs1).cell (j := 1) (v := .slice A len cap) rfl
    by_cases hlt : k < n
    · have hltI : (k : Int) < n := by omega
      have HA := Lib.hid (arc_any w1.heap.size (2 * (n : Int)) (lnN n k) v wr hN (by rw [lnN_len]; omega) k ((n : Int) + k))
      have hbrH := Lib.hid hb
      clear hN hb
      go_wp2_with fail
      refine HA.out.mono ?_
      rintro e w4 ⟨⟨x4, rfl⟩, v4, hN4, hb4, _⟩
      rw [show ((n : Int) + k) = ((n + k : Nat) : Int) by omega, ← lnN_succ] at hN4
      have hfin := Lib.hid (And.intro hN4 (hbrH.out.trans hb4))
      clear hN4 hb4 HA q0 q1
      go_wp2
      go_roundw
      case rel => exact ⟨k + 1, v4, by omega, by go_num, hfin.out⟩
      case measure => simp [intOf]; omega
    · obtain rfl : k = n := by omega
      have hNH := Lib.hid hN; have hbrH := Lib.hid hb
      clear hN hb
      go_wp2_with fail
      go_loopw [13, 51] (fun _ i wr => ∃ (m : Nat) (v : Value), m ≤ len ∧ i = .int .i64 m ∧ NA w1.heap.size (2 * (k : Int)) (lnN k k ++ lnE k (es.take m)) v wr ∧ Below w1.heap.size w1 wr) (fun _ i _ => len - (intOf i).toNat)
      case atStart => exact ⟨0, v, Nat.zero_le _, rfl, by simpa [lnE] using hNH.out, hbrH.out⟩
      case round =>
        clear hNH hbrH q0 q1
        obtain ⟨m, v5, hm, rfl, hN, hb⟩ := hrel
        have q0 := (hK1H.out.below hb hs1).cell (j := 0) (v := .int .i64 k) rfl
        have q1 := (hK1H.out.below hb hs1).cell (j := 1) (v := .slice A len cap) rfl
        by_cases hlt2 : m < len
        · obtain ⟨be, oe, rfl, _, c0, c1, c2⟩ := ((hrH.out.later hbH.out).later hb).triple hlt2
          have hke : m < es.length := by rw [helH.out]; exact hlt2
          have hts := Lib.hid (take_succ_getD' es (0, 0, 0) m hke)
          obtain ⟨u, z, c, hat, hu, hz, _⟩ := ok_at hokH.out hke
          rw [hat] at c0 c1 c2 hts
          dsimp only at c0 c1 c2
          have hlen5 : (lnN k k ++ lnE k (es.take m)).length ≤ 100 := by
            rw [List.length_append, lnN_len, lnE_len, List.length_take]; omega
          have hE := Blk.new wr 45 #[.int .i64 (u : Int), .int .i64 (z : Int), .int .i64 c]
          have hEv : v5.ownBlock ≠ some wr.heap.size := fun e => by have := (hN.ow.lt _ e).2; omega
          have hp1 := hN.lt
          have HA := Lib.hid (arc_any w1.heap.size (2 * (k : Int)) (lnN k k ++ lnE k (es.take m)) v5 _ (hN.alloc (.cells #[.int .i64 (u : Int), .int .i64 (z : Int), .int .i64 c] 45)) (by omega) ((k : Int) + u) z)
          have e0 := hE.cell (j := 0) (v := .int .i64 (u : Int)) rfl
          have e1 := hE.cell (j := 1) (v := .int .i64 (z : Int)) rfl
          have hbrH := Lib.hid (hb.alloc hb.size (.cells #[.int .i64 (u : Int), .int .i64 (z : Int), .int .i64 c] 45))
          have q0a := (hK1H.out.below hbrH.out hs1).cell (j := 0) (v := .int .i64 k) rfl
          have hEH := Lib.hid hE
          have hkuI : IntKind.i64.wrap ((k : Int) + u) = (k : Int) + u := IntWalk.i64_in _ (by omega)
          clear hN hb hE hat
          go_wp2_with fail
          refine HA.out.mono ?_
          rintro e w4 ⟨⟨x4, rfl⟩, v4, hN4, hb4, hk4⟩
          obtain ⟨hE4, hEv4⟩ := hk4 wr.heap.size _ _ hEH.out (by omega) hEv
          have hb4' := hbrH.out.trans hb4
          have q0 := (hK1H.out.below hb4' hs1).cell (j := 0) (v := .int .i64 k) rfl
          have e0 := hE4.cell (j := 0) (v := .int .i64 (u : Int)) rfl
          have e1 := hE4.cell (j := 1) (v := .int .i64 (z : Int)) rfl
          have HA2 := Lib.hid (arc_any w1.heap.size (2 * (k : Int)) _ v4 w4 hN4 (by rw [List.length_append, List.length_singleton]; omega) ((k : Int) + z) u)
          have hb4H := Lib.hid hb4'
          clear hN4 hb4 hk4 hb4' HA hE4 hEv hEv4 q0a c0 c1 c2
          go_wp2_with fail
          refine HA2.out.mono ?_
          rintro e w6 ⟨⟨x6, rfl⟩, v6, hN6, hb6, _⟩
          rw [List.append_assoc, List.append_assoc, ← List.append_assoc (lnE k (es.take m)), ← lnE_snoc k (es.take m) ((u : Int), (z : Int), c), ← hts.out] at hN6
          have hfin := Lib.hid (And.intro hN6 (hb4H.out.trans hb6))
          clear hN6 hb6 HA2 q0 e0 e1 hlen5
          go_wp2
          go_roundw
          case rel => exact ⟨m + 1, v6, by omega, by go_num, hfin.out⟩
          case measure => simp [intOf]; omega
        · obtain rfl : m = len := by omega
          rw [List.take_of_length_le (by rw [helH.out]; exact Nat.le_refl _)] at hN
          have hNL : NA w1.heap.size (2 * (k : Int)) (LN k es) v5 wr := hN
          have k0 := hNL.bk.cell (j := 0) (v := .int .i64 (2 * (k : Int))) rfl
          obtain ⟨A7, c7, rfl⟩ := own_slice hNL.ow
          have k1 := hNL.bk.cell (j := 1) rfl
          have HFi := Lib.hid (fill_any (2 * k) (LN k es).length (LN k es) A7 c7 wr (Rd.of_own hNL.ow) hHN.out.ok (by rw [hLNlH.out]; omega) (by omega) (k + x) y (by omega) (by omega) (by omega))
          have hNH := Lib.hid hNL; have hbrH := Lib.hid hb
          have hc2 : ((2 * k : Nat) : Int) = 2 * (k : Int) := by omega
          have hc3 : ((k + x : Nat) : Int) = (k : Int) + x := by omega
          rw [hc2, hc3] at HFi
          clear hN hb hNL hc2 hc3
          go_wp2_with fail
          refine HFi.out.mono ?_
          rintro e w6 ⟨f, v, gl, c8, rfl, hown, hM6, hv0, hb6⟩
          have hHF := Lib.hid (show HF k (adj es) (LN k es) x y f v from ⟨hHN.out, hM6.fl, hM6.ni, hx, hy⟩)
          have hct := Lib.hid hM6.ct
          have hfR := Lib.hid (Rd.of_own hown)
          have hb6' := hbrH.out.trans (hb6.mono hbrH.out.size)
          have hN6 := hNH.out.later hb6
          have q0 := (hK1H.out.below hb6' hs1).cell (j := 0) (v := .int .i64 k) rfl
          have k1 := hN6.bk.cell (j := 1) rfl
          have hb6H := Lib.hid hb6'
          have hlR := Lib.hid (Rd.of_own hN6.ow)
          have hpl6 := hN6.lt
          have hK6 := Lib.hid (hK1H.out.below hb6' hs1)
          have hN6H := Lib.hid hN6
          clear hown hM6 hb6 hb6' hN6 HFi hNH hbrH q1 k0
          go_wp2_with (at_make; refine wpList_mk1 _ tiQ2 w6.heap.size k (by omega) (by omega) (Nat.le_refl _) rfl rfl rfl rfl rfl rfl rfl ?_)
          intro w7 hmk hg7
          have hX0 := Lib.hid (NX.start hmk)
          have hb7 := hb6H.out.grown hg7 hb6H.out.size (fun r e => by cases e)
          have hb67 : Below w6.heap.size w6 w7 := ⟨hg7.os, hg7.tape, hg7.output, hg7.size, fun j hj => hg7.block j hj (by simp)⟩
          have q0 := (hK1H.out.below hb7 hs1).cell (j := 0) (v := .int .i64 k) rfl
          have k1 := (hN6H.out.later hb67).bk.cell (j := 1) rfl
          have hb67H := Lib.hid hb67
          have hg67 := hg7.size
          have hmg := hX0.out.glt
          have hMl := hLNlH.out
          clear hmk hg7 hb7 hb67 hN6H
          obtain ⟨l, hl⟩ : ∃ l, LN k es = l := ⟨_, rfl⟩
          obtain ⟨M, hM⟩ : ∃ M, l.length = M := ⟨_, rfl⟩
          rw [hl, hM] at hMl
          rw [hl] at hHF hct hlR k1
          rw [hl, hM] at hfR
          rw [hM] at hlR k1
          rw [hl, hM]
          have hlH := Lib.hid hl; have hMH := Lib.hid hM
          have hM100 : M ≤ 100 := by omega
          clear hl hM hMl
          go_wp2_with fail
          go_loopw [17, 18, 90] (fun _ _ q wr => ∃ (j : Nat) (V : Nat → Value), j ≤ M ∧ q = .int .i64 j ∧ NX wr w6.heap.size w6.heap.size k V (fun u => nxt l f k j u) ∧ Below w6.heap.size w6 wr) (fun _ _ q _ => M - (intOf q).toNat)
          case atStart => exact ⟨0, _, Nat.zero_le _, rfl, hX0.out, hb67H.out⟩
          case round =>
            clear hX0 hb67H q0 k1
            obtain ⟨j, V, hj, rfl, hX, hb⟩ := hrel
            have q0 := (hK6.out.below hb (by omega)).cell (j := 0) (v := .int .i64 k) rfl
            have hsr := hb.size
            by_cases hjl : j < M
            · obtain ⟨ba, oa, rfl, _, a0, a1, a2, a3⟩ := (hlR.out.later hb).arc hjl
              obtain ⟨_, _, e, hglt, cf⟩ := (hfR.out.later hb).row hjl
              injection e with e; injection e with e1 e2
              subst e1; subst e2
              have hjl2 : j < l.length := by rw [hMH.out]; exact hjl
              have hnk := hHF.out.hn.ok.at hjl2
              have hf01 := hHF.out.hn.f01 hHF.out.fl hjl2
              have hns := Lib.hid (nxt_succ l f k j)
              have hlohi : (fr l j < k) ∨ ∃ u z, u < k ∧ z < k ∧ fr l j = k + u ∧ tn l j = z := by
                by_cases h : j < k
                · left; rw [(hHF.out.hn.lo j h).1]; exact h
                · obtain ⟨u, z, h1, h2, h3, h4, _⟩ := hHF.out.hn.hi j (by omega) hjl2
                  exact .inr ⟨u, z, h1, h2, h3, h4⟩
              rw [hnk.2.2.2.2.2.1] at a0
              rw [hnk.2.2.2.2.2.2] at a1
              have hfr2 := hnk.1
              generalize fr l j = F at *
              generalize tn l j = T at *
              generalize (aat l j).2.2.1 = x3 at *
              generalize (aat l j).2.2.2 = x4 at *
              generalize f j = fj at *
              have hbW := (Below.refl _ wr).alloc (Nat.le_refl _) (.cells #[.int .i64 (F : Int), .int .i64 (T : Int), .int .i64 x3, .int .i64 x4] 42)
              have hE := Blk.new wr 42 #[.int .i64 (F : Int), .int .i64 (T : Int), .int .i64 x3, .int .i64 x4]
              have e0 := hE.cell (j := 0) (v := .int .i64 (F : Int)) rfl
              have e1 := hE.cell (j := 1) (v := .int .i64 (T : Int)) rfl
              have cf2 := below_cell hbW hglt cf
              rw [Nat.zero_add] at cf2
              have hXH := Lib.hid (hX.later hbW)
              have hbrH := Lib.hid (hb.trans (hbW.mono hb.size))
              have q0a := (hK6.out.below hbrH.out (by omega)).cell (j := 0) (v := .int .i64 k) rfl
              by_cases hgo : 0 < fj ∧ k ≤ F
              · obtain ⟨u, z, hu, hz, hFu, hTz⟩ : ∃ u z, u < k ∧ z < k ∧ F = k + u ∧ T = z := by
                  rcases hlohi with h | h
                  · omega
                  · exact h
                subst hTz
                have hFH := Lib.hid hFu
                obtain ⟨hgo1, hgo2⟩ := hgo
                have cV := hXH.out.cell hu
                have hVr := hXH.out.row u hu
                obtain ⟨Au, cu, hVu⟩ := own_slice hVr
                rw [hVu] at cV
                have hEH := Lib.hid hE
                have hsW : (wr.alloc (.cells #[.int .i64 (F : Int), .int .i64 (T : Int), .int .i64 x3, .int .i64 x4] 42)).heap.size = wr.heap.size + 1 := by simp
                have hgi : (k : Int) ≤ (F : Int) := by omega
                have hui : (F : Int) - k = (u : Int) := by omega
                have hwf : IntKind.i64.wrap (u : Int) = (u : Int) := IntWalk.i64_in _ (by omega)
                have hFI : (F : Int) < 2 * k := by omega
                have hu0 : (0 : Int) ≤ u := by omega
                have huk : (u : Int) < k := by omega
                have hXr := hX.row u hu
                clear hX hb hE hbW hnk hf01 hlohi hFu
                have hVr0 := Lib.hid hXr
                clear hVr hXr
                go_upto_region 23 with fail
                have hVlt := Lib.hid (fun g (e : (V u).ownBlock = some g) => hVr0.out.lt g e)
                clear hsW
                generalize wr.alloc (.cells #[.int .i64 (F : Int), .int .i64 (T : Int), .int .i64 x3, .int .i64 x4] 42) = wa at *
                refine region_last (fun w' => w'.cell? ⟨wr.heap.size, 0, none⟩ = some (.int .i64 (F : Int)) ∧ w'.cell? ⟨wr.heap.size, 1, none⟩ = some (.int .i64 (T : Int)) ∧ w'.cell? ⟨w.heap.size, 0, none⟩ = some (.int .i64 (k : Int)) ∧ w'.cell? ⟨w6.heap.size, u, none⟩ = some (.slice Au (nxt l f k j u).length cu)) (by kernel_rfl) rfl (by kernel_rfl) ⟨e0, e1, q0a, cV⟩ (fun hHeld => ?_)
                dsimp only [List.dropLast]
                have hXd := Lib.hid hXH.out.drew
                have hEd := Lib.hid (show Blk wa.drew wr.heap.size 42 #[.int .i64 (F : Int), .int .i64 (T : Int), .int .i64 x3, .int .i64 x4] from hEH.out)
                have hbd := Lib.hid hbrH.out.drew
                have hKd := Lib.hid (hK6.out.below hbd.out (by omega))
                clear e0 e1 q0a cV hXH hEH hbrH cf2 cf a0 a1 a2 a3
                generalize wa.drew = wd at *
                (refine wpAnyH_take (i := 0) (v := ?_) rfl (by kernel_rfl) (by kernel_rfl) (by kernel_rfl) (fun _ _ _ h => h) (Or.inl ⟨by rfl, ?_⟩) hHeld ?_; rotate_left; first | (intro w' hSw; go_simp; done) | (intro w' hSw; go_simp; with_reducible rfl))
                simp only [Act.put, List.getElem_toArray, List.getElem_cons_zero, List.setIfInBounds_toArray, List.set_cons_zero, List.set_cons_succ]
                (refine wpAnyH_take (i := 1) (v := ?_) rfl (by kernel_rfl) (by kernel_rfl) (by kernel_rfl) (fun _ _ _ h => h) (Or.inl ⟨by rfl, ?_⟩) hHeld ?_; rotate_left; first | (intro w' hSw; go_simp; done) | (intro w' hSw; go_simp; with_reducible rfl))
                simp only [Act.put, List.getElem_toArray, List.getElem_cons_zero, List.getElem_cons_succ, List.setIfInBounds_toArray, List.set_cons_zero, List.set_cons_succ]
                (refine wpAnyH_take (i := 2) (v := ?_) rfl (by kernel_rfl) (by kernel_rfl) (by kernel_rfl) (fun _ _ _ h => h) (Or.inl ⟨by rfl, ?_⟩) hHeld ?_; rotate_left; first | (intro w' hSw; (have hq := hSw.1); go_simp; done) | (intro w' hSw; (have hq := hSw.1); go_simp; with_reducible rfl))
                simp only [Act.put, List.getElem_toArray, List.getElem_cons_zero, List.getElem_cons_succ, List.setIfInBounds_toArray, List.set_cons_zero, List.set_cons_succ]
                (refine wpAnyH_take (i := 3) (v := ?_) rfl (by kernel_rfl) (by kernel_rfl) (by kernel_rfl) (fun _ _ _ h => h) (Or.inl ⟨by rfl, ?_⟩) hHeld ?_; rotate_left; first | (intro w' hSw; go_simp; done) | (intro w' hSw; go_simp; with_reducible rfl))
                simp only [Act.put, List.getElem_toArray, List.getElem_cons_zero, List.getElem_cons_succ, List.setIfInBounds_toArray, List.set_cons_zero, List.set_cons_succ]
                (refine wpAnyH_take (i := 4) (v := ?_) rfl (by kernel_rfl) (by kernel_rfl) (by kernel_rfl) (fun _ _ _ h => h) (Or.inl ⟨by rfl, ?_⟩) hHeld ?_; rotate_left; first | (intro w' hSw; (have hq := hSw.2.2.1); go_simp; done) | (intro w' hSw; (have hq := hSw.2.2.1); go_simp; with_reducible rfl))
                simp only [Act.put, List.getElem_toArray, List.getElem_cons_zero, List.getElem_cons_succ, List.setIfInBounds_toArray, List.set_cons_zero, List.set_cons_succ]
                (refine wpAnyH_take (i := 5) (v := ?_) rfl (by kernel_rfl) (by kernel_rfl) (by kernel_rfl) (fun _ _ _ h => h) (Or.inl ⟨by rfl, ?_⟩) hHeld ?_; rotate_left; first | (intro w' hSw; go_simp; done) | (intro w' hSw; go_simp; with_reducible rfl))
                simp only [Act.put, List.getElem_toArray, List.getElem_cons_zero, List.getElem_cons_succ, List.setIfInBounds_toArray, List.set_cons_zero, List.set_cons_succ]
                (refine wpAnyH_take (i := 6) (v := ?_) rfl (by kernel_rfl) (by kernel_rfl) (by kernel_rfl) (fun _ _ _ h => h) (Or.inl ⟨by rfl, ?_⟩) hHeld ?_; rotate_left; first | (intro w' hSw; go_simp; done) | (intro w' hSw; go_simp; with_reducible rfl))
                simp only [Act.put, List.getElem_toArray, List.getElem_cons_zero, List.getElem_cons_succ, List.setIfInBounds_toArray, List.set_cons_zero, List.set_cons_succ]
                (refine wpAnyH_take (i := 7) (v := ?_) rfl (by kernel_rfl) (by kernel_rfl) (by kernel_rfl) (fun _ _ _ h => h) (Or.inl ⟨by rfl, ?_⟩) hHeld ?_; rotate_left; first | (intro w' hSw; go_simp; done) | (intro w' hSw; go_simp; with_reducible rfl))
                simp only [Act.put, List.getElem_toArray, List.getElem_cons_zero, List.getElem_cons_succ, List.setIfInBounds_toArray, List.set_cons_zero, List.set_cons_succ]
                (refine wpAnyH_take (i := 8) (v := ?_) rfl (by kernel_rfl) (by kernel_rfl) (by kernel_rfl) (fun _ _ _ h => h) (Or.inl ⟨by rfl, ?_⟩) hHeld ?_; rotate_left; first | (intro w' hSw; (have hq := hSw.1); go_simp; done) | (intro w' hSw; (have hq := hSw.1); go_simp; with_reducible rfl))
                simp only [Act.put, List.getElem_toArray, List.getElem_cons_zero, List.getElem_cons_succ, List.setIfInBounds_toArray, List.set_cons_zero, List.set_cons_succ]
                (refine wpAnyH_take (i := 9) (v := ?_) rfl (by kernel_rfl) (by kernel_rfl) (by kernel_rfl) (fun _ _ _ h => h) (Or.inl ⟨by rfl, ?_⟩) hHeld ?_; rotate_left; first | (intro w' hSw; go_simp; done) | (intro w' hSw; go_simp; with_reducible rfl))
                simp only [Act.put, List.getElem_toArray, List.getElem_cons_zero, List.getElem_cons_succ, List.setIfInBounds_toArray, List.set_cons_zero, List.set_cons_succ]
                (refine wpAnyH_take (i := 10) (v := ?_) rfl (by kernel_rfl) (by kernel_rfl) (by kernel_rfl) (fun _ _ _ h => h) (Or.inl ⟨by rfl, ?_⟩) hHeld ?_; rotate_left; first | (intro w' hSw; (have hq := hSw.2.2.1); go_simp; done) | (intro w' hSw; (have hq := hSw.2.2.1); go_simp; with_reducible rfl))
                simp only [Act.put, List.getElem_toArray, List.getElem_cons_zero, List.getElem_cons_succ, List.setIfInBounds_toArray, List.set_cons_zero, List.set_cons_succ]
                (refine wpAnyH_take (i := 11) (v := ?_) rfl (by kernel_rfl) (by kernel_rfl) (by kernel_rfl) (fun _ _ _ h => h) (Or.inl ⟨by rfl, ?_⟩) hHeld ?_; rotate_left; first | (intro w' hSw; go_simp; done) | (intro w' hSw; go_simp; with_reducible rfl))
                simp only [Act.put, List.getElem_toArray, List.getElem_cons_zero, List.getElem_cons_succ, List.setIfInBounds_toArray, List.set_cons_zero, List.set_cons_succ]
                (refine wpAnyH_take (i := 12) (v := ?_) rfl (by kernel_rfl) (by kernel_rfl) (by kernel_rfl) (fun _ _ _ h => h) (Or.inl ⟨by rfl, ?_⟩) hHeld ?_; rotate_left; first | (intro w' hSw; go_simp; done) | (intro w' hSw; go_simp; with_reducible rfl))
                simp only [Act.put, List.getElem_toArray, List.getElem_cons_zero, List.getElem_cons_succ, List.setIfInBounds_toArray, List.set_cons_zero, List.set_cons_succ]
                (refine wpAnyH_take (i := 13) (v := ?_) rfl (by kernel_rfl) (by kernel_rfl) (by kernel_rfl) (fun _ _ _ h => h) (Or.inl ⟨by rfl, ?_⟩) hHeld ?_; rotate_left; first | (intro w' hSw; (have hq := hSw.2.2.2); go_simp; done) | (intro w' hSw; (have hq := hSw.2.2.2); go_simp; with_reducible rfl))
                simp only [Act.put, List.getElem_toArray, List.getElem_cons_zero, List.getElem_cons_succ, List.setIfInBounds_toArray, List.set_cons_zero, List.set_cons_succ]
                (refine wpAnyH_take (i := 14) (v := ?_) rfl (by kernel_rfl) (by kernel_rfl) (by kernel_rfl) (fun _ _ _ h => h) (Or.inl ⟨by rfl, ?_⟩) hHeld ?_; rotate_left; first | (intro w' hSw; go_simp; done) | (intro w' hSw; go_simp; with_reducible rfl))
                simp only [Act.put, List.getElem_toArray, List.getElem_cons_zero, List.getElem_cons_succ, List.setIfInBounds_toArray, List.set_cons_zero, List.set_cons_succ]
                (refine wpAnyH_take (i := 15) (v := ?_) rfl (by kernel_rfl) (by kernel_rfl) (by kernel_rfl) (fun _ _ _ h => h) (Or.inl ⟨by rfl, ?_⟩) hHeld ?_; rotate_left; first | (intro w' hSw; (have hq := hSw.2.1); go_simp; done) | (intro w' hSw; (have hq := hSw.2.1); go_simp; with_reducible rfl))
                simp only [Act.put, List.getElem_toArray, List.getElem_cons_zero, List.getElem_cons_succ, List.setIfInBounds_toArray, List.set_cons_zero, List.set_cons_succ]
                have hX2 := Lib.hid (hXd.out.alloc (.cells #[.int .i64 (T : Int)] 3))
                have hE2 := Lib.hid (hEd.out.alloc (.cells #[.int .i64 (T : Int)] 3))
                have hK2 := Lib.hid (hKd.out.alloc (.cells #[.int .i64 (T : Int)] 3))
                have hb2 := Lib.hid (hbd.out.alloc hbd.out.size (.cells #[.int .i64 (T : Int)] 3))
                have hrd := Lib.hid (rd_new1 wd (.int .i64 (T : Int)) 3)
                have cV2 := hX2.out.cell hu
                rw [hVu] at cV2
                have hrow0 := hX2.out.row u hu
                rw [hVu] at hrow0
                have hrow := Lib.hid hrow0
                clear hrow0
                refine wpAnyH_ready (rs := [16]) (by kernel_rfl) (by simp) ?_
                refine AllReadyH.cons rfl (fun K hK => ?_) AllReadyH.nil
                go_simp
                refine hK.out _ _ ⟨hE2.out.cell (j := 0) rfl, hE2.out.cell (j := 1) rfl, hK2.out.cell (j := 0) rfl, cV2⟩ (fun hHeld => ?_)
                clear hK K
                (try simp only [Act.put, List.getElem_toArray, List.getElem_cons_zero, List.getElem_cons_succ, List.setIfInBounds_toArray, List.set_cons_zero, List.set_cons_succ])
                have hFl := nxt_len_le l f k j u
                have hs2 := hb2.out.size
                have hsz2 : (wd.alloc (.cells #[.int .i64 (T : Int)] 3)).heap.size = wd.heap.size + 1 := by simp
                clear hXd hEd hKd hbd cV2
                generalize hbL : wd.heap.size = bL at *
                generalize wd.alloc (.cells #[.int .i64 (T : Int)] 3) = we at *
                refine wpAnyH_ready (rs := [17]) (by kernel_rfl) (by simp) ?_
                refine AllReadyH.cons rfl (fun K hK => ?_) AllReadyH.nil
                refine step_app (s := .tmp 120) (x := .tmp 123) _ tiIl hrow.out hrd.out (ints_one (l := [(T : Int)])) (by omega) (by omega) hs2 rfl rfl rfl rfl ?_
                intro v' w9 hown9 hg9 hat9
                obtain ⟨g9, c9, rfl⟩ := ownsRow_succ hown9
                have hg9' : we.grownBy w9 (V u).ownBlock := by rw [hVu]; exact hg9
                have hat9' : (Value.slice (some ⟨g9, 0, none⟩) ((nxt l f k j u).length + 1) c9).ownBlock = (V u).ownBlock ∨ (Value.slice (some ⟨g9, 0, none⟩) ((nxt l f k j u).length + 1) c9).ownBlock = some we.heap.size := by rw [hVu]; exact hat9
                have ho9 := hX2.out.out.kept hg9' (.inr fun e => hX2.out.ne u hu e.symm)
                have hc9 : w9.cell? ⟨w6.heap.size, u, none⟩ = some (.slice Au (nxt l f k j u).length cu) := by rw [ho9.cellAt u (by omega), ← hVu]; simp [hu]
                have hf9 := ho9.frozenAt u
                have hl9 := (ho9.lt _ rfl).2
                have hE9 := hE2.out.kept hg9' (fun e => by have := (hVlt.out _ e.symm).2; omega)
                have hK9 := hK2.out.kept hg9' (fun e => by have := (hVlt.out _ e.symm).1; omega)
                have hN9 := Lib.hid ((hX2.out.app (x := T) hu hown9 hg9' hat9').congr (F' := fun i => nxt l f k (j + 1) i) fun i hi => by
                  rw [hns.out i]
                  by_cases e : i = u
                  · subst e; rw [if_pos rfl, if_pos ⟨hgo1, hFH.out⟩]
                  · rw [if_neg e, if_neg (fun h => e (by have := hFH.out; omega)), List.append_nil])
                have hb9H := Lib.hid ((hb2.out.grown hg9' hs2 (fun g e => (hVlt.out g e).1)).setCell (p := ⟨w6.heap.size, u, none⟩) (Nat.le_refl _) (.slice (some ⟨g9, 0, none⟩) ((nxt l f k j u).length + 1) c9))
                refine hK.out _ _ ⟨hE9.cell (j := 0) rfl, hE9.cell (j := 1) rfl, hK9.cell (j := 0) rfl, hc9⟩ (fun hHeld => ?_)
                clear hK K
                (try simp only [Act.put, List.getElem_toArray, List.getElem_cons_zero, List.getElem_cons_succ, List.setIfInBounds_toArray, List.set_cons_zero, List.set_cons_succ])
                clear hg9' hat9' hown9 hg9 hat9 ho9 hE9 hK9
                (refine wpAnyH_take (i := 18) (v := ?_) rfl (by kernel_rfl) (by kernel_rfl) (by kernel_rfl) (fun _ _ _ h => h) (Or.inl ⟨by rfl, ?_⟩) hHeld ?_; rotate_left; first | (intro w' hSw; go_simp; done) | (intro w' hSw; go_simp; with_reducible rfl))
                simp only [Act.put, List.getElem_toArray, List.getElem_cons_zero, List.getElem_cons_succ, List.setIfInBounds_toArray, List.set_cons_zero, List.set_cons_succ]
                refine wpAnyH_done (by kernel_rfl) ?_ _
                clear hHeld
                show Oper.wp _ _ _ _ _ _
                go_simp
                go_wp2
                go_roundw
                case rel => exact ⟨j + 1, _, by omega, by go_num, hN9.out, hb9H.out⟩
                case measure => simp [intOf] <;> omega
              · have hns2 := Lib.hid (show ∀ u, nxt l f k (j + 1) u = nxt l f k j u from fun u => by rw [hns.out u, if_neg (by omega), List.append_nil])
                have hX2 := Lib.hid (hXH.out.congr (F' := fun u => nxt l f k (j + 1) u) fun u _ => (hns2.out u).symm)
                clear hX hb hE hbW hns hnk hf01 hlohi
                by_cases hf0 : 0 < fj
                · have hFk : ¬ (k : Int) ≤ F := by omega
                  clear hgo
                  go_wp2
                  go_roundw
                  case rel => exact ⟨j + 1, V, by omega, by go_num, hX2.out, hbrH.out⟩
                  case measure => simp [intOf]; omega
                · clear hgo
                  go_wp2
                  go_roundw
                  case rel => exact ⟨j + 1, V, by omega, by go_num, hX2.out, hbrH.out⟩
                  case measure => simp [intOf]; omega
            · obtain rfl : j = M := by omega
              rename World => w8
              have hXf := hX.congr (F' := fun u => nxt l f k l.length u) fun u _ => by rw [hMH.out]
              have hKv := hHF.out.out_a
              obtain ⟨K, hK0⟩ : ∃ K, (nxt l f k l.length x).length = K := ⟨_, rfl⟩
              have cx0 := hXf.cell hx
              have hrx := hXf.row x hx
              obtain ⟨Ax, cx, hVx⟩ := own_slice hrx
              rw [hVx] at cx0 hrx
              have hKl : K ≤ 100 := by
                have h1 := nxt_len_le l f k l.length x
                rw [hK0] at h1
                have := hMH.out
                omega
              rw [hK0] at cx0 hKv
              have hK0H := Lib.hid hK0
              have hrxH := Lib.hid (Rd.of_own hrx)
              have hXH := Lib.hid hXf
              have hbrH := Lib.hid (hb6H.out.trans (hb.mono hb6H.out.size))
              have hfin := Lib.hid (show HF k (adj es) (LN k es) x y f K ∧ (∃ S : Nat → Bool, S (k + x) = true ∧ S y = false ∧ capS (LN k es) S = K) from by
                rw [hlH.out, hKv]; exact ⟨hHF.out, hct.out⟩)
              have hx0 : (0 : Int) ≤ x := by omega
              have hxk : (x : Int) < k := by omega
              have hyI : (0 : Int) ≤ y := by omega
              clear hX hb hXf hrx hK0 hKv q0 hct hfR hlR
              go_wp2_with fail
              go_loopw [19, 21, 22, 132] (fun o _ _ q wr => ∃ (i : Nat) (xs : List Value), i ≤ K ∧ q = .int .i64 i ∧ wr.ownsRow w8.heap.size 49 1 o i xs ∧ Below w8.heap.size w8 wr) (fun _ _ _ q _ => K - (intOf q).toNat)
              case atStart => exact ⟨0, [], Nat.zero_le _, rfl, World.ownsRow_nil _ _ _ _, Below.refl _ _⟩
              case round =>
                rename World => wo
                obtain ⟨i, xs, hi, rfl, ho, hb⟩ := hrel
                obtain ⟨Ao, co, rfl⟩ := own_slice ho
                by_cases hiK : i < K
                · have hso := hb.size
                  have hiK2 : i < (nxt l f k l.length x).length := by rw [hK0H.out]; exact hiK
                  obtain ⟨bx, ox, rfl, hbx, ci⟩ := (hrxH.out.later hb).int hiK2
                  rw [natI_at hiK2] at ci
                  have hjm : (nxt l f k l.length x).getD i 0 ∈ nxt l f k l.length x := by simp [List.getD, hiK2]
                  have hCh := Lib.hid (hHF.out.start hxy hjm)
                  generalize (nxt l f k l.length x).getD i 0 = j0 at *
                  have hlit := World.ownsRow_lit (base := wo.heap.size) (e := 3) (size := 1) wo #[.int .i64 (x : Int)] 1 (Nat.le_refl _) (by unfold maxLen; omega) (by simp)
                  have hlitH := Lib.hid (show (wo.alloc (.cells #[.int .i64 (x : Int)] 3)).ownsRow wo.heap.size 3 1 (.slice (some ⟨wo.heap.size, 0, none⟩) 1 1) ([x] : List Nat).length (ints .i64 (natI [x])) from hlit)
                  have hb5 := Lib.hid ((Below.refl _ wo).alloc (Nat.le_refl _) (.cells #[.int .i64 (x : Int)] 3))
                  have hoH := Lib.hid ho; have hboH := Lib.hid hb
                  clear ho hb hlit hjm
                  go_wp2_with fail
                  go_loopw [21, 22] (fun jv wv wr => ∃ (way : List Nat) (jn : Nat), jv = .int .i64 jn ∧ Ch l f k x y way jn ∧ wr.ownsRow wo.heap.size 3 1 wv way.length (ints .i64 (natI way)) ∧ Below wo.heap.size wo wr) (fun _ wv _ => k + 1 - (match wv with | .slice _ n _ => n | _ => 0))
                  case atStart => exact ⟨[x], j0, rfl, hCh.out, hlitH.out, hb5.out⟩
                  case round =>
                    clear hCh hlitH hb5
                    obtain ⟨way, jn, rfl, hC, hw, hb⟩ := hrel
                    obtain ⟨Aw, cw, rfl⟩ := own_slice hw
                    have hsw := hb.size
                    have hlen := hC.len
                    by_cases hjy : jn = y
                    · have hjyb : ((jn : Int) != y) = false := by rw [hjy]; simp
                      have hwH := Lib.hid hw; have hbwH := Lib.hid hb
                      have hlit := World.ownsRow_lit (base := wo.heap.size) (e := 3) (size := 1) wr #[.int .i64 (y : Int)] 1 (by omega) (by unfold maxLen; omega) (by simp)
                      have hrd := Lib.hid (rd_new1 wr (.int .i64 (y : Int)) 3)
                      clear hC hw hb hjy hlit
                      go_wp2_with (at_builtin; refine wpList_app (s := .tmp 152) (x := .tmp 154) _ tiIl (hwH.out.alloc _) hrd.out (ints_one (l := [(y : Int)])) (by omega) (by omega) (by simp; omega) rfl rfl rfl rfl ?_)
                      intro v2 w9 hown9 hg9 _
                      obtain ⟨g9, c9, rfl⟩ := ownsRow_succ hown9
                      have hb9 := Lib.hid ((hbwH.out.alloc hbwH.out.size (.cells #[.int .i64 (y : Int)] 3)).grown hg9 (by simp; omega) (fun g e => (hwH.out.lt g e).1))
                      have ho9 := Lib.hid (own_below hoH.out (by exact hb9.out))
                      have hrd2 := Lib.hid (rd_new1 w9 (.slice (some ⟨g9, 0, none⟩) (way.length + 1) c9) 49)
                      have hs9 := hb9.out.size
                      clear hown9 hg9 hwH hbwH
                      go_wp2_with (at_builtin; refine wpList_app (s := .tmp 151) (x := .tmp 156) _ tiQ2 (ho9.out.alloc _) hrd2.out (fun u hu => by simp at hu; subst hu; rfl) (by omega) (by omega) (by simp; omega) rfl rfl rfl rfl ?_)
                      intro v3 w11 hown11 hg11 _
                      have hb11 := Lib.hid (((hboH.out.trans (hb9.out.mono hboH.out.size)).alloc (by omega) (.cells #[.slice (some ⟨g9, 0, none⟩) (way.length + 1) c9] 49)).grown hg11 (by simp; omega) (fun g e => (hoH.out.lt g e).1))
                      have hoF := Lib.hid hown11
                      clear hown11 hg11
                      go_wp2
                      go_roundw
                      case rel => exact ⟨i + 1, _, by omega, by go_num, hoF.out, hb11.out⟩
                      case measure => simp [intOf]; omega
                    · have hjyb : ((jn : Int) != y) = true := by rw [bne_iff_ne]; omega
                      obtain ⟨p, _, hjp⟩ := hC.nx
                      have hjk := hHF.out.to_lt hjp
                      have hone := hHF.out.on hxy hjp hjy
                      have hCn := hHF.out.next hxy hC hjy
                      have hlen2 := hCn.len
                      rw [List.length_append, List.length_singleton] at hlen2
                      have hrj := hXH.out.row jn hjk
                      have cj0 := hXH.out.cell hjk
                      obtain ⟨Aj, cj, hVj⟩ := own_slice hrj
                      rw [hVj] at hrj cj0
                      obtain ⟨bj, oj, rfl, hbj, cjz⟩ := (Rd.of_own hrj).int (j := 0) (by omega)
                      rw [natI_at (by omega)] at cjz
                      rw [hone] at cj0
                      rw [Nat.add_zero] at cjz
                      have hbt := hboH.out.trans (hb.mono hboH.out.size)
                      have hwH := Lib.hid hw; have hbwH := Lib.hid hb; have hbtH := Lib.hid hbt; have hCnH := Lib.hid hCn
                      have hrd := Lib.hid (rd_new1 wr (.int .i64 (jn : Int)) 3)
                      have hjI : (0 : Int) ≤ jn := by omega
                      have hjkI : (jn : Int) < k := by omega
                      have hgl := hXH.out.glt
                      generalize (nxt l f k l.length jn).getD 0 0 = j2 at *
                      clear hC hw hb hrj hbt hCn hjp hjy hone hVj
                      go_wp2_with (at_builtin; refine wpList_app (s := .tmp 147) (x := .tmp 149) _ tiIl (hwH.out.alloc _) hrd.out (ints_one (l := [(jn : Int)])) (by omega) (by omega) (by simp; omega) rfl rfl rfl rfl ?_)
                      intro v2 w9 hown9 hg9 _
                      have hb9 := Lib.hid ((hbwH.out.alloc hbwH.out.size (.cells #[.int .i64 (jn : Int)] 3)).grown hg9 (by simp; omega) (fun g e => (hwH.out.lt g e).1))
                      have hbt9 := hboH.out.trans (hb9.out.mono hboH.out.size)
                      have d0 := below_cell hbt9 hgl.2 cj0
                      have d1 := below_cell hbt9 hbj cjz
                      obtain ⟨A9, c9, rfl⟩ := own_slice hown9
                      have hw9 := Lib.hid (show w9.ownsRow wo.heap.size 3 1 (.slice A9 (way.length + 1) c9) (way ++ [jn]).length (ints .i64 (natI (way ++ [jn]))) from by
                        rw [List.length_append, show natI (way ++ [jn]) = natI way ++ [(jn : Int)] by simp [natI], show ints .i64 (natI way ++ [(jn : Int)]) = ints .i64 (natI way) ++ [.int .i64 (jn : Int)] by simp [ints]]
                        exact hown9)
                      clear hown9 hg9 hbt9 cj0 cjz hwH
                      go_wp2
                      go_roundw
                      case rel => exact ⟨way ++ [jn], j2, rfl, hCnH.out, hw9.out, hb9.out⟩
                      case measure => simp; omega
                · obtain rfl : i = K := by omega
                  have hbF := Lib.hid (hbrH.out.trans (hb.mono hbrH.out.size))
                  clear ho hb
                  go_wp2
                  go_ret2
                  exact ⟨Ao, i, co, f, rfl, hfin.out.1, hfin.out.2, hbH.out.trans (hbF.out.mono hbH.out.size)⟩
end Go.Proofs.YteadceghjfaekaaDoor
