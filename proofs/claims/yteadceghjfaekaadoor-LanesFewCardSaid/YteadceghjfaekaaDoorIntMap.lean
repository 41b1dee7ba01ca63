/- A map from integers to integers of the call's own: block b reads as a partial function. -/
import Derived.Test.YteadceghjfaekaaDoorBase
import Derived.Maps.Own
import Derived.Maps.OwnOps
import Derived.Maps.OwnSet
namespace Go.Proofs.YteadceghjfaekaaDoor
open Go.RowKit Go.Maps

/-- block b of w is a map of at most n entries that reads as the function f -/
def IMap (P : Program) (k e : TypeId) (q : IntKind) (w : World) (b n : Nat) (f : Int → Option Int) : Prop :=
  ∃ D : DataW Unit, w.ownsMap P k (plainElem P e) b n D ∧ ∀ i : Int, Maps.has D (.int .i64 i) = (f i).isSome ∧ ∀ c, f i = some c → ∀ z, D.atKey (.int .i64 i) z = .lit (.int q c)
def updI (f : Int → Option Int) (k c : Int) : Int → Option Int := fun i => if i = k then some c else f i
section
variable {P : Program} {k e : TypeId} {q : IntKind} {w : World} {b n : Nat} {f : Int → Option Int}
theorem IMap.made (w : World) : IMap P k e q (w.alloc (.map #[] 0)) w.heap.size 0 fun _ => none :=
  ⟨.map [], World.ownsMap_made w P k _, fun i => ⟨rfl, fun c h => by cases h⟩⟩
theorem IMap.lt (h : IMap P k e q w b n f) : b < w.heap.size := by obtain ⟨D, h, _⟩ := h; exact h.lt
theorem IMap.mono (h : IMap P k e q w b n f) {n' : Nat} (hn : n ≤ n') : IMap P k e q w b n' f := by obtain ⟨D, h, h'⟩ := h; exact ⟨D, h.mono hn, h'⟩
theorem IMap.kept {w' : World} {row : Option Nat} (h : IMap P k e q w b n f) (hg : w.grownBy w' row) (hne : some b ≠ row) : IMap P k e q w' b n f := by obtain ⟨D, h, h'⟩ := h; exact ⟨D, h.kept hg hne, h'⟩
theorem IMap.alloc (h : IMap P k e q w b n f) (o : Obj) : IMap P k e q (w.alloc o) b n f := by obtain ⟨D, h, h'⟩ := h; exact ⟨D, h.alloc o, h'⟩
theorem IMap.drew (h : IMap P k e q w b n f) : IMap P k e q w.drew b n f := h
theorem IMap.drewN (h : IMap P k e q w b n f) (j : Nat) : IMap P k e q (w.drewN j) b n f := h
theorem IMap.later {w' : World} (h : IMap P k e q w b n f) (hb : Below w.heap.size w w') : IMap P k e q w' b n f :=
  h.kept (row := none) ⟨hb.os, hb.tape, hb.output, hb.size, fun i hi _ => hb.block i hi⟩ (by simp)
theorem IMap.below {w' : World} {B : Nat} (h : IMap P k e q w b n f) (hB : b < B) (hb : Below B w w') : IMap P k e q w' b n f := by
  obtain ⟨D, ⟨es, clock, h1, h2⟩, h'⟩ := h
  exact ⟨D, ⟨es, clock, by rw [hb.block b hB]; exact h1, h2⟩, h'⟩
theorem IMap.lookup {t : TypeId} (h : IMap P k e q w b n f) (hk : P.underlying k = some (.int .i64)) (ht : P.underlying t = some (.map k e)) (he : P.underlying e = some (.int q)) (hz : ∀ w, (zeroValue e).run P w = .ok (.int q 0) w)
    {i : Int} (hi : (Lit.int .i64 i).wf = true) : (Instr.lookup t (.map (some b)) (.int .i64 i) false).run P w = .ok (.int q ((f i).getD 0)) w := by
  obtain ⟨D, h, h'⟩ := h
  obtain ⟨c, hrun, hat, _⟩ := h.lookup_int (int_keyed hk) ht he (hz w) (keyOf_int_mk hk hi)
  rw [hrun]
  obtain ⟨h1, h2⟩ := h' i
  cases hf : f i with
  | none =>
    rw [hf] at h1
    rw [atKey_of_not_has (by simpa using h1)] at hat
    injection hat with hat; injection hat with _ hat
    rw [← hat]; rfl
  | some d =>
    rw [h2 d hf] at hat
    injection hat with hat; injection hat with _ hat
    rw [← hat]; rfl
theorem IMap.lookup_ok {t : TypeId} (h : IMap P k e q w b n f) (hk : P.underlying k = some (.int .i64)) (ht : P.underlying t = some (.map k e)) (he : P.underlying e = some (.int q)) (hz : ∀ w, (zeroValue e).run P w = .ok (.int q 0) w)
    {i : Int} (hi : (Lit.int .i64 i).wf = true) : (Instr.lookup t (.map (some b)) (.int .i64 i) true).run P w = .ok (.tuple #[.int q ((f i).getD 0), .bool (f i).isSome]) w := by
  obtain ⟨D, h, h'⟩ := h
  obtain ⟨v, ps, hrun, hv⟩ := h.look_ok (int_keyed hk) ht (hz w) (plainElem_int he (show (Lit.int q 0).wf = true by cases q <;> decide)) (keyOf_int_mk hk hi)
  rw [hrun]
  obtain ⟨h1, h2⟩ := h' i
  obtain ⟨c, rfl, hc, _⟩ := plainElem_int_inv he hv
  simp only [Prod.mk.injEq] at hc
  rw [h1]
  cases hf : f i with
  | none =>
    rw [hf] at h1
    have hat := hc.1
    rw [atKey_of_not_has (by simpa using h1)] at hat
    injection hat with hat; injection hat with _ hat
    rw [← hat]; rfl
  | some d =>
    have hat := hc.1
    rw [h2 d hf] at hat
    injection hat with hat; injection hat with _ hat
    rw [← hat]; rfl
theorem IMap.update {t : TypeId} (h : IMap P k e q w b n f) (hk : P.underlying k = some (.int .i64)) (ht : P.underlying t = some (.map k e)) (he : P.underlying e = some (.int q)) (hn : n < maxLen)
    {i c : Int} (hi : (Lit.int .i64 i).wf = true) (hc : (Lit.int q c).wf = true) : ∃ w', (Instr.mapUpdate t (.map (some b)) (.int .i64 i) (.int q c)).run P w = .ok () w' ∧ IMap P k e q w' b (n + 1) (updI f i c) ∧ w.mapTurned w' b := by
  obtain ⟨D, h, h'⟩ := h
  have hm := h.isMap
  obtain ⟨w', hrun, h2, h3⟩ := h.store (int_keyed hk) ht hn (keyOf_int_mk hk hi) (plainElem_int he hc)
  refine ⟨w', hrun, ⟨_, h2, fun j => ?_⟩, h3⟩
  by_cases hj : j = i
  · subst hj
    refine ⟨by rw [has_put_same hm (by trivial)]; simp [updI], fun d hd z => ?_⟩
    rw [atKey_put_same hm (by trivial)]
    simp [updI] at hd
    rw [hd]
  · have hne : (Lit.int .i64 j) ≠ .int .i64 i := by intro h; injection h with _ h; exact hj h
    rw [has_put_other hne, show updI f i c j = f j by simp [updI, hj]]
    exact ⟨(h' j).1, fun d hd z => by rw [atKey_put_other hne]; exact (h' j).2 d hd z⟩
end
/-- 'm[k] = v' at the operation -/
theorem wp_imap_update {P : Program} (w : World) {ops : Array Oper} {rest : List Oper} {o : Oper} {a : Act} {Q : Exit → Act → World → Prop}
    (hg : o.guard = none) (m x v : Operand) (t : TypeId) (hop : o.op = Op.mapUpdate t m x v) {k e : TypeId} {q : IntKind} (hk : P.underlying k = some (.int .i64)) (ht : P.underlying t = some (.map k e)) (he : P.underlying e = some (.int q))
    {b n : Nat} {f : Int → Option Int} (hm : a.eval m = .map (some b)) (h : IMap P k e q w b n f) (hn : n < maxLen) {i c : Int} (hx : a.eval x = .int .i64 i) (hv : a.eval v = .int q c) (hi : (Lit.int .i64 i).wf = true) (hc : (Lit.int q c).wf = true)
    (hK : ∀ w', IMap P k e q w' b (n + 1) (updI f i c) → w.mapTurned w' b → wpList P ops Q rest (a.put o.dst undef) w') : wpList P ops Q (o :: rest) a w := by
  obtain ⟨w', hrun, h2, h3⟩ := h.update (t := t) hk ht he hn hi hc
  refine wpList_plain hg fun K' hK' => ?_
  unfold Oper.wp
  simp [execOp, hop, hm, hx, hv, hrun, Result.andThen]
  exact hK' _ _ (hK w' h2 h3)
end Go.Proofs.YteadceghjfaekaaDoor
