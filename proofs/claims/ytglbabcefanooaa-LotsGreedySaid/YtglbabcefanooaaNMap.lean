/- A map from integers of the call's own, with how many it holds. -/
import Derived.Test.YtglbabcefanooaaIntMap
namespace Go.Proofs.Ytglbabcefanooaa
open Go.RowKit Go.Maps

def NMap (P : Program) (k e : TypeId) (q : IntKind) (w : World) (b n : Nat) (f : Int → Option Int) : Prop :=
  ∃ D : DataW Unit, w.ownsMap P k (plainElem P e) b n D ∧ Maps.size D = n ∧ ∀ i : Int, Maps.has D (.int .i64 i) = (f i).isSome ∧ ∀ c, f i = some c → ∀ z, D.atKey (.int .i64 i) z = .lit (.int q c)
section
variable {P : Program} {k e : TypeId} {q : IntKind} {w : World} {b n : Nat} {f : Int → Option Int}
theorem NMap.imap (h : NMap P k e q w b n f) : IMap P k e q w b n f := by obtain ⟨D, h1, _, h2⟩ := h; exact ⟨D, h1, h2⟩
theorem NMap.made (w : World) : NMap P k e q (w.alloc (.map #[] 0)) w.heap.size 0 fun _ => none :=
  ⟨.map [], World.ownsMap_made w P k _, rfl, fun i => ⟨rfl, fun c h => by cases h⟩⟩
theorem NMap.lt (h : NMap P k e q w b n f) : b < w.heap.size := h.imap.lt
theorem NMap.kept {w' : World} {row : Option Nat} (h : NMap P k e q w b n f) (hg : w.grownBy w' row) (hne : some b ≠ row) : NMap P k e q w' b n f := by obtain ⟨D, h, h'⟩ := h; exact ⟨D, h.kept hg hne, h'⟩
theorem NMap.alloc (h : NMap P k e q w b n f) (o : Obj) : NMap P k e q (w.alloc o) b n f := by obtain ⟨D, h, h'⟩ := h; exact ⟨D, h.alloc o, h'⟩
theorem NMap.drewN (h : NMap P k e q w b n f) (j : Nat) : NMap P k e q (w.drewN j) b n f := h
theorem NMap.update {t : TypeId} (h : NMap P k e q w b n f) (hk : P.underlying k = some (.int .i64)) (ht : P.underlying t = some (.map k e)) (he : P.underlying e = some (.int q)) (hn : n < maxLen)
    {i c : Int} (hi : (Lit.int .i64 i).wf = true) (hc : (Lit.int q c).wf = true) (hf : f i = none) : ∃ w', (Instr.mapUpdate t (.map (some b)) (.int .i64 i) (.int q c)).run P w = .ok () w' ∧ NMap P k e q w' b (n + 1) (updI f i c) ∧ w.mapTurned w' b := by
  obtain ⟨D, h, hs, h'⟩ := h
  have hm := h.isMap
  have htd := h.tidy (int_keyed hk)
  obtain ⟨w', hrun, h2, h3⟩ := h.store (int_keyed hk) ht hn (keyOf_int_mk hk hi) (plainElem_int he hc)
  refine ⟨w', hrun, ⟨_, h2, ?_, fun j => ?_⟩, h3⟩
  · rw [size_put htd, (h' i).1, hf, hs]
    rfl
  · by_cases hj : j = i
    · subst hj
      refine ⟨by rw [has_put_same hm (by trivial)]; simp [updI], fun d hd z => ?_⟩
      rw [atKey_put_same hm (by trivial)]
      simp [updI] at hd
      rw [hd]
    · have hne : (Lit.int .i64 j) ≠ .int .i64 i := by intro h; injection h with _ h; exact hj h
      rw [has_put_other hne, show updI f i c j = f j by simp [updI, hj]]
      exact ⟨(h' j).1, fun d hd z => by rw [atKey_put_other hne]; exact (h' j).2 d hd z⟩
theorem owns_tight {R : Value → Option (DataW Unit × List MemPlace)} {m : Nat} {D : DataW Unit} (h : w.ownsMap P k R b m D) : w.ownsMap P k R b (Maps.size D) D := by
  obtain ⟨es, clock, hb, F, _, rfl⟩ := h
  refine ⟨es, clock, hb, F, ?_, rfl⟩
  change es.size ≤ List.length _
  rw [length_sorted]; simp
theorem NMap.put {t : TypeId} (h : NMap P k e q w b n f) (hk : P.underlying k = some (.int .i64)) (ht : P.underlying t = some (.map k e)) (he : P.underlying e = some (.int q)) (hn : n < maxLen)
    {i c : Int} (hi : (Lit.int .i64 i).wf = true) (hc : (Lit.int q c).wf = true) : ∃ w', (Instr.mapUpdate t (.map (some b)) (.int .i64 i) (.int q c)).run P w = .ok () w' ∧ NMap P k e q w' b (if (f i).isSome then n else n + 1) (updI f i c) ∧ w.mapTurned w' b := by
  obtain ⟨D, h, hs, h'⟩ := h
  have hm := h.isMap
  have htd := h.tidy (int_keyed hk)
  obtain ⟨w', hrun, h2, h3⟩ := h.store (int_keyed hk) ht hn (keyOf_int_mk hk hi) (plainElem_int he hc)
  have hsz : Maps.size (D.put (.int .i64 i) (.lit (.int q c))) = if (f i).isSome then n else n + 1 := by rw [size_put htd, (h' i).1, hs]
  refine ⟨w', hrun, ⟨_, by have := owns_tight h2; rwa [hsz] at this, hsz, fun j => ?_⟩, h3⟩
  · by_cases hj : j = i
    · subst hj
      refine ⟨by rw [has_put_same hm (by trivial)]; simp [updI], fun d hd z => ?_⟩
      rw [atKey_put_same hm (by trivial)]
      simp [updI] at hd
      rw [hd]
    · have hne : (Lit.int .i64 j) ≠ .int .i64 i := by intro h; injection h with _ h; exact hj h
      rw [has_put_other hne, show updI f i c j = f j by simp [updI, hj]]
      exact ⟨(h' j).1, fun d hd z => by rw [atKey_put_other hne]; exact (h' j).2 d hd z⟩
theorem NMap.len {t : TypeId} (h : NMap P k e q w b n f) (ht : P.underlying t = some (.map k e)) (ty : TypeId) : (Builtin.len_ #[t] ty #[.map (some b)]).run P w = .ok (.int .i64 n) w := by
  obtain ⟨D, h, hs, _⟩ := h
  rw [h.len ht ty, hs]
theorem NMap.own {w' : World} (h : NMap P k e q w b n f) (hg : w'.heap[b]? = w.heap[b]?) : NMap P k e q w' b n f := by
  obtain ⟨D, ⟨es, clock, h1, h2⟩, h'⟩ := h
  exact ⟨D, ⟨es, clock, by rw [hg]; exact h1, h2⟩, h'⟩
end
/-- 'm[k] = v' at the operation, where k is not there -/
theorem wp_nmap_update {P : Program} (w : World) {ops : Array Oper} {rest : List Oper} {o : Oper} {a : Act} {Q : Exit → Act → World → Prop}
    (hg : o.guard = none) (m x v : Operand) (t : TypeId) (hop : o.op = Op.mapUpdate t m x v) {k e : TypeId} {q : IntKind} (hk : P.underlying k = some (.int .i64)) (ht : P.underlying t = some (.map k e)) (he : P.underlying e = some (.int q))
    {b n : Nat} {f : Int → Option Int} (hm : a.eval m = .map (some b)) (h : NMap P k e q w b n f) (hn : n < maxLen) {i c : Int} (hx : a.eval x = .int .i64 i) (hv : a.eval v = .int q c) (hi : (Lit.int .i64 i).wf = true) (hc : (Lit.int q c).wf = true) (hf : f i = none)
    (hK : ∀ w', NMap P k e q w' b (n + 1) (updI f i c) → w.mapTurned w' b → wpList P ops Q rest (a.put o.dst undef) w') : wpList P ops Q (o :: rest) a w := by
  obtain ⟨w', hrun, h2, h3⟩ := h.update (t := t) hk ht he hn hi hc hf
  refine wpList_plain hg fun K' hK' => ?_
  unfold Oper.wp
  simp [execOp, hop, hm, hx, hv, hrun, Result.andThen]
  exact hK' _ _ (hK w' h2 h3)
/-- 'm[k] = v' at the operation, k there or not -/
theorem wp_nmap_put {P : Program} (w : World) {ops : Array Oper} {rest : List Oper} {o : Oper} {a : Act} {Q : Exit → Act → World → Prop}
    (hg : o.guard = none) (m x v : Operand) (t : TypeId) (hop : o.op = Op.mapUpdate t m x v) {k e : TypeId} {q : IntKind} (hk : P.underlying k = some (.int .i64)) (ht : P.underlying t = some (.map k e)) (he : P.underlying e = some (.int q))
    {b n : Nat} {f : Int → Option Int} (hm : a.eval m = .map (some b)) (h : NMap P k e q w b n f) (hn : n < maxLen) {i c : Int} (hx : a.eval x = .int .i64 i) (hv : a.eval v = .int q c) (hi : (Lit.int .i64 i).wf = true) (hc : (Lit.int q c).wf = true) {n' : Nat} (hn' : n' = if (f i).isSome then n else n + 1)
    (hK : ∀ w', NMap P k e q w' b n' (updI f i c) → w.mapTurned w' b → wpList P ops Q rest (a.put o.dst undef) w') : wpList P ops Q (o :: rest) a w := by
  obtain ⟨w', hrun, h2, h3⟩ := h.put (t := t) hk ht he hn hi hc
  refine wpList_plain hg fun K' hK' => ?_
  unfold Oper.wp
  simp [execOp, hop, hm, hx, hv, hrun, Result.andThen]
  subst hn'
  exact hK' _ _ (hK w' h2 h3)
end Go.Proofs.Ytglbabcefanooaa
