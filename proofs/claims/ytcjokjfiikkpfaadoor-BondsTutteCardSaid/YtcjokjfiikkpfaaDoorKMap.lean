/- A map to integers, of the call's own, whatever its keys: block b reads as a partial function of what the keys stand for. -/
import Derived.Test.YtcjokjfiikkpfaaDoorBase
import Derived.Maps.Own
import Derived.Maps.OwnOps
import Derived.Maps.OwnSet
namespace Go.Proofs.YtcjokjfiikkpfaaDoor
open Go.RowKit Go.Maps

/-- block b of w is a map of at most n entries that reads as the function f; KV: a key as a value -/
def KMap {α : Type} (P : Program) (k e : TypeId) (q : IntKind) (KV : α → Value) (w : World) (b n : Nat) (f : α → Option Int) : Prop :=
  ∃ D : DataW Unit, w.ownsMap P k (plainElem P e) b n D ∧ ∀ (a : α) (l : Lit), keyOf P k (KV a) = some l → Maps.has D l = (f a).isSome ∧ ∀ c, f a = some c → ∀ z, D.atKey l z = .lit (.int q c)
def updK {α : Type} [DecidableEq α] (f : α → Option Int) (k : α) (c : Int) : α → Option Int := fun i => if i = k then some c else f i
section
variable {α : Type} {P : Program} {k e : TypeId} {q : IntKind} {KV : α → Value} {w : World} {b n : Nat} {f : α → Option Int}
theorem KMap.made (w : World) : KMap P k e q KV (w.alloc (.map #[] 0)) w.heap.size 0 fun _ => none :=
  ⟨.map [], World.ownsMap_made w P k _, fun i l _ => ⟨rfl, fun c h => by cases h⟩⟩
theorem KMap.lt (h : KMap P k e q KV w b n f) : b < w.heap.size := by obtain ⟨D, h, _⟩ := h; exact h.lt
theorem KMap.mono (h : KMap P k e q KV w b n f) {n' : Nat} (hn : n ≤ n') : KMap P k e q KV w b n' f := by obtain ⟨D, h, h'⟩ := h; exact ⟨D, h.mono hn, h'⟩
theorem KMap.kept {w' : World} {row : Option Nat} (h : KMap P k e q KV w b n f) (hg : w.grownBy w' row) (hne : some b ≠ row) : KMap P k e q KV w' b n f := by obtain ⟨D, h, h'⟩ := h; exact ⟨D, h.kept hg hne, h'⟩
theorem KMap.alloc (h : KMap P k e q KV w b n f) (o : Obj) : KMap P k e q KV (w.alloc o) b n f := by obtain ⟨D, h, h'⟩ := h; exact ⟨D, h.alloc o, h'⟩
theorem KMap.drew (h : KMap P k e q KV w b n f) : KMap P k e q KV w.drew b n f := h
theorem KMap.drewN (h : KMap P k e q KV w b n f) (j : Nat) : KMap P k e q KV (w.drewN j) b n f := h
theorem KMap.later {w' : World} (h : KMap P k e q KV w b n f) (hb : Below w.heap.size w w') : KMap P k e q KV w' b n f :=
  h.kept (row := none) ⟨hb.os, hb.tape, hb.output, hb.size, fun i hi _ => hb.block i hi⟩ (by simp)
theorem KMap.own {w' : World} (h : KMap P k e q KV w b n f) (hg : w'.heap[b]? = w.heap[b]?) : KMap P k e q KV w' b n f := by
  obtain ⟨D, ⟨es, clock, h1, h2⟩, h'⟩ := h
  exact ⟨D, ⟨es, clock, by rw [hg]; exact h1, h2⟩, h'⟩
theorem KMap.isMap (h : KMap P k e q KV w b n f) : ∃ es clock, w.heap[b]? = some (.map es clock) := by
  obtain ⟨D, ⟨es, clock, h1, _⟩, _⟩ := h
  exact ⟨es, clock, h1⟩
theorem KMap.lookup {t : TypeId} (h : KMap P k e q KV w b n f) (K : Keyed P k) (ht : P.underlying t = some (.map k e)) (he : P.underlying e = some (.int q)) (hz : ∀ w, (zeroValue e).run P w = .ok (.int q 0) w)
    {i : α} {l : Lit} (hi : keyOf P k (KV i) = some l) : (Instr.lookup t (.map (some b)) (KV i) false).run P w = .ok (.int q ((f i).getD 0)) w := by
  obtain ⟨D, h, h'⟩ := h
  obtain ⟨c, hrun, hat, _⟩ := h.lookup_int K ht he (hz w) hi
  rw [hrun]
  obtain ⟨h1, h2⟩ := h' i l hi
  cases hf : f i with
  | none =>
    rw [hf] at h1
    rw [atKey_of_not_has (by simpa using h1)] at hat
    injection hat with hat; injection hat with _ hat
    rw [← hat]; rfl
  | some d =>
    rw [h2 d hf] at hat
    injection hat with hat; injection hat with _ hat
    rw [← hat]; rfl
theorem KMap.lookup_ok {t : TypeId} (h : KMap P k e q KV w b n f) (K : Keyed P k) (ht : P.underlying t = some (.map k e)) (he : P.underlying e = some (.int q)) (hz : ∀ w, (zeroValue e).run P w = .ok (.int q 0) w)
    {i : α} {l : Lit} (hi : keyOf P k (KV i) = some l) : (Instr.lookup t (.map (some b)) (KV i) true).run P w = .ok (.tuple #[.int q ((f i).getD 0), .bool (f i).isSome]) w := by
  obtain ⟨D, h, h'⟩ := h
  obtain ⟨v, ps, hrun, hv⟩ := h.look_ok K ht (hz w) (plainElem_int he (show (Lit.int q 0).wf = true by cases q <;> decide)) hi
  rw [hrun]
  obtain ⟨h1, h2⟩ := h' i l hi
  obtain ⟨c, rfl, hc, _⟩ := plainElem_int_inv he hv
  simp only [Prod.mk.injEq] at hc
  rw [h1]
  cases hf : f i with
  | none =>
    rw [hf] at h1
    have hat := hc.1
    rw [atKey_of_not_has (by simpa using h1)] at hat
    injection hat with hat; injection hat with _ hat
    rw [← hat]; rfl
  | some d =>
    have hat := hc.1
    rw [h2 d hf] at hat
    injection hat with hat; injection hat with _ hat
    rw [← hat]; rfl
theorem KMap.update [DecidableEq α] {t : TypeId} (h : KMap P k e q KV w b n f) (hinj : ∀ a c, KV a = KV c → a = c) (K : Keyed P k) (ht : P.underlying t = some (.map k e)) (he : P.underlying e = some (.int q)) (hn : n < maxLen)
    {i : α} {l : Lit} (hi : keyOf P k (KV i) = some l) {c : Int} (hc : (Lit.int q c).wf = true) : ∃ w', (Instr.mapUpdate t (.map (some b)) (KV i) (.int q c)).run P w = .ok () w' ∧ KMap P k e q KV w' b (n + 1) (updK f i c) ∧ w.mapTurned w' b := by
  obtain ⟨D, h, h'⟩ := h
  have hm := h.isMap
  obtain ⟨w', hrun, h2, h3⟩ := h.store K ht hn hi (plainElem_int he hc)
  refine ⟨w', hrun, ⟨_, h2, fun j l' hj' => ?_⟩, h3⟩
  by_cases hj : j = i
  · subst hj
    obtain rfl : l = l' := by rw [hi] at hj'; exact Option.some.inj hj'
    refine ⟨by rw [has_put_same hm (K.key hi)]; simp [updK], fun d hd z => ?_⟩
    rw [atKey_put_same hm (K.key hi)]
    simp [updK] at hd
    rw [hd]
  · have hne : l' ≠ l := fun e => hj (hinj _ _ (K.inj (e ▸ hj') hi))
    rw [has_put_other hne, show updK f i c j = f j by simp [updK, hj]]
    exact ⟨(h' j l' hj').1, fun d hd z => by rw [atKey_put_other hne]; exact (h' j l' hj').2 d hd z⟩
end
/-- 'm[k] = v' at the operation -/
theorem wp_kmap_update {α : Type} [DecidableEq α] {P : Program} (w : World) {ops : Array Oper} {rest : List Oper} {o : Oper} {a : Act} {Q : Exit → Act → World → Prop}
    (hg : o.guard = none) (m x v : Operand) (t : TypeId) (hop : o.op = Op.mapUpdate t m x v) {k e : TypeId} {q : IntKind} {KV : α → Value} (hinj : ∀ a c, KV a = KV c → a = c) (K : Keyed P k) (ht : P.underlying t = some (.map k e)) (he : P.underlying e = some (.int q))
    {b n : Nat} {f : α → Option Int} (hm : a.eval m = .map (some b)) (h : KMap P k e q KV w b n f) (hn : n < maxLen) {i : α} {l : Lit} (hi : keyOf P k (KV i) = some l) {c : Int} (hx : a.eval x = KV i) (hv : a.eval v = .int q c) (hc : (Lit.int q c).wf = true)
    (hK : ∀ w', KMap P k e q KV w' b (n + 1) (updK f i c) → w.mapTurned w' b → wpList P ops Q rest (a.put o.dst undef) w') : wpList P ops Q (o :: rest) a w := by
  obtain ⟨w', hrun, h2, h3⟩ := h.update (t := t) hinj K ht he hn hi hc
  refine wpList_plain hg fun K' hK' => ?_
  unfold Oper.wp
  simp [execOp, hop, hm, hx, hv, hrun, Result.andThen]
  exact hK' _ _ (hK w' h2 h3)
end Go.Proofs.YtcjokjfiikkpfaaDoor
