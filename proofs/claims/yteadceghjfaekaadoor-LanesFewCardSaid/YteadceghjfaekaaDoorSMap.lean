/- map[int]flow.Step of the call's own. -/
import Derived.Test.YteadceghjfaekaaDoorFlowA
import Derived.Test.YteadceghjfaekaaDoorIntMap
import Derived.Maps.OwnIn
namespace Go.Proofs.YteadceghjfaekaaDoor
open Go.RowKit Go.Maps

def stepR : Value → Option (DataW Unit × List MemPlace)
  | .agg cs => match cs.toList with
    | [.int .i64 k, .bool b] => some (.agg [.lit (.int .i64 k), .lit (.bool b)], [])
    | _ => none
  | _ => none
def stD (x : Stp) : DataW Unit := .agg [.lit (.int .i64 x.1), .lit (.bool x.2)]
theorem stepR_mk (x : Stp) : stepR (stv x) = some (stD x, []) := rfl
theorem stepR_inv {v : Value} {x : Stp} {ps : List MemPlace} (h : stepR v = some (stD x, ps)) : v = stv x := by
  unfold stepR at h
  split at h
  · rename_i cs
    split at h
    · rename_i k b hcs
      simp only [stD, Option.some.injEq, Prod.mk.injEq, DataW.agg.injEq, List.cons.injEq, DataW.lit.injEq, Lit.int.injEq, Lit.bool.injEq, and_true, true_and] at h
      have : cs = #[.int .i64 k, .bool b] := by
        apply Array.ext'
        rw [hcs]
      rw [this, stv, h.1.1, h.1.2]
    · cases h
  · cases h
theorem zeroSt (w : World) : (zeroValue 75).run Tryd.prog w = .ok (stv (0, false)) w := by unfold stv; go_simp
/-- block b of w is a map of at most n entries that reads as par -/
def SMap (w : World) (b n : Nat) (par : Nat → Option Stp) : Prop :=
  ∃ D : DataW Unit, w.ownsMap Tryd.prog 3 stepR b n D ∧ ∀ i : Nat, Maps.has D (.int .i64 (i : Int)) = (par i).isSome ∧ ∀ c, par i = some c → ∀ z, D.atKey (.int .i64 (i : Int)) z = stD c
section
variable {w : World} {b n : Nat} {par : Nat → Option Stp}
theorem SMap.made (w : World) : SMap (w.alloc (.map #[] 0)) w.heap.size 0 fun _ => none :=
  ⟨.map [], World.ownsMap_made w Tryd.prog 3 _, fun i => ⟨rfl, fun c h => by cases h⟩⟩
theorem SMap.lt (h : SMap w b n par) : b < w.heap.size := by obtain ⟨D, h, _⟩ := h; exact h.lt
theorem SMap.kept {w' : World} {row : Option Nat} (h : SMap w b n par) (hg : w.grownBy w' row) (hne : some b ≠ row) : SMap w' b n par := by obtain ⟨D, h, h'⟩ := h; exact ⟨D, h.kept hg hne, h'⟩
theorem SMap.alloc (h : SMap w b n par) (o : Obj) : SMap (w.alloc o) b n par := by obtain ⟨D, h, h'⟩ := h; exact ⟨D, h.alloc o, h'⟩
theorem wf_nat {i : Nat} (h : i < 1048576) : (Lit.int .i64 (i : Int)).wf = true := by
  have : IntKind.i64.min ≤ (i : Int) ∧ (i : Int) ≤ IntKind.i64.max := by
    rw [show IntKind.i64.min = -9223372036854775808 from rfl, show IntKind.i64.max = 9223372036854775807 from rfl]
    omega
  simpa [Lit.wf] using this
theorem SMap.look (h : SMap w b n par) {i : Nat} (hi : i < 1048576) : (Instr.lookup 72 (.map (some b)) (.int .i64 (i : Int)) true).run Tryd.prog w = .ok (.tuple #[stv ((par i).getD (0, false)), .bool (par i).isSome]) w := by
  obtain ⟨D, h, h'⟩ := h
  obtain ⟨v, ps, hrun, hv⟩ := h.look_ok (int_keyed Tryd.underlying3) Tryd.underlying72 (zeroSt w) (stepR_mk (0, false)) (keyOf_int_mk Tryd.underlying3 (wf_nat hi))
  rw [hrun]
  obtain ⟨h1, h2⟩ := h' i
  rw [h1]
  cases hp : par i with
  | none =>
    rw [hp] at h1
    rw [atKey_of_not_has (by simpa using h1)] at hv
    rw [stepR_inv hv]; rfl
  | some x =>
    rw [h2 x hp] at hv
    rw [stepR_inv hv]; rfl
theorem SMap.store (h : SMap w b n par) (hn : n < maxLen) {i : Nat} (hi : i < 1048576) (x : Stp) : ∃ w', (Instr.mapUpdate 72 (.map (some b)) (.int .i64 (i : Int)) (stv x)).run Tryd.prog w = .ok () w' ∧ SMap w' b (n + 1) (updO par i x) ∧ w.mapTurned w' b := by
  obtain ⟨D, h, h'⟩ := h
  have hm := h.isMap
  obtain ⟨w', hrun, h2, h3⟩ := h.store (int_keyed Tryd.underlying3) Tryd.underlying72 hn (keyOf_int_mk Tryd.underlying3 (wf_nat hi)) (stepR_mk x)
  refine ⟨w', hrun, ⟨_, h2, fun j => ?_⟩, h3⟩
  by_cases hj : j = i
  · subst hj
    refine ⟨by rw [has_put_same hm (by trivial)]; simp [updO], fun d hd z => ?_⟩
    rw [atKey_put_same hm (by trivial)]
    simp [updO] at hd
    rw [hd]
  · have hne : (Lit.int .i64 (j : Int)) ≠ .int .i64 (i : Int) := by intro h; injection h with _ h; omega
    rw [has_put_other hne, show updO par i x j = par j by simp [updO, hj]]
    exact ⟨(h' j).1, fun d hd z => by rw [atKey_put_other hne]; exact (h' j).2 d hd z⟩
end
/-- 'm[k] = v' at the operation, in a round -/
theorem wpListIn_smap {F : Fence} {nF : Nat} (w : World) {ops : Array Oper} {rest : List Oper} {o : Oper} {a : Act} {Q : Exit → Act → World → Prop}
    (hg : o.guard = none) (m x v : Operand) (hop : o.op = Op.mapUpdate 72 m x v) {b n : Nat} {par : Nat → Option Stp} (hm : a.eval m = .map (some b)) (h : SMap w b n par) (hn : n < maxLen) {i : Nat} (hi : i < 1048576) {y : Stp} (hx : a.eval x = .int .i64 (i : Int)) (hv : a.eval v = stv y)
    (hK : ∀ w', SMap w' b (n + 1) (updO par i y) → w.mapTurned w' b → wpListIn F nF Tryd.prog ops Q rest (a.put o.dst undef) w') : wpListIn F nF Tryd.prog ops Q (o :: rest) a w := by
  refine wpListIn_plain hg fun K' hK' => ?_
  obtain ⟨w', hrun, r1, r2⟩ := h.store hn hi y
  unfold Oper.wpIn
  refine ⟨by simp [Oper.about, hop], ?_⟩
  rw [Oper.semAt_plain F _ _ (by rw [hop]; intro c hc'; cases hc')]
  simp [execOp, hop, hm, hx, hv, hrun, Result.andThen]
  exact hK' _ _ (hK w' r1 r2)
end Go.Proofs.YteadceghjfaekaaDoor
