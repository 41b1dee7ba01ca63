/- Operations by their operands' values: for frames of many slots. -/
import Derived.Test.YtefkciboicmoaaaDoorHeld
namespace Go.Proofs.YtefkciboicmoaaaDoor
open Go.RowKit

section
variable {P : Program} {ops : Array Oper} {o : Oper} {a : Act} {W W' : World} {v u u' : Value}
theorem run_move {x : Operand} (ho : o.op = .move x) (hx : a.eval x = u) : (execOp a.eval o).run P W = .ok (.value u) W := by
  unfold execOp; rw [ho]; simp only [hx, Sem.run_pure]
theorem run_load {t : TypeId} {x : Operand} (ho : o.op = .load t x) (hx : a.eval x = u) (h : (Instr.loadAt t u).run P W = .ok v W) : (execOp a.eval o).run P W = .ok (.value v) W := by
  unfold execOp; rw [ho]; simp only [hx, Sem.run_bind, Sem.run_pure, h, Result.andThen_ok]
theorem run_bin {op : BinOp} {t t' : TypeId} {x y : Operand} (ho : o.op = .binOp op t x y t') (hx : a.eval x = u) (hy : a.eval y = u') (h : (do eqGuard op t x y u u'; binOp op t u u' : Sem Value).run P W = .ok v W) : (execOp a.eval o).run P W = .ok (.value v) W := by
  unfold execOp; rw [ho]; simp only [hx, hy]
  rw [Sem.run_bind, h]; rfl
theorem run_idx {t : TypeId} {x y : Operand} (ho : o.op = .indexAddr t x y) (hx : a.eval x = u) (hy : a.eval y = u') (h : (Instr.indexAt t u u').run P W = .ok v W) : (execOp a.eval o).run P W = .ok (.value v) W := by
  unfold execOp; rw [ho]; simp only [hx, hy, Sem.run_bind, Sem.run_pure, h, Result.andThen_ok]
theorem run_alloc {t : TypeId} (ho : o.op = .alloc t) (h : (Instr.alloc t true (.tuple #[])).run P W = .ok v W') : (execOp a.eval o).run P W = .ok (.value v) W' := by
  unfold execOp; rw [ho]; simp only [Sem.run_bind, Sem.run_pure, h, Result.andThen_ok]
theorem run_store {t : TypeId} {x y : Operand} (ho : o.op = .store t x y) (hx : a.eval x = u) (hy : a.eval y = u') (h : (Instr.storeAt t u u').run P W = .ok () W') : (execOp a.eval o).run P W = .ok .skip W' := by
  unfold execOp; rw [ho]; simp only [hx, hy, Sem.run_bind, Sem.run_pure, h, Result.andThen_ok]
theorem step_run {K : Act → World → Prop} {Q : Exit → Act → World → Prop} {E : Prop} (hgd : o.guard = none) (h : (execOp a.eval o).run P W = .ok (.value v) W') (hK : K (a.put o.dst v) W') : if Region.wanted o (yielded ops a.tmps) = true then Oper.wp P o a W K Q else E := by
  rw [if_pos (by simp [Region.wanted, hgd])]
  unfold Oper.wp
  rw [h]
  exact hK
theorem step_skip {K : Act → World → Prop} {Q : Exit → Act → World → Prop} {E : Prop} (hgd : o.guard = none) (h : (execOp a.eval o).run P W = .ok .skip W') (hK : K (a.put o.dst undef) W') : if Region.wanted o (yielded ops a.tmps) = true then Oper.wp P o a W K Q else E := by
  rw [if_pos (by simp [Region.wanted, hgd])]
  unfold Oper.wp
  rw [h]
  exact hK
end
end Go.Proofs.YtefkciboicmoaaaDoor
