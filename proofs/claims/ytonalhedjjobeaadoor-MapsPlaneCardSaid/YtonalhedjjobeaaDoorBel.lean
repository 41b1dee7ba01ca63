/- A region that draws its order, whose operations only read and whose callees leave all that was there as it was (they may lay blocks of their own): one walk, in the order of the text. -/
import Derived.Test.YtonalhedjjobeaaDoorBase
namespace Go.Proofs.YtonalhedjjobeaaDoor
open Go.RowKit

/-- a world in which all that was there lies as it lay -/
structure BW (w : World) where
  w' : World
  hb : Below w.heap.size w w'
theorem wp_region_below {P : Program} {id : Nat} {Q : Exit → Act → World → Prop} {a : Act} {w : World} {l : List Oper} (hm : P.follows .mixedOrders = true) (hB : Region.lexB .any l.toArray = true)
    (h : wpQuiet P l.toArray (fun w' => ∃ p : BW w, w' = p.w') (fun a' => ∀ w', (∃ p : BW w, w' = p.w') → Q .normal a' w') l a) : (Code.region id l.toArray true).wp P Q a w :=
  wp_region_quiet (C := fun w' => ∃ p : BW w, w' = p.w') hm hB ⟨⟨w.drew, (Below.refl _ w).drew⟩, rfl⟩ (by simpa using h)
theorem BW.cell {w : World} {a : Addr} {v : Value} (h : w.cell? a = some v) (p : BW w) : p.w'.cell? a = some v :=
  (p.hb.cell (World.block_lt_of_cell? w _ h)).trans h
/-- a callee's contract, met in such a world -/
theorem Calls.bel {P : Program} {f : FuncId} {args : Array Value} {w : World} {p : BW w} {v : Value} (h : Calls P f args p.w' fun e w' => e = .returned v ∧ Below p.w'.heap.size p.w' w') :
    Calls P f args p.w' fun e w'' => e = .returned v ∧ ∃ p : BW w, w'' = p.w' :=
  h.mono fun _ w' ⟨he, hb⟩ => ⟨he, ⟨w', p.hb.trans (hb.mono p.hb.size)⟩, rfl⟩
/-- the same for a callee that leaves the very world -/
theorem Calls.bel0 {P : Program} {f : FuncId} {args : Array Value} {w : World} {p : BW w} {v : Value} (h : Calls P f args p.w' fun e w' => e = .returned v ∧ p.w' = w') :
    Calls P f args p.w' fun e w'' => e = .returned v ∧ ∃ p : BW w, w'' = p.w' :=
  h.mono fun _ _ ⟨he, hb⟩ => ⟨he, p, hb.symm⟩
end Go.Proofs.YtonalhedjjobeaaDoor
