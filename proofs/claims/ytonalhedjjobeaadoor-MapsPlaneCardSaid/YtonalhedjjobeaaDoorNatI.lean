/- Lists of numbers as lists of integers. -/
import Derived.Test.YtonalhedjjobeaaDoorBase
namespace Go.Proofs.YtonalhedjjobeaaDoor
open Go.RowKit

def natI (p : List Nat) : List Int := p.map fun (i : Nat) => (i : Int)
theorem natI_at {y : List Nat} {k : Nat} (hk : k < y.length) : (natI y).getD k 0 = ((y.getD k 0 : Nat) : Int) := by
  simp [natI, List.getD, hk]
end Go.Proofs.YtonalhedjjobeaaDoor
