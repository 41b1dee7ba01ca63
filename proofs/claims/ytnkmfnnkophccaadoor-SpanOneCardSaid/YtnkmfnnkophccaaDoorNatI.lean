/- Lists of numbers as lists of integers. -/
import Derived.Test.YtnkmfnnkophccaaDoorBase
namespace Go.Proofs.YtnkmfnnkophccaaDoor
open Go.RowKit

def natI (p : List Nat) : List Int := p.map fun (i : Nat) => (i : Int)
theorem natI_at {y : List Nat} {k : Nat} (hk : k < y.length) : (natI y).getD k 0 = ((y.getD k 0 : Nat) : Int) := by
  simp [natI, List.getD, hk]
end Go.Proofs.YtnkmfnnkophccaaDoor
