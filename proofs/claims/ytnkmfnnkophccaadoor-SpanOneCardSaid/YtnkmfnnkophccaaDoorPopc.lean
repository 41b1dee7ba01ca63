/- How many bits are set. -/
import Derived.Test.YtnkmfnnkophccaaDoorBase
namespace Go.Proofs.YtnkmfnnkophccaaDoor
/-- how many of the first k bits are set -/
def popc (k x : Nat) : Nat := ((List.range k).filter fun i => x.testBit i).length
theorem popc_le (k x : Nat) : popc k x ≤ k := by
  have := List.length_filter_le (fun i => x.testBit i) (List.range k)
  simpa [popc] using this
theorem popc_zero (k : Nat) : popc k 0 = 0 := by simp [popc]
end Go.Proofs.YtnkmfnnkophccaaDoor
