/-
  No cell of these rows narrows 'for every input' (looked for: loops, veiled, ifaces, maps, wideKeys, modest, calm, conditions, laid).
  DERIVED. THE GIVEN ROWS OF THIS SEAT. 4 by the template 'for every input the law returns true; each argument reads behind the call as it read before'; 0 by the template 'total and deterministic' (their statements: YtiopngegkpbfhaaTotals.lean).
  GIVEN WITH THE SEED: the statements are not yours to turn. If you find one false, say at which input.
  Laid BY PROGRAM, IN A SANDBOX (cutbox-rows.mjs): the forced cells as the released guide's own fill.sh prints them over the translation d6f2115f0ce3764d… (all of the seat's roots in one cut). By AI agents, Wed Nov 11 2026. No macro, syntax, notation, axiom, sorry.
-/
import Derived.Test.YtiopngegkpbfhaaChecked
import GoSem.Claim
import GoSem.ClaimJoined
import GoSem.ClaimMapViews
import Derived.JoinedTies
import Derived.KernelRfl
namespace Go.Proofs.Ytiopngegkpbfhaa
/- THE CELL 'sum', in the pinned program and in every row, IS THE sha256 OF THE DUMP (.gsa) THAT YtiopngegkpbfhaaProg.lean LOADS. Nothing in Lean hashes anything: it is a label: what it is worth is what the hold of that sum in a sandbox is worth. -/
noncomputable def Try.pinned : Pinned := { name := "ytiopngegkpbfhaa", sum := "d6f2115f0ce3764d3b65f5da0db68aee2cdfc75f52391459407a8e5423366124", checked := Try.checked }
namespace Rows
def none {H : Type} : Left H := { results := [], args := [] }

/-- 'teamsterkeep.CrowdTuran': WHATEVER THE INPUT: true; the input reads as it did. -/
def crowdTuranSpec : ChangeSpec := { name := "crowdTuran", fn := fun _ => fun
  | [d] => { results := [.lit (.bool true)], args := [d] }
  | _ => none }
def crowdTuranRow : OpenClaim := { program := "ytiopngegkpbfhaa", sum := "d6f2115f0ce3764d3b65f5da0db68aee2cdfc75f52391459407a8e5423366124", func := "teamster/teamsterkeep.CrowdTuran", spec := "crowdTuran", recurses := true, plainKeys := false, apart := false }
def CrowdTuranSaid : Prop := crowdTuranRow.holds Try.pinned (OpenSpec.ofChange crowdTuranSpec)

/-- ITS FALSE NEIGHBOUR: 'it returns false'. Refute it at one input. -/
def crowdTuranWrong : ChangeSpec := { name := "crowdTuran", fn := fun _ => fun
  | [d] => { results := [.lit (.bool false)], args := [d] }
  | _ => none }
def CrowdTuranWrongFalsely : Prop := crowdTuranRow.holds Try.pinned (OpenSpec.ofChange crowdTuranWrong)

/-- 'teamsterkeep.CrowdWei': WHATEVER THE INPUT: true; the input reads as it did. -/
def crowdWeiSpec : ChangeSpec := { name := "crowdWei", fn := fun _ => fun
  | [d] => { results := [.lit (.bool true)], args := [d] }
  | _ => none }
def crowdWeiRow : OpenClaim := { program := "ytiopngegkpbfhaa", sum := "d6f2115f0ce3764d3b65f5da0db68aee2cdfc75f52391459407a8e5423366124", func := "teamster/teamsterkeep.CrowdWei", spec := "crowdWei", recurses := true, plainKeys := false, apart := false }
def CrowdWeiSaid : Prop := crowdWeiRow.holds Try.pinned (OpenSpec.ofChange crowdWeiSpec)

/-- ITS FALSE NEIGHBOUR: 'it returns false'. Refute it at one input. -/
def crowdWeiWrong : ChangeSpec := { name := "crowdWei", fn := fun _ => fun
  | [d] => { results := [.lit (.bool false)], args := [d] }
  | _ => none }
def CrowdWeiWrongFalsely : Prop := crowdWeiRow.holds Try.pinned (OpenSpec.ofChange crowdWeiWrong)

/-- 'teamsterkeep.CrowdRamsey': WHATEVER THE INPUT: true; the input reads as it did. -/
def crowdRamseySpec : ChangeSpec := { name := "crowdRamsey", fn := fun _ => fun
  | [d] => { results := [.lit (.bool true)], args := [d] }
  | _ => none }
def crowdRamseyRow : OpenClaim := { program := "ytiopngegkpbfhaa", sum := "d6f2115f0ce3764d3b65f5da0db68aee2cdfc75f52391459407a8e5423366124", func := "teamster/teamsterkeep.CrowdRamsey", spec := "crowdRamsey", recurses := true, plainKeys := false, apart := false }
def CrowdRamseySaid : Prop := crowdRamseyRow.holds Try.pinned (OpenSpec.ofChange crowdRamseySpec)

/-- ITS FALSE NEIGHBOUR: 'it returns false'. Refute it at one input. -/
def crowdRamseyWrong : ChangeSpec := { name := "crowdRamsey", fn := fun _ => fun
  | [d] => { results := [.lit (.bool false)], args := [d] }
  | _ => none }
def CrowdRamseyWrongFalsely : Prop := crowdRamseyRow.holds Try.pinned (OpenSpec.ofChange crowdRamseyWrong)

/-- 'teamsterkeep.CrowdGallai': WHATEVER THE INPUT: true; the input reads as it did. -/
def crowdGallaiSpec : ChangeSpec := { name := "crowdGallai", fn := fun _ => fun
  | [d] => { results := [.lit (.bool true)], args := [d] }
  | _ => none }
def crowdGallaiRow : OpenClaim := { program := "ytiopngegkpbfhaa", sum := "d6f2115f0ce3764d3b65f5da0db68aee2cdfc75f52391459407a8e5423366124", func := "teamster/teamsterkeep.CrowdGallai", spec := "crowdGallai", recurses := true, plainKeys := false, apart := false }
def CrowdGallaiSaid : Prop := crowdGallaiRow.holds Try.pinned (OpenSpec.ofChange crowdGallaiSpec)

/-- ITS FALSE NEIGHBOUR: 'it returns false'. Refute it at one input. -/
def crowdGallaiWrong : ChangeSpec := { name := "crowdGallai", fn := fun _ => fun
  | [d] => { results := [.lit (.bool false)], args := [d] }
  | _ => none }
def CrowdGallaiWrongFalsely : Prop := crowdGallaiRow.holds Try.pinned (OpenSpec.ofChange crowdGallaiWrong)

/- THE SECOND FORM. 'bulk': how many values and letters a reading holds, each counted each time it is reached (what is shared counts as often as it is met; a slice's spare places count too). A statement '..UptoSaid' is the law's where the arguments, and the package variables that the reading takes, are together of bulk at most 1048576: NARROWER than '..Said'. Prove '..Said' where nothing that the law and all that it calls make is longer than what came in: it says more and counts as full. Else prove '..UptoSaid'. A law counts once. -/
mutual
def uptoBulk {H : Type} : DataW H → Nat
  | .lit (.string bytes) => bytes.length + 1
  | .lit _ => 1
  | .nil => 1
  | .ptr d => uptoBulk d + 1
  | .slice elems spare => uptoBulkAll elems + uptoBulkAll spare + 1
  | .agg parts => uptoBulkAll parts + 1
  | .iface _ d => uptoBulk d + 1
  | .map entries => uptoBulkEntries entries + 1
  | .held _ => 1
def uptoBulkAll {H : Type} : List (DataW H) → Nat
  | [] => 0
  | d :: r => uptoBulk d + uptoBulkAll r
def uptoBulkEntries {H : Type} : List (Lit × DataW H) → Nat
  | [] => 0
  | x :: r => uptoBulkEntry x + uptoBulkEntries r
def uptoBulkEntry {H : Type} : Lit × DataW H → Nat
  | (.string bytes, d) => bytes.length + uptoBulk d + 1
  | (_, d) => uptoBulk d + 1
 end
def uptoSmall : (H : Type) → List (DataW H) → Bool := fun _ ds => decide (uptoBulkAll ds ≤ 1048576)
def OpenSpec.upto (s : _root_.Go.ChangeSpec) : _root_.Go.OpenSpec := { _root_.Go.OpenSpec.ofChange s with cond := some uptoSmall }

/-- 'teamsterkeep.CrowdTuran', WHERE WHAT IT READS IS OF BULK AT MOST 1048576: true; the input reads as it did. -/
def crowdTuranUptoRow : OpenClaim := { program := "ytiopngegkpbfhaa", sum := "d6f2115f0ce3764d3b65f5da0db68aee2cdfc75f52391459407a8e5423366124", func := "teamster/teamsterkeep.CrowdTuran", spec := "crowdTuran", recurses := true, plainKeys := false, apart := false, narrowed := true }
def CrowdTuranUptoSaid : Prop := crowdTuranUptoRow.holds Try.pinned (OpenSpec.upto crowdTuranSpec)

/-- 'teamsterkeep.CrowdWei', WHERE WHAT IT READS IS OF BULK AT MOST 1048576: true; the input reads as it did. -/
def crowdWeiUptoRow : OpenClaim := { program := "ytiopngegkpbfhaa", sum := "d6f2115f0ce3764d3b65f5da0db68aee2cdfc75f52391459407a8e5423366124", func := "teamster/teamsterkeep.CrowdWei", spec := "crowdWei", recurses := true, plainKeys := false, apart := false, narrowed := true }
def CrowdWeiUptoSaid : Prop := crowdWeiUptoRow.holds Try.pinned (OpenSpec.upto crowdWeiSpec)

/-- 'teamsterkeep.CrowdRamsey', WHERE WHAT IT READS IS OF BULK AT MOST 1048576: true; the input reads as it did. -/
def crowdRamseyUptoRow : OpenClaim := { program := "ytiopngegkpbfhaa", sum := "d6f2115f0ce3764d3b65f5da0db68aee2cdfc75f52391459407a8e5423366124", func := "teamster/teamsterkeep.CrowdRamsey", spec := "crowdRamsey", recurses := true, plainKeys := false, apart := false, narrowed := true }
def CrowdRamseyUptoSaid : Prop := crowdRamseyUptoRow.holds Try.pinned (OpenSpec.upto crowdRamseySpec)

/-- 'teamsterkeep.CrowdGallai', WHERE WHAT IT READS IS OF BULK AT MOST 1048576: true; the input reads as it did. -/
def crowdGallaiUptoRow : OpenClaim := { program := "ytiopngegkpbfhaa", sum := "d6f2115f0ce3764d3b65f5da0db68aee2cdfc75f52391459407a8e5423366124", func := "teamster/teamsterkeep.CrowdGallai", spec := "crowdGallai", recurses := true, plainKeys := false, apart := false, narrowed := true }
def CrowdGallaiUptoSaid : Prop := crowdGallaiUptoRow.holds Try.pinned (OpenSpec.upto crowdGallaiSpec)

end Rows
end Go.Proofs.Ytiopngegkpbfhaa
