/-
  No cell of these rows narrows 'for every input' (looked for: loops, veiled, ifaces, maps, wideKeys, modest, calm, conditions, laid).
  DERIVED. THE GIVEN ROWS OF THIS SEAT. 2 by the template 'for every input the law returns true; each argument reads behind the call as it read before'; 0 by the template 'total and deterministic' (their statements: YtgengjneccpaiaaTotals.lean).
  GIVEN WITH THE SEED: the statements are not yours to turn. If you find one false, say at which input.
  Laid BY PROGRAM, IN A SANDBOX (cutbox-rows.mjs): the forced cells as the released guide's own fill.sh prints them over the translation 4191cba8f22f58ab… (all of the seat's roots in one cut). By AI agents, Wed Nov 11 2026. No macro, syntax, notation, axiom, sorry.
-/
import Derived.Test.YtgengjneccpaiaaChecked
import GoSem.Claim
import GoSem.ClaimJoined
import GoSem.ClaimMapViews
import Derived.JoinedTies
import Derived.KernelRfl
namespace Go.Proofs.Ytgengjneccpaiaa
/- THE CELL 'sum', in the pinned program and in every row, IS THE sha256 OF THE DUMP (.gsa) THAT YtgengjneccpaiaaProg.lean LOADS. Nothing in Lean hashes anything: it is a label: what it is worth is what the hold of that sum in a sandbox is worth. -/
noncomputable def Try.pinned : Pinned := { name := "ytgengjneccpaiaa", sum := "4191cba8f22f58abc034fb848c1aa67b444b7e33ec62e91c50258a8d8be5adcf", checked := Try.checked }
namespace Rows
def none {H : Type} : Left H := { results := [], args := [] }

/-- 'teamsterkeep.FeeRises': WHATEVER THE INPUT: true; the input reads as it did. -/
def feeRisesSpec : ChangeSpec := { name := "feeRises", fn := fun _ => fun
  | [d1, d2, d3, d4] => { results := [.lit (.bool true)], args := [d1, d2, d3, d4] }
  | _ => none }
def feeRisesRow : OpenClaim := { program := "ytgengjneccpaiaa", sum := "4191cba8f22f58abc034fb848c1aa67b444b7e33ec62e91c50258a8d8be5adcf", func := "teamster/teamsterkeep.FeeRises", spec := "feeRises", unfollowed := true, recurses := true, apart := false }
def FeeRisesSaid : Prop := feeRisesRow.holds Try.pinned (OpenSpec.ofChange feeRisesSpec)

/-- ITS FALSE NEIGHBOUR: 'it returns false'. Refute it at one input. -/
def feeRisesWrong : ChangeSpec := { name := "feeRises", fn := fun _ => fun
  | [d1, d2, d3, d4] => { results := [.lit (.bool false)], args := [d1, d2, d3, d4] }
  | _ => none }
def FeeRisesWrongFalsely : Prop := feeRisesRow.holds Try.pinned (OpenSpec.ofChange feeRisesWrong)

/-- 'teamsterkeep.FeeSaved': WHATEVER THE INPUT: true; the input reads as it did. -/
def feeSavedSpec : ChangeSpec := { name := "feeSaved", fn := fun _ => fun
  | [d1, d2, d3, d4, d5] => { results := [.lit (.bool true)], args := [d1, d2, d3, d4, d5] }
  | _ => none }
def feeSavedRow : OpenClaim := { program := "ytgengjneccpaiaa", sum := "4191cba8f22f58abc034fb848c1aa67b444b7e33ec62e91c50258a8d8be5adcf", func := "teamster/teamsterkeep.FeeSaved", spec := "feeSaved", unfollowed := true, recurses := true, apart := false }
def FeeSavedSaid : Prop := feeSavedRow.holds Try.pinned (OpenSpec.ofChange feeSavedSpec)

/-- ITS FALSE NEIGHBOUR: 'it returns false'. Refute it at one input. -/
def feeSavedWrong : ChangeSpec := { name := "feeSaved", fn := fun _ => fun
  | [d1, d2, d3, d4, d5] => { results := [.lit (.bool false)], args := [d1, d2, d3, d4, d5] }
  | _ => none }
def FeeSavedWrongFalsely : Prop := feeSavedRow.holds Try.pinned (OpenSpec.ofChange feeSavedWrong)

/- THE SECOND FORM. 'bulk': how many values and letters a reading holds, each counted each time it is reached (what is shared counts as often as it is met; a slice's spare places count too). A statement '..UptoSaid' is the law's where the arguments, and the package variables that the reading takes, are together of bulk at most 1048576: NARROWER than '..Said'. Prove '..Said' where nothing that the law and all that it calls make is longer than what came in: it says more and counts as full. Else prove '..UptoSaid'. A law counts once. -/
mutual
def uptoBulk {H : Type} : DataW H → Nat
  | .lit (.string bytes) => bytes.length + 1
  | .lit _ => 1
  | .nil => 1
  | .ptr d => uptoBulk d + 1
  | .slice elems spare => uptoBulkAll elems + uptoBulkAll spare + 1
  | .agg parts => uptoBulkAll parts + 1
  | .iface _ d => uptoBulk d + 1
  | .map entries => uptoBulkEntries entries + 1
  | .held _ => 1
def uptoBulkAll {H : Type} : List (DataW H) → Nat
  | [] => 0
  | d :: r => uptoBulk d + uptoBulkAll r
def uptoBulkEntries {H : Type} : List (Lit × DataW H) → Nat
  | [] => 0
  | x :: r => uptoBulkEntry x + uptoBulkEntries r
def uptoBulkEntry {H : Type} : Lit × DataW H → Nat
  | (.string bytes, d) => bytes.length + uptoBulk d + 1
  | (_, d) => uptoBulk d + 1
 end
def uptoSmall : (H : Type) → List (DataW H) → Bool := fun _ ds => decide (uptoBulkAll ds ≤ 1048576)
def OpenSpec.upto (s : _root_.Go.ChangeSpec) : _root_.Go.OpenSpec := { _root_.Go.OpenSpec.ofChange s with cond := some uptoSmall }

/-- 'teamsterkeep.FeeRises', WHERE WHAT IT READS IS OF BULK AT MOST 1048576: true; the input reads as it did. -/
def feeRisesUptoRow : OpenClaim := { program := "ytgengjneccpaiaa", sum := "4191cba8f22f58abc034fb848c1aa67b444b7e33ec62e91c50258a8d8be5adcf", func := "teamster/teamsterkeep.FeeRises", spec := "feeRises", unfollowed := true, recurses := true, apart := false, narrowed := true }
def FeeRisesUptoSaid : Prop := feeRisesUptoRow.holds Try.pinned (OpenSpec.upto feeRisesSpec)

/-- 'teamsterkeep.FeeSaved', WHERE WHAT IT READS IS OF BULK AT MOST 1048576: true; the input reads as it did. -/
def feeSavedUptoRow : OpenClaim := { program := "ytgengjneccpaiaa", sum := "4191cba8f22f58abc034fb848c1aa67b444b7e33ec62e91c50258a8d8be5adcf", func := "teamster/teamsterkeep.FeeSaved", spec := "feeSaved", unfollowed := true, recurses := true, apart := false, narrowed := true }
def FeeSavedUptoSaid : Prop := feeSavedUptoRow.holds Try.pinned (OpenSpec.upto feeSavedSpec)

end Rows
end Go.Proofs.Ytgengjneccpaiaa
