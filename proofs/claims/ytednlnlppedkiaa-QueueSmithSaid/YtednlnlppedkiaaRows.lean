/-
  No cell of these rows narrows 'for every input' (looked for: loops, veiled, ifaces, maps, wideKeys, modest, calm, conditions, laid).
  DERIVED. THE GIVEN ROWS OF THIS SEAT. 4 by the template 'for every input the law returns true; each argument reads behind the call as it read before'; 0 by the template 'total and deterministic' (their statements: YtednlnlppedkiaaTotals.lean).
  GIVEN WITH THE SEED: the statements are not yours to turn. If you find one false, say at which input.
  Laid BY PROGRAM, IN A SANDBOX (cutbox-rows.mjs): the forced cells as the released guide's own fill.sh prints them over the translation 17153d2c1f1d8f30… (all of the seat's roots in one cut). By AI agents, Wed Nov 11 2026. No macro, syntax, notation, axiom, sorry.
-/
import Derived.Test.YtednlnlppedkiaaChecked
import GoSem.Claim
import GoSem.ClaimJoined
import GoSem.ClaimMapViews
import Derived.JoinedTies
import Derived.KernelRfl
namespace Go.Proofs.Ytednlnlppedkiaa
/- THE CELL 'sum', in the pinned program and in every row, IS THE sha256 OF THE DUMP (.gsa) THAT YtednlnlppedkiaaProg.lean LOADS. Nothing in Lean hashes anything: it is a label: what it is worth is what the hold of that sum in a sandbox is worth. -/
noncomputable def Try.pinned : Pinned := { name := "ytednlnlppedkiaa", sum := "17153d2c1f1d8f30119367a22b74e4a927f112def0db214bc4db252f48967b35", checked := Try.checked }
namespace Rows
def none {H : Type} : Left H := { results := [], args := [] }

/-- 'teamsterkeep.QueueAny': WHATEVER THE INPUT: true; the input reads as it did. -/
def queueAnySpec : ChangeSpec := { name := "queueAny", fn := fun _ => fun
  | [d1, d2, d3] => { results := [.lit (.bool true)], args := [d1, d2, d3] }
  | _ => none }
def queueAnyRow : OpenClaim := { program := "ytednlnlppedkiaa", sum := "17153d2c1f1d8f30119367a22b74e4a927f112def0db214bc4db252f48967b35", func := "teamster/teamsterkeep.QueueAny", spec := "queueAny", unfollowed := true, recurses := true, apart := false }
def QueueAnySaid : Prop := queueAnyRow.holds Try.pinned (OpenSpec.ofChange queueAnySpec)

/-- ITS FALSE NEIGHBOUR: 'it returns false'. Refute it at one input. -/
def queueAnyWrong : ChangeSpec := { name := "queueAny", fn := fun _ => fun
  | [d1, d2, d3] => { results := [.lit (.bool false)], args := [d1, d2, d3] }
  | _ => none }
def QueueAnyWrongFalsely : Prop := queueAnyRow.holds Try.pinned (OpenSpec.ofChange queueAnyWrong)

/-- 'teamsterkeep.QueueRule': WHATEVER THE INPUT: true; the input reads as it did. -/
def queueRuleSpec : ChangeSpec := { name := "queueRule", fn := fun _ => fun
  | [d1, d2] => { results := [.lit (.bool true)], args := [d1, d2] }
  | _ => none }
def queueRuleRow : OpenClaim := { program := "ytednlnlppedkiaa", sum := "17153d2c1f1d8f30119367a22b74e4a927f112def0db214bc4db252f48967b35", func := "teamster/teamsterkeep.QueueRule", spec := "queueRule", unfollowed := true, recurses := true, apart := false }
def QueueRuleSaid : Prop := queueRuleRow.holds Try.pinned (OpenSpec.ofChange queueRuleSpec)

/-- ITS FALSE NEIGHBOUR: 'it returns false'. Refute it at one input. -/
def queueRuleWrong : ChangeSpec := { name := "queueRule", fn := fun _ => fun
  | [d1, d2] => { results := [.lit (.bool false)], args := [d1, d2] }
  | _ => none }
def QueueRuleWrongFalsely : Prop := queueRuleRow.holds Try.pinned (OpenSpec.ofChange queueRuleWrong)

/-- 'teamsterkeep.QueueSmith': WHATEVER THE INPUT: true; the input reads as it did. -/
def queueSmithSpec : ChangeSpec := { name := "queueSmith", fn := fun _ => fun
  | [d1, d2] => { results := [.lit (.bool true)], args := [d1, d2] }
  | _ => none }
def queueSmithRow : OpenClaim := { program := "ytednlnlppedkiaa", sum := "17153d2c1f1d8f30119367a22b74e4a927f112def0db214bc4db252f48967b35", func := "teamster/teamsterkeep.QueueSmith", spec := "queueSmith", unfollowed := true, recurses := true, apart := false }
def QueueSmithSaid : Prop := queueSmithRow.holds Try.pinned (OpenSpec.ofChange queueSmithSpec)

/-- ITS FALSE NEIGHBOUR: 'it returns false'. Refute it at one input. -/
def queueSmithWrong : ChangeSpec := { name := "queueSmith", fn := fun _ => fun
  | [d1, d2] => { results := [.lit (.bool false)], args := [d1, d2] }
  | _ => none }
def QueueSmithWrongFalsely : Prop := queueSmithRow.holds Try.pinned (OpenSpec.ofChange queueSmithWrong)

/-- 'teamsterkeep.QueueJackson': WHATEVER THE INPUT: true; the input reads as it did. -/
def queueJacksonSpec : ChangeSpec := { name := "queueJackson", fn := fun _ => fun
  | [d1, d2] => { results := [.lit (.bool true)], args := [d1, d2] }
  | _ => none }
def queueJacksonRow : OpenClaim := { program := "ytednlnlppedkiaa", sum := "17153d2c1f1d8f30119367a22b74e4a927f112def0db214bc4db252f48967b35", func := "teamster/teamsterkeep.QueueJackson", spec := "queueJackson", unfollowed := true, recurses := true, apart := false }
def QueueJacksonSaid : Prop := queueJacksonRow.holds Try.pinned (OpenSpec.ofChange queueJacksonSpec)

/-- ITS FALSE NEIGHBOUR: 'it returns false'. Refute it at one input. -/
def queueJacksonWrong : ChangeSpec := { name := "queueJackson", fn := fun _ => fun
  | [d1, d2] => { results := [.lit (.bool false)], args := [d1, d2] }
  | _ => none }
def QueueJacksonWrongFalsely : Prop := queueJacksonRow.holds Try.pinned (OpenSpec.ofChange queueJacksonWrong)

/- THE SECOND FORM. 'bulk': how many values and letters a reading holds, each counted each time it is reached (what is shared counts as often as it is met; a slice's spare places count too). A statement '..UptoSaid' is the law's where the arguments, and the package variables that the reading takes, are together of bulk at most 1048576: NARROWER than '..Said'. Prove '..Said' where nothing that the law and all that it calls make is longer than what came in: it says more and counts as full. Else prove '..UptoSaid'. A law counts once. -/
mutual
def uptoBulk {H : Type} : DataW H → Nat
  | .lit (.string bytes) => bytes.length + 1
  | .lit _ => 1
  | .nil => 1
  | .ptr d => uptoBulk d + 1
  | .slice elems spare => uptoBulkAll elems + uptoBulkAll spare + 1
  | .agg parts => uptoBulkAll parts + 1
  | .iface _ d => uptoBulk d + 1
  | .map entries => uptoBulkEntries entries + 1
  | .held _ => 1
def uptoBulkAll {H : Type} : List (DataW H) → Nat
  | [] => 0
  | d :: r => uptoBulk d + uptoBulkAll r
def uptoBulkEntries {H : Type} : List (Lit × DataW H) → Nat
  | [] => 0
  | x :: r => uptoBulkEntry x + uptoBulkEntries r
def uptoBulkEntry {H : Type} : Lit × DataW H → Nat
  | (.string bytes, d) => bytes.length + uptoBulk d + 1
  | (_, d) => uptoBulk d + 1
 end
def uptoSmall : (H : Type) → List (DataW H) → Bool := fun _ ds => decide (uptoBulkAll ds ≤ 1048576)
def OpenSpec.upto (s : _root_.Go.ChangeSpec) : _root_.Go.OpenSpec := { _root_.Go.OpenSpec.ofChange s with cond := some uptoSmall }

/-- 'teamsterkeep.QueueAny', WHERE WHAT IT READS IS OF BULK AT MOST 1048576: true; the input reads as it did. -/
def queueAnyUptoRow : OpenClaim := { program := "ytednlnlppedkiaa", sum := "17153d2c1f1d8f30119367a22b74e4a927f112def0db214bc4db252f48967b35", func := "teamster/teamsterkeep.QueueAny", spec := "queueAny", unfollowed := true, recurses := true, apart := false, narrowed := true }
def QueueAnyUptoSaid : Prop := queueAnyUptoRow.holds Try.pinned (OpenSpec.upto queueAnySpec)

/-- 'teamsterkeep.QueueRule', WHERE WHAT IT READS IS OF BULK AT MOST 1048576: true; the input reads as it did. -/
def queueRuleUptoRow : OpenClaim := { program := "ytednlnlppedkiaa", sum := "17153d2c1f1d8f30119367a22b74e4a927f112def0db214bc4db252f48967b35", func := "teamster/teamsterkeep.QueueRule", spec := "queueRule", unfollowed := true, recurses := true, apart := false, narrowed := true }
def QueueRuleUptoSaid : Prop := queueRuleUptoRow.holds Try.pinned (OpenSpec.upto queueRuleSpec)

/-- 'teamsterkeep.QueueSmith', WHERE WHAT IT READS IS OF BULK AT MOST 1048576: true; the input reads as it did. -/
def queueSmithUptoRow : OpenClaim := { program := "ytednlnlppedkiaa", sum := "17153d2c1f1d8f30119367a22b74e4a927f112def0db214bc4db252f48967b35", func := "teamster/teamsterkeep.QueueSmith", spec := "queueSmith", unfollowed := true, recurses := true, apart := false, narrowed := true }
def QueueSmithUptoSaid : Prop := queueSmithUptoRow.holds Try.pinned (OpenSpec.upto queueSmithSpec)

/-- 'teamsterkeep.QueueJackson', WHERE WHAT IT READS IS OF BULK AT MOST 1048576: true; the input reads as it did. -/
def queueJacksonUptoRow : OpenClaim := { program := "ytednlnlppedkiaa", sum := "17153d2c1f1d8f30119367a22b74e4a927f112def0db214bc4db252f48967b35", func := "teamster/teamsterkeep.QueueJackson", spec := "queueJackson", unfollowed := true, recurses := true, apart := false, narrowed := true }
def QueueJacksonUptoSaid : Prop := queueJacksonUptoRow.holds Try.pinned (OpenSpec.upto queueJacksonSpec)

end Rows
end Go.Proofs.Ytednlnlppedkiaa
