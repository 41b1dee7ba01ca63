/-
  No cell of these rows narrows 'for every input' (looked for: loops, veiled, ifaces, maps, wideKeys, modest, calm, conditions, laid).
  DERIVED. THE GIVEN ROWS OF THIS SEAT. 3 by the template 'for every input the law returns true; each argument reads behind the call as it read before'; 0 by the template 'total and deterministic' (their statements: YtecillikakfdnaaTotals.lean).
  GIVEN WITH THE SEED: the statements are not yours to turn. If you find one false, say at which input.
  Laid BY PROGRAM, IN A SANDBOX (cutbox-rows.mjs): the forced cells as the released guide's own fill.sh prints them over the translation 0f58099e1ccd1bb2… (all of the seat's roots in one cut). By AI agents, Wed Nov 11 2026. No macro, syntax, notation, axiom, sorry.
-/
import Derived.Test.YtecillikakfdnaaChecked
import GoSem.Claim
import GoSem.ClaimJoined
import GoSem.ClaimMapViews
import Derived.JoinedTies
import Derived.KernelRfl
namespace Go.Proofs.Ytecillikakfdnaa
/- THE CELL 'sum', in the pinned program and in every row, IS THE sha256 OF THE DUMP (.gsa) THAT YtecillikakfdnaaProg.lean LOADS. Nothing in Lean hashes anything: it is a label: what it is worth is what the hold of that sum in a sandbox is worth. -/
noncomputable def Try.pinned : Pinned := { name := "ytecillikakfdnaa", sum := "0f58099e1ccd1bb2b3c470b71efbc4dc5c3b6cc6e63e0d5ad03d5f45ecd0a6c9", checked := Try.checked }
namespace Rows
def none {H : Type} : Left H := { results := [], args := [] }

/-- 'teamsterkeep.SplitAny': WHATEVER THE INPUT: true; the input reads as it did. -/
def splitAnySpec : ChangeSpec := { name := "splitAny", fn := fun _ => fun
  | [d1, d2, d3] => { results := [.lit (.bool true)], args := [d1, d2, d3] }
  | _ => none }
def splitAnyRow : OpenClaim := { program := "ytecillikakfdnaa", sum := "0f58099e1ccd1bb2b3c470b71efbc4dc5c3b6cc6e63e0d5ad03d5f45ecd0a6c9", func := "teamster/teamsterkeep.SplitAny", spec := "splitAny", unfollowed := true, recurses := true, apart := false }
def SplitAnySaid : Prop := splitAnyRow.holds Try.pinned (OpenSpec.ofChange splitAnySpec)

/-- ITS FALSE NEIGHBOUR: 'it returns false'. Refute it at one input. -/
def splitAnyWrong : ChangeSpec := { name := "splitAny", fn := fun _ => fun
  | [d1, d2, d3] => { results := [.lit (.bool false)], args := [d1, d2, d3] }
  | _ => none }
def SplitAnyWrongFalsely : Prop := splitAnyRow.holds Try.pinned (OpenSpec.ofChange splitAnyWrong)

/-- 'teamsterkeep.SplitGraham': WHATEVER THE INPUT: true; the input reads as it did. -/
def splitGrahamSpec : ChangeSpec := { name := "splitGraham", fn := fun _ => fun
  | [d1, d2] => { results := [.lit (.bool true)], args := [d1, d2] }
  | _ => none }
def splitGrahamRow : OpenClaim := { program := "ytecillikakfdnaa", sum := "0f58099e1ccd1bb2b3c470b71efbc4dc5c3b6cc6e63e0d5ad03d5f45ecd0a6c9", func := "teamster/teamsterkeep.SplitGraham", spec := "splitGraham", unfollowed := true, recurses := true, apart := false }
def SplitGrahamSaid : Prop := splitGrahamRow.holds Try.pinned (OpenSpec.ofChange splitGrahamSpec)

/-- ITS FALSE NEIGHBOUR: 'it returns false'. Refute it at one input. -/
def splitGrahamWrong : ChangeSpec := { name := "splitGraham", fn := fun _ => fun
  | [d1, d2] => { results := [.lit (.bool false)], args := [d1, d2] }
  | _ => none }
def SplitGrahamWrongFalsely : Prop := splitGrahamRow.holds Try.pinned (OpenSpec.ofChange splitGrahamWrong)

/-- 'teamsterkeep.SplitLpt': WHATEVER THE INPUT: true; the input reads as it did. -/
def splitLptSpec : ChangeSpec := { name := "splitLpt", fn := fun _ => fun
  | [d1, d2] => { results := [.lit (.bool true)], args := [d1, d2] }
  | _ => none }
def splitLptRow : OpenClaim := { program := "ytecillikakfdnaa", sum := "0f58099e1ccd1bb2b3c470b71efbc4dc5c3b6cc6e63e0d5ad03d5f45ecd0a6c9", func := "teamster/teamsterkeep.SplitLpt", spec := "splitLpt", unfollowed := true, recurses := true, apart := false }
def SplitLptSaid : Prop := splitLptRow.holds Try.pinned (OpenSpec.ofChange splitLptSpec)

/-- ITS FALSE NEIGHBOUR: 'it returns false'. Refute it at one input. -/
def splitLptWrong : ChangeSpec := { name := "splitLpt", fn := fun _ => fun
  | [d1, d2] => { results := [.lit (.bool false)], args := [d1, d2] }
  | _ => none }
def SplitLptWrongFalsely : Prop := splitLptRow.holds Try.pinned (OpenSpec.ofChange splitLptWrong)

/- THE SECOND FORM. 'bulk': how many values and letters a reading holds, each counted each time it is reached (what is shared counts as often as it is met; a slice's spare places count too). A statement '..UptoSaid' is the law's where the arguments, and the package variables that the reading takes, are together of bulk at most 1048576: NARROWER than '..Said'. Prove '..Said' where nothing that the law and all that it calls make is longer than what came in: it says more and counts as full. Else prove '..UptoSaid'. A law counts once. -/
mutual
def uptoBulk {H : Type} : DataW H → Nat
  | .lit (.string bytes) => bytes.length + 1
  | .lit _ => 1
  | .nil => 1
  | .ptr d => uptoBulk d + 1
  | .slice elems spare => uptoBulkAll elems + uptoBulkAll spare + 1
  | .agg parts => uptoBulkAll parts + 1
  | .iface _ d => uptoBulk d + 1
  | .map entries => uptoBulkEntries entries + 1
  | .held _ => 1
def uptoBulkAll {H : Type} : List (DataW H) → Nat
  | [] => 0
  | d :: r => uptoBulk d + uptoBulkAll r
def uptoBulkEntries {H : Type} : List (Lit × DataW H) → Nat
  | [] => 0
  | x :: r => uptoBulkEntry x + uptoBulkEntries r
def uptoBulkEntry {H : Type} : Lit × DataW H → Nat
  | (.string bytes, d) => bytes.length + uptoBulk d + 1
  | (_, d) => uptoBulk d + 1
 end
def uptoSmall : (H : Type) → List (DataW H) → Bool := fun _ ds => decide (uptoBulkAll ds ≤ 1048576)
def OpenSpec.upto (s : _root_.Go.ChangeSpec) : _root_.Go.OpenSpec := { _root_.Go.OpenSpec.ofChange s with cond := some uptoSmall }

/-- 'teamsterkeep.SplitAny', WHERE WHAT IT READS IS OF BULK AT MOST 1048576: true; the input reads as it did. -/
def splitAnyUptoRow : OpenClaim := { program := "ytecillikakfdnaa", sum := "0f58099e1ccd1bb2b3c470b71efbc4dc5c3b6cc6e63e0d5ad03d5f45ecd0a6c9", func := "teamster/teamsterkeep.SplitAny", spec := "splitAny", unfollowed := true, recurses := true, apart := false, narrowed := true }
def SplitAnyUptoSaid : Prop := splitAnyUptoRow.holds Try.pinned (OpenSpec.upto splitAnySpec)

/-- 'teamsterkeep.SplitGraham', WHERE WHAT IT READS IS OF BULK AT MOST 1048576: true; the input reads as it did. -/
def splitGrahamUptoRow : OpenClaim := { program := "ytecillikakfdnaa", sum := "0f58099e1ccd1bb2b3c470b71efbc4dc5c3b6cc6e63e0d5ad03d5f45ecd0a6c9", func := "teamster/teamsterkeep.SplitGraham", spec := "splitGraham", unfollowed := true, recurses := true, apart := false, narrowed := true }
def SplitGrahamUptoSaid : Prop := splitGrahamUptoRow.holds Try.pinned (OpenSpec.upto splitGrahamSpec)

/-- 'teamsterkeep.SplitLpt', WHERE WHAT IT READS IS OF BULK AT MOST 1048576: true; the input reads as it did. -/
def splitLptUptoRow : OpenClaim := { program := "ytecillikakfdnaa", sum := "0f58099e1ccd1bb2b3c470b71efbc4dc5c3b6cc6e63e0d5ad03d5f45ecd0a6c9", func := "teamster/teamsterkeep.SplitLpt", spec := "splitLpt", unfollowed := true, recurses := true, apart := false, narrowed := true }
def SplitLptUptoSaid : Prop := splitLptUptoRow.holds Try.pinned (OpenSpec.upto splitLptSpec)

end Rows
end Go.Proofs.Ytecillikakfdnaa
