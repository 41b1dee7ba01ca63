/-
  No cell of these rows narrows 'for every input' (looked for: loops, veiled, ifaces, maps, wideKeys, modest, calm, conditions, laid).
  DERIVED. THE GIVEN ROWS OF THIS SEAT. 4 by the template 'for every input the law returns true; each argument reads behind the call as it read before'; 0 by the template 'total and deterministic' (their statements: YticffbcbfgboeaaTotals.lean).
  GIVEN WITH THE SEED: the statements are not yours to turn. If you find one false, say at which input.
  Laid BY PROGRAM, IN A SANDBOX (cutbox-rows.mjs): the forced cells as the released guide's own fill.sh prints them over the translation 4b14ebbf3ee3b959… (all of the seat's roots in one cut). By AI agents, Wed Nov 11 2026. No macro, syntax, notation, axiom, sorry.
-/
import Derived.Test.YticffbcbfgboeaaChecked
import GoSem.Claim
import GoSem.ClaimJoined
import GoSem.ClaimMapViews
import Derived.JoinedTies
import Derived.KernelRfl
namespace Go.Proofs.Yticffbcbfgboeaa
/- THE CELL 'sum', in the pinned program and in every row, IS THE sha256 OF THE DUMP (.gsa) THAT YticffbcbfgboeaaProg.lean LOADS. Nothing in Lean hashes anything: it is a label: what it is worth is what the hold of that sum in a sandbox is worth. -/
noncomputable def Try.pinned : Pinned := { name := "yticffbcbfgboeaa", sum := "4b14ebbf3ee3b9599540d724110cfe8f983ef22b0549cb08fdfa805bd78fe6d3", checked := Try.checked }
namespace Rows
def none {H : Type} : Left H := { results := [], args := [] }

/-- 'teamstertop.TopMost': WHATEVER THE INPUT: true; the input reads as it did. -/
def topMostSpec : ChangeSpec := { name := "topMost", fn := fun _ => fun
  | [d1, d2, d3] => { results := [.lit (.bool true)], args := [d1, d2, d3] }
  | _ => none }
def topMostRow : OpenClaim := { program := "yticffbcbfgboeaa", sum := "4b14ebbf3ee3b9599540d724110cfe8f983ef22b0549cb08fdfa805bd78fe6d3", func := "teamster/teamstertop.TopMost", spec := "topMost", unfollowed := true, recurses := true, apart := false }
def TopMostSaid : Prop := topMostRow.holds Try.pinned (OpenSpec.ofChange topMostSpec)

/-- ITS FALSE NEIGHBOUR: 'it returns false'. Refute it at one input. -/
def topMostWrong : ChangeSpec := { name := "topMost", fn := fun _ => fun
  | [d1, d2, d3] => { results := [.lit (.bool false)], args := [d1, d2, d3] }
  | _ => none }
def TopMostWrongFalsely : Prop := topMostRow.holds Try.pinned (OpenSpec.ofChange topMostWrong)

/-- 'teamstertop.TopMore': WHATEVER THE INPUT: true; the input reads as it did. -/
def topMoreSpec : ChangeSpec := { name := "topMore", fn := fun _ => fun
  | [d1, d2, d3, d4] => { results := [.lit (.bool true)], args := [d1, d2, d3, d4] }
  | _ => none }
def topMoreRow : OpenClaim := { program := "yticffbcbfgboeaa", sum := "4b14ebbf3ee3b9599540d724110cfe8f983ef22b0549cb08fdfa805bd78fe6d3", func := "teamster/teamstertop.TopMore", spec := "topMore", unfollowed := true, recurses := true, apart := false }
def TopMoreSaid : Prop := topMoreRow.holds Try.pinned (OpenSpec.ofChange topMoreSpec)

/-- ITS FALSE NEIGHBOUR: 'it returns false'. Refute it at one input. -/
def topMoreWrong : ChangeSpec := { name := "topMore", fn := fun _ => fun
  | [d1, d2, d3, d4] => { results := [.lit (.bool false)], args := [d1, d2, d3, d4] }
  | _ => none }
def TopMoreWrongFalsely : Prop := topMoreRow.holds Try.pinned (OpenSpec.ofChange topMoreWrong)

/-- 'teamsterkeep.CrewFront': WHATEVER THE INPUT: true; the input reads as it did. -/
def crewFrontSpec : ChangeSpec := { name := "crewFront", fn := fun _ => fun
  | [d1, d2, d3, d4] => { results := [.lit (.bool true)], args := [d1, d2, d3, d4] }
  | _ => none }
def crewFrontRow : OpenClaim := { program := "yticffbcbfgboeaa", sum := "4b14ebbf3ee3b9599540d724110cfe8f983ef22b0549cb08fdfa805bd78fe6d3", func := "teamster/teamsterkeep.CrewFront", spec := "crewFront", unfollowed := true, recurses := true, apart := false }
def CrewFrontSaid : Prop := crewFrontRow.holds Try.pinned (OpenSpec.ofChange crewFrontSpec)

/-- ITS FALSE NEIGHBOUR: 'it returns false'. Refute it at one input. -/
def crewFrontWrong : ChangeSpec := { name := "crewFront", fn := fun _ => fun
  | [d1, d2, d3, d4] => { results := [.lit (.bool false)], args := [d1, d2, d3, d4] }
  | _ => none }
def CrewFrontWrongFalsely : Prop := crewFrontRow.holds Try.pinned (OpenSpec.ofChange crewFrontWrong)

/-- 'teamsterkeep.CrewRefused': WHATEVER THE INPUT: true; the input reads as it did. -/
def crewRefusedSpec : ChangeSpec := { name := "crewRefused", fn := fun _ => fun
  | [d1, d2, d3] => { results := [.lit (.bool true)], args := [d1, d2, d3] }
  | _ => none }
def crewRefusedRow : OpenClaim := { program := "yticffbcbfgboeaa", sum := "4b14ebbf3ee3b9599540d724110cfe8f983ef22b0549cb08fdfa805bd78fe6d3", func := "teamster/teamsterkeep.CrewRefused", spec := "crewRefused", unfollowed := true, recurses := true, apart := false }
def CrewRefusedSaid : Prop := crewRefusedRow.holds Try.pinned (OpenSpec.ofChange crewRefusedSpec)

/-- ITS FALSE NEIGHBOUR: 'it returns false'. Refute it at one input. -/
def crewRefusedWrong : ChangeSpec := { name := "crewRefused", fn := fun _ => fun
  | [d1, d2, d3] => { results := [.lit (.bool false)], args := [d1, d2, d3] }
  | _ => none }
def CrewRefusedWrongFalsely : Prop := crewRefusedRow.holds Try.pinned (OpenSpec.ofChange crewRefusedWrong)

/- THE SECOND FORM. 'bulk': how many values and letters a reading holds, each counted each time it is reached (what is shared counts as often as it is met; a slice's spare places count too). A statement '..UptoSaid' is the law's where the arguments, and the package variables that the reading takes, are together of bulk at most 1048576: NARROWER than '..Said'. Prove '..Said' where nothing that the law and all that it calls make is longer than what came in: it says more and counts as full. Else prove '..UptoSaid'. A law counts once. -/
mutual
def uptoBulk {H : Type} : DataW H → Nat
  | .lit (.string bytes) => bytes.length + 1
  | .lit _ => 1
  | .nil => 1
  | .ptr d => uptoBulk d + 1
  | .slice elems spare => uptoBulkAll elems + uptoBulkAll spare + 1
  | .agg parts => uptoBulkAll parts + 1
  | .iface _ d => uptoBulk d + 1
  | .map entries => uptoBulkEntries entries + 1
  | .held _ => 1
def uptoBulkAll {H : Type} : List (DataW H) → Nat
  | [] => 0
  | d :: r => uptoBulk d + uptoBulkAll r
def uptoBulkEntries {H : Type} : List (Lit × DataW H) → Nat
  | [] => 0
  | x :: r => uptoBulkEntry x + uptoBulkEntries r
def uptoBulkEntry {H : Type} : Lit × DataW H → Nat
  | (.string bytes, d) => bytes.length + uptoBulk d + 1
  | (_, d) => uptoBulk d + 1
 end
def uptoSmall : (H : Type) → List (DataW H) → Bool := fun _ ds => decide (uptoBulkAll ds ≤ 1048576)
def OpenSpec.upto (s : _root_.Go.ChangeSpec) : _root_.Go.OpenSpec := { _root_.Go.OpenSpec.ofChange s with cond := some uptoSmall }

/-- 'teamstertop.TopMost', WHERE WHAT IT READS IS OF BULK AT MOST 1048576: true; the input reads as it did. -/
def topMostUptoRow : OpenClaim := { program := "yticffbcbfgboeaa", sum := "4b14ebbf3ee3b9599540d724110cfe8f983ef22b0549cb08fdfa805bd78fe6d3", func := "teamster/teamstertop.TopMost", spec := "topMost", unfollowed := true, recurses := true, apart := false, narrowed := true }
def TopMostUptoSaid : Prop := topMostUptoRow.holds Try.pinned (OpenSpec.upto topMostSpec)

/-- 'teamstertop.TopMore', WHERE WHAT IT READS IS OF BULK AT MOST 1048576: true; the input reads as it did. -/
def topMoreUptoRow : OpenClaim := { program := "yticffbcbfgboeaa", sum := "4b14ebbf3ee3b9599540d724110cfe8f983ef22b0549cb08fdfa805bd78fe6d3", func := "teamster/teamstertop.TopMore", spec := "topMore", unfollowed := true, recurses := true, apart := false, narrowed := true }
def TopMoreUptoSaid : Prop := topMoreUptoRow.holds Try.pinned (OpenSpec.upto topMoreSpec)

/-- 'teamsterkeep.CrewFront', WHERE WHAT IT READS IS OF BULK AT MOST 1048576: true; the input reads as it did. -/
def crewFrontUptoRow : OpenClaim := { program := "yticffbcbfgboeaa", sum := "4b14ebbf3ee3b9599540d724110cfe8f983ef22b0549cb08fdfa805bd78fe6d3", func := "teamster/teamsterkeep.CrewFront", spec := "crewFront", unfollowed := true, recurses := true, apart := false, narrowed := true }
def CrewFrontUptoSaid : Prop := crewFrontUptoRow.holds Try.pinned (OpenSpec.upto crewFrontSpec)

/-- 'teamsterkeep.CrewRefused', WHERE WHAT IT READS IS OF BULK AT MOST 1048576: true; the input reads as it did. -/
def crewRefusedUptoRow : OpenClaim := { program := "yticffbcbfgboeaa", sum := "4b14ebbf3ee3b9599540d724110cfe8f983ef22b0549cb08fdfa805bd78fe6d3", func := "teamster/teamsterkeep.CrewRefused", spec := "crewRefused", unfollowed := true, recurses := true, apart := false, narrowed := true }
def CrewRefusedUptoSaid : Prop := crewRefusedUptoRow.holds Try.pinned (OpenSpec.upto crewRefusedSpec)

end Rows
end Go.Proofs.Yticffbcbfgboeaa
