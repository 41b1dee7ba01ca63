/-
  No cell of these rows narrows 'for every input' (looked for: loops, veiled, ifaces, maps, wideKeys, modest, calm, conditions, laid).
  DERIVED. THE GIVEN ROWS OF THIS SEAT. 3 by the template 'for every input the law returns true; each argument reads behind the call as it read before'; 0 by the template 'total and deterministic' (their statements: YtemcolhpghjnkaaTotals.lean).
  GIVEN WITH THE SEED: the statements are not yours to turn. If you find one false, say at which input.
  Laid BY PROGRAM, IN A SANDBOX (cutbox-rows.mjs): the forced cells as the released guide's own fill.sh prints them over the translation 0a695b39ecdc3c8d… (all of the seat's roots in one cut). By AI agents, Wed Nov 11 2026. No macro, syntax, notation, axiom, sorry.
-/
import Derived.Test.YtemcolhpghjnkaaChecked
import GoSem.Claim
import GoSem.ClaimJoined
import GoSem.ClaimMapViews
import Derived.JoinedTies
import Derived.KernelRfl
namespace Go.Proofs.Ytemcolhpghjnkaa
/- THE CELL 'sum', in the pinned program and in every row, IS THE sha256 OF THE DUMP (.gsa) THAT YtemcolhpghjnkaaProg.lean LOADS. Nothing in Lean hashes anything: it is a label: what it is worth is what the hold of that sum in a sandbox is worth. -/
noncomputable def Try.pinned : Pinned := { name := "ytemcolhpghjnkaa", sum := "0a695b39ecdc3c8d2a39c2ddfedf756e3be4f4a6f3ee81df0481de45e1689451", checked := Try.checked }
namespace Rows
def none {H : Type} : Left H := { results := [], args := [] }

/-- 'teamsterkeep.ShortBellman': WHATEVER THE INPUT: true; the input reads as it did. -/
def shortBellmanSpec : ChangeSpec := { name := "shortBellman", fn := fun _ => fun
  | [d1, d2] => { results := [.lit (.bool true)], args := [d1, d2] }
  | _ => none }
def shortBellmanRow : OpenClaim := { program := "ytemcolhpghjnkaa", sum := "0a695b39ecdc3c8d2a39c2ddfedf756e3be4f4a6f3ee81df0481de45e1689451", func := "teamster/teamsterkeep.ShortBellman", spec := "shortBellman", unfollowed := true, recurses := true, plainKeys := false, apart := false }
def ShortBellmanSaid : Prop := shortBellmanRow.holds Try.pinned (OpenSpec.ofChange shortBellmanSpec)

/-- ITS FALSE NEIGHBOUR: 'it returns false'. Refute it at one input. -/
def shortBellmanWrong : ChangeSpec := { name := "shortBellman", fn := fun _ => fun
  | [d1, d2] => { results := [.lit (.bool false)], args := [d1, d2] }
  | _ => none }
def ShortBellmanWrongFalsely : Prop := shortBellmanRow.holds Try.pinned (OpenSpec.ofChange shortBellmanWrong)

/-- 'teamsterkeep.ShortShifts': WHATEVER THE INPUT: true; the input reads as it did. -/
def shortShiftsSpec : ChangeSpec := { name := "shortShifts", fn := fun _ => fun
  | [d1, d2, d3] => { results := [.lit (.bool true)], args := [d1, d2, d3] }
  | _ => none }
def shortShiftsRow : OpenClaim := { program := "ytemcolhpghjnkaa", sum := "0a695b39ecdc3c8d2a39c2ddfedf756e3be4f4a6f3ee81df0481de45e1689451", func := "teamster/teamsterkeep.ShortShifts", spec := "shortShifts", unfollowed := true, recurses := true, plainKeys := false, apart := false }
def ShortShiftsSaid : Prop := shortShiftsRow.holds Try.pinned (OpenSpec.ofChange shortShiftsSpec)

/-- ITS FALSE NEIGHBOUR: 'it returns false'. Refute it at one input. -/
def shortShiftsWrong : ChangeSpec := { name := "shortShifts", fn := fun _ => fun
  | [d1, d2, d3] => { results := [.lit (.bool false)], args := [d1, d2, d3] }
  | _ => none }
def ShortShiftsWrongFalsely : Prop := shortShiftsRow.holds Try.pinned (OpenSpec.ofChange shortShiftsWrong)

/-- 'teamsterkeep.ShortWalks': WHATEVER THE INPUT: true; the input reads as it did. -/
def shortWalksSpec : ChangeSpec := { name := "shortWalks", fn := fun _ => fun
  | [d1, d2, d3, d4] => { results := [.lit (.bool true)], args := [d1, d2, d3, d4] }
  | _ => none }
def shortWalksRow : OpenClaim := { program := "ytemcolhpghjnkaa", sum := "0a695b39ecdc3c8d2a39c2ddfedf756e3be4f4a6f3ee81df0481de45e1689451", func := "teamster/teamsterkeep.ShortWalks", spec := "shortWalks", unfollowed := true, recurses := true, plainKeys := false, apart := false }
def ShortWalksSaid : Prop := shortWalksRow.holds Try.pinned (OpenSpec.ofChange shortWalksSpec)

/-- ITS FALSE NEIGHBOUR: 'it returns false'. Refute it at one input. -/
def shortWalksWrong : ChangeSpec := { name := "shortWalks", fn := fun _ => fun
  | [d1, d2, d3, d4] => { results := [.lit (.bool false)], args := [d1, d2, d3, d4] }
  | _ => none }
def ShortWalksWrongFalsely : Prop := shortWalksRow.holds Try.pinned (OpenSpec.ofChange shortWalksWrong)

/- THE SECOND FORM. 'bulk': how many values and letters a reading holds, each counted each time it is reached (what is shared counts as often as it is met; a slice's spare places count too). A statement '..UptoSaid' is the law's where the arguments, and the package variables that the reading takes, are together of bulk at most 1048576: NARROWER than '..Said'. Prove '..Said' where nothing that the law and all that it calls make is longer than what came in: it says more and counts as full. Else prove '..UptoSaid'. A law counts once. -/
mutual
def uptoBulk {H : Type} : DataW H → Nat
  | .lit (.string bytes) => bytes.length + 1
  | .lit _ => 1
  | .nil => 1
  | .ptr d => uptoBulk d + 1
  | .slice elems spare => uptoBulkAll elems + uptoBulkAll spare + 1
  | .agg parts => uptoBulkAll parts + 1
  | .iface _ d => uptoBulk d + 1
  | .map entries => uptoBulkEntries entries + 1
  | .held _ => 1
def uptoBulkAll {H : Type} : List (DataW H) → Nat
  | [] => 0
  | d :: r => uptoBulk d + uptoBulkAll r
def uptoBulkEntries {H : Type} : List (Lit × DataW H) → Nat
  | [] => 0
  | x :: r => uptoBulkEntry x + uptoBulkEntries r
def uptoBulkEntry {H : Type} : Lit × DataW H → Nat
  | (.string bytes, d) => bytes.length + uptoBulk d + 1
  | (_, d) => uptoBulk d + 1
 end
def uptoSmall : (H : Type) → List (DataW H) → Bool := fun _ ds => decide (uptoBulkAll ds ≤ 1048576)
def OpenSpec.upto (s : _root_.Go.ChangeSpec) : _root_.Go.OpenSpec := { _root_.Go.OpenSpec.ofChange s with cond := some uptoSmall }

/-- 'teamsterkeep.ShortBellman', WHERE WHAT IT READS IS OF BULK AT MOST 1048576: true; the input reads as it did. -/
def shortBellmanUptoRow : OpenClaim := { program := "ytemcolhpghjnkaa", sum := "0a695b39ecdc3c8d2a39c2ddfedf756e3be4f4a6f3ee81df0481de45e1689451", func := "teamster/teamsterkeep.ShortBellman", spec := "shortBellman", unfollowed := true, recurses := true, plainKeys := false, apart := false, narrowed := true }
def ShortBellmanUptoSaid : Prop := shortBellmanUptoRow.holds Try.pinned (OpenSpec.upto shortBellmanSpec)

/-- 'teamsterkeep.ShortShifts', WHERE WHAT IT READS IS OF BULK AT MOST 1048576: true; the input reads as it did. -/
def shortShiftsUptoRow : OpenClaim := { program := "ytemcolhpghjnkaa", sum := "0a695b39ecdc3c8d2a39c2ddfedf756e3be4f4a6f3ee81df0481de45e1689451", func := "teamster/teamsterkeep.ShortShifts", spec := "shortShifts", unfollowed := true, recurses := true, plainKeys := false, apart := false, narrowed := true }
def ShortShiftsUptoSaid : Prop := shortShiftsUptoRow.holds Try.pinned (OpenSpec.upto shortShiftsSpec)

/-- 'teamsterkeep.ShortWalks', WHERE WHAT IT READS IS OF BULK AT MOST 1048576: true; the input reads as it did. -/
def shortWalksUptoRow : OpenClaim := { program := "ytemcolhpghjnkaa", sum := "0a695b39ecdc3c8d2a39c2ddfedf756e3be4f4a6f3ee81df0481de45e1689451", func := "teamster/teamsterkeep.ShortWalks", spec := "shortWalks", unfollowed := true, recurses := true, plainKeys := false, apart := false, narrowed := true }
def ShortWalksUptoSaid : Prop := shortWalksUptoRow.holds Try.pinned (OpenSpec.upto shortWalksSpec)

end Rows
end Go.Proofs.Ytemcolhpghjnkaa
