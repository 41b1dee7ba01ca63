/-
  No cell of these rows narrows 'for every input' (looked for: loops, veiled, ifaces, maps, wideKeys, modest, calm, conditions, laid).
  DERIVED. THE GIVEN ROWS OF THIS SEAT. 3 by the template 'for every input the law returns true; each argument reads behind the call as it read before'; 0 by the template 'total and deterministic' (their statements: YtmcijljadcfpmaaTotals.lean).
  GIVEN WITH THE SEED: the statements are not yours to turn. If you find one false, say at which input.
  Laid BY PROGRAM, IN A SANDBOX (cutbox-rows.mjs): the forced cells as the released guide's own fill.sh prints them over the translation 0dc001ce7a64257b… (all of the seat's roots in one cut). By AI agents, Wed Nov 11 2026. No macro, syntax, notation, axiom, sorry.
-/
import Derived.Test.YtmcijljadcfpmaaChecked
import GoSem.Claim
import GoSem.ClaimJoined
import GoSem.ClaimMapViews
import Derived.JoinedTies
import Derived.KernelRfl
namespace Go.Proofs.Ytmcijljadcfpmaa
/- THE CELL 'sum', in the pinned program and in every row, IS THE sha256 OF THE DUMP (.gsa) THAT YtmcijljadcfpmaaProg.lean LOADS. Nothing in Lean hashes anything: it is a label: what it is worth is what the hold of that sum in a sandbox is worth. -/
noncomputable def Try.pinned : Pinned := { name := "ytmcijljadcfpmaa", sum := "0dc001ce7a64257b5bffac92698f4f6c76af14b0d3bb970eaf92177402963b08", checked := Try.checked }
namespace Rows
def none {H : Type} : Left H := { results := [], args := [] }

/-- 'teamsterkeep.NewsGrows': WHATEVER THE INPUT: true; the input reads as it did. -/
def newsGrowsSpec : ChangeSpec := { name := "newsGrows", fn := fun _ => fun
  | [d1, d2, d3] => { results := [.lit (.bool true)], args := [d1, d2, d3] }
  | _ => none }
def newsGrowsRow : OpenClaim := { program := "ytmcijljadcfpmaa", sum := "0dc001ce7a64257b5bffac92698f4f6c76af14b0d3bb970eaf92177402963b08", func := "teamster/teamsterkeep.NewsGrows", spec := "newsGrows", unfollowed := true, recurses := true, apart := false }
def NewsGrowsSaid : Prop := newsGrowsRow.holds Try.pinned (OpenSpec.ofChange newsGrowsSpec)

/-- ITS FALSE NEIGHBOUR: 'it returns false'. Refute it at one input. -/
def newsGrowsWrong : ChangeSpec := { name := "newsGrows", fn := fun _ => fun
  | [d1, d2, d3] => { results := [.lit (.bool false)], args := [d1, d2, d3] }
  | _ => none }
def NewsGrowsWrongFalsely : Prop := newsGrowsRow.holds Try.pinned (OpenSpec.ofChange newsGrowsWrong)

/-- 'teamsterkeep.NewsBack': WHATEVER THE INPUT: true; the input reads as it did. -/
def newsBackSpec : ChangeSpec := { name := "newsBack", fn := fun _ => fun
  | [d1, d2] => { results := [.lit (.bool true)], args := [d1, d2] }
  | _ => none }
def newsBackRow : OpenClaim := { program := "ytmcijljadcfpmaa", sum := "0dc001ce7a64257b5bffac92698f4f6c76af14b0d3bb970eaf92177402963b08", func := "teamster/teamsterkeep.NewsBack", spec := "newsBack", unfollowed := true, recurses := true, apart := false }
def NewsBackSaid : Prop := newsBackRow.holds Try.pinned (OpenSpec.ofChange newsBackSpec)

/-- ITS FALSE NEIGHBOUR: 'it returns false'. Refute it at one input. -/
def newsBackWrong : ChangeSpec := { name := "newsBack", fn := fun _ => fun
  | [d1, d2] => { results := [.lit (.bool false)], args := [d1, d2] }
  | _ => none }
def NewsBackWrongFalsely : Prop := newsBackRow.holds Try.pinned (OpenSpec.ofChange newsBackWrong)

/-- 'teamsterkeep.NewsFew': WHATEVER THE INPUT: true; the input reads as it did. -/
def newsFewSpec : ChangeSpec := { name := "newsFew", fn := fun _ => fun
  | [d1, d2] => { results := [.lit (.bool true)], args := [d1, d2] }
  | _ => none }
def newsFewRow : OpenClaim := { program := "ytmcijljadcfpmaa", sum := "0dc001ce7a64257b5bffac92698f4f6c76af14b0d3bb970eaf92177402963b08", func := "teamster/teamsterkeep.NewsFew", spec := "newsFew", unfollowed := true, recurses := true, apart := false }
def NewsFewSaid : Prop := newsFewRow.holds Try.pinned (OpenSpec.ofChange newsFewSpec)

/-- ITS FALSE NEIGHBOUR: 'it returns false'. Refute it at one input. -/
def newsFewWrong : ChangeSpec := { name := "newsFew", fn := fun _ => fun
  | [d1, d2] => { results := [.lit (.bool false)], args := [d1, d2] }
  | _ => none }
def NewsFewWrongFalsely : Prop := newsFewRow.holds Try.pinned (OpenSpec.ofChange newsFewWrong)

/- THE SECOND FORM. 'bulk': how many values and letters a reading holds, each counted each time it is reached (what is shared counts as often as it is met; a slice's spare places count too). A statement '..UptoSaid' is the law's where the arguments, and the package variables that the reading takes, are together of bulk at most 1048576: NARROWER than '..Said'. Prove '..Said' where nothing that the law and all that it calls make is longer than what came in: it says more and counts as full. Else prove '..UptoSaid'. A law counts once. -/
mutual
def uptoBulk {H : Type} : DataW H → Nat
  | .lit (.string bytes) => bytes.length + 1
  | .lit _ => 1
  | .nil => 1
  | .ptr d => uptoBulk d + 1
  | .slice elems spare => uptoBulkAll elems + uptoBulkAll spare + 1
  | .agg parts => uptoBulkAll parts + 1
  | .iface _ d => uptoBulk d + 1
  | .map entries => uptoBulkEntries entries + 1
  | .held _ => 1
def uptoBulkAll {H : Type} : List (DataW H) → Nat
  | [] => 0
  | d :: r => uptoBulk d + uptoBulkAll r
def uptoBulkEntries {H : Type} : List (Lit × DataW H) → Nat
  | [] => 0
  | x :: r => uptoBulkEntry x + uptoBulkEntries r
def uptoBulkEntry {H : Type} : Lit × DataW H → Nat
  | (.string bytes, d) => bytes.length + uptoBulk d + 1
  | (_, d) => uptoBulk d + 1
 end
def uptoSmall : (H : Type) → List (DataW H) → Bool := fun _ ds => decide (uptoBulkAll ds ≤ 1048576)
def OpenSpec.upto (s : _root_.Go.ChangeSpec) : _root_.Go.OpenSpec := { _root_.Go.OpenSpec.ofChange s with cond := some uptoSmall }

/-- 'teamsterkeep.NewsGrows', WHERE WHAT IT READS IS OF BULK AT MOST 1048576: true; the input reads as it did. -/
def newsGrowsUptoRow : OpenClaim := { program := "ytmcijljadcfpmaa", sum := "0dc001ce7a64257b5bffac92698f4f6c76af14b0d3bb970eaf92177402963b08", func := "teamster/teamsterkeep.NewsGrows", spec := "newsGrows", unfollowed := true, recurses := true, apart := false, narrowed := true }
def NewsGrowsUptoSaid : Prop := newsGrowsUptoRow.holds Try.pinned (OpenSpec.upto newsGrowsSpec)

/-- 'teamsterkeep.NewsBack', WHERE WHAT IT READS IS OF BULK AT MOST 1048576: true; the input reads as it did. -/
def newsBackUptoRow : OpenClaim := { program := "ytmcijljadcfpmaa", sum := "0dc001ce7a64257b5bffac92698f4f6c76af14b0d3bb970eaf92177402963b08", func := "teamster/teamsterkeep.NewsBack", spec := "newsBack", unfollowed := true, recurses := true, apart := false, narrowed := true }
def NewsBackUptoSaid : Prop := newsBackUptoRow.holds Try.pinned (OpenSpec.upto newsBackSpec)

/-- 'teamsterkeep.NewsFew', WHERE WHAT IT READS IS OF BULK AT MOST 1048576: true; the input reads as it did. -/
def newsFewUptoRow : OpenClaim := { program := "ytmcijljadcfpmaa", sum := "0dc001ce7a64257b5bffac92698f4f6c76af14b0d3bb970eaf92177402963b08", func := "teamster/teamsterkeep.NewsFew", spec := "newsFew", unfollowed := true, recurses := true, apart := false, narrowed := true }
def NewsFewUptoSaid : Prop := newsFewUptoRow.holds Try.pinned (OpenSpec.upto newsFewSpec)

end Rows
end Go.Proofs.Ytmcijljadcfpmaa
