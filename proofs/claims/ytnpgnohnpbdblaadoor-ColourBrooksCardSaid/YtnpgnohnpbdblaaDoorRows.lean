/-
  NARROWER THAN 'FOR EVERY INPUT', by the rows' own cells (each row's printed sentence says how): ColourStanley: laid · ColourWelsh: laid · ColourFew: laid · ColourBrooks: laid · ColourRoy: laid · ColourWhitney: laid · ColourOrder: laid · ColourZero: laid · CrowdColours: laid · ChordPerfect: laid.
  DERIVED. THE GIVEN ROWS OF THIS SEAT. 10 by the template 'for every input the law returns true; each argument reads behind the call as it read before'; 0 by the template 'total and deterministic' (their statements: YtnpgnohnpbdblaaDoorTotals.lean).
  GIVEN WITH THE SEED: the statements are not yours to turn. If you find one false, say at which input.
  Laid BY PROGRAM, IN A SANDBOX (cutbox-rows.mjs): the forced cells as the released guide's own fill.sh prints them over the translation b524695a60fc78d0… (all of the seat's roots in one cut). By AI agents, Wed Nov 11 2026. No macro, syntax, notation, axiom, sorry.
-/
import Derived.Test.YtnpgnohnpbdblaaDoorChecked
import GoSem.Claim
import GoSem.ClaimJoined
import GoSem.ClaimMapViews
import Derived.JoinedTies
import Derived.KernelRfl
namespace Go.Proofs.YtnpgnohnpbdblaaDoor
/- THE CELL 'sum', in the pinned program and in every row, IS THE sha256 OF THE DUMP (.gsa) THAT YtnpgnohnpbdblaaDoorProg.lean LOADS. Nothing in Lean hashes anything: it is a label: what it is worth is what the hold of that sum in a sandbox is worth. -/
noncomputable def Tryd.pinned : Pinned := { name := "ytnpgnohnpbdblaadoor", sum := "b524695a60fc78d0b31dd8ef51e18000b7395e4d80bcc15eb285c0af830e5701", checked := Tryd.checked }
namespace Rows
def none {H : Type} : Left H := { results := [], args := [] }

/- WHAT THE LISTED PACKAGE-LEVEL VARIABLES READ AS WHEN THE CALL BEGINS. Each datum BY PROGRAM (the guide's laid-datum.mjs) off the statement by which the dump's own 'gosem.cut.vars' lays the variable. In a bare row this is a premise. The card (YtnpgnohnpbdblaaDoorCards.lean) ties it to the program's text. -/
def laid_math_bits_deBruijn32tab {H : Type} : DataW H := .agg [.lit (.int .u8 0), .lit (.int .u8 1), .lit (.int .u8 28), .lit (.int .u8 2), .lit (.int .u8 29), .lit (.int .u8 14), .lit (.int .u8 24), .lit (.int .u8 3), .lit (.int .u8 30), .lit (.int .u8 22), .lit (.int .u8 20), .lit (.int .u8 15), .lit (.int .u8 25), .lit (.int .u8 17), .lit (.int .u8 4), .lit (.int .u8 8), .lit (.int .u8 31), .lit (.int .u8 27), .lit (.int .u8 13), .lit (.int .u8 23), .lit (.int .u8 21), .lit (.int .u8 19), .lit (.int .u8 16), .lit (.int .u8 7), .lit (.int .u8 26), .lit (.int .u8 12), .lit (.int .u8 18), .lit (.int .u8 6), .lit (.int .u8 11), .lit (.int .u8 5), .lit (.int .u8 10), .lit (.int .u8 9)]

/-- 'teamsterkeep.ColourStanley': WHATEVER THE INPUT: true; the input reads as it did. -/
def colourStanleySpec : ChangeSpec := { name := "colourStanley", fn := fun _ => fun
  | [d] => { results := [.lit (.bool true)], args := [d] }
  | _ => none }
def colourStanleyRow : OpenClaim := { program := "ytnpgnohnpbdblaadoor", sum := "b524695a60fc78d0b31dd8ef51e18000b7395e4d80bcc15eb285c0af830e5701", func := "teamster/teamsterkeep.ColourStanley", spec := "colourStanley", unfollowed := true, recurses := true, named := ["math/bits.deBruijn32tab"], plainKeys := false, apart := false, laid := [("math/bits.deBruijn32tab", laid_math_bits_deBruijn32tab)] }
def ColourStanleySaid : Prop := colourStanleyRow.holds Tryd.pinned (OpenSpec.ofChange colourStanleySpec)

/-- ITS FALSE NEIGHBOUR: 'it returns false'. Refute it at one input. -/
def colourStanleyWrong : ChangeSpec := { name := "colourStanley", fn := fun _ => fun
  | [d] => { results := [.lit (.bool false)], args := [d] }
  | _ => none }
def ColourStanleyWrongFalsely : Prop := colourStanleyRow.holds Tryd.pinned (OpenSpec.ofChange colourStanleyWrong)

/-- 'teamsterkeep.ColourWelsh': WHATEVER THE INPUT: true; the input reads as it did. -/
def colourWelshSpec : ChangeSpec := { name := "colourWelsh", fn := fun _ => fun
  | [d1, d2] => { results := [.lit (.bool true)], args := [d1, d2] }
  | _ => none }
def colourWelshRow : OpenClaim := { program := "ytnpgnohnpbdblaadoor", sum := "b524695a60fc78d0b31dd8ef51e18000b7395e4d80bcc15eb285c0af830e5701", func := "teamster/teamsterkeep.ColourWelsh", spec := "colourWelsh", unfollowed := true, recurses := true, named := ["math/bits.deBruijn32tab"], plainKeys := false, apart := false, laid := [("math/bits.deBruijn32tab", laid_math_bits_deBruijn32tab)] }
def ColourWelshSaid : Prop := colourWelshRow.holds Tryd.pinned (OpenSpec.ofChange colourWelshSpec)

/-- ITS FALSE NEIGHBOUR: 'it returns false'. Refute it at one input. -/
def colourWelshWrong : ChangeSpec := { name := "colourWelsh", fn := fun _ => fun
  | [d1, d2] => { results := [.lit (.bool false)], args := [d1, d2] }
  | _ => none }
def ColourWelshWrongFalsely : Prop := colourWelshRow.holds Tryd.pinned (OpenSpec.ofChange colourWelshWrong)

/-- 'teamsterkeep.ColourFew': WHATEVER THE INPUT: true; the input reads as it did. -/
def colourFewSpec : ChangeSpec := { name := "colourFew", fn := fun _ => fun
  | [d1, d2] => { results := [.lit (.bool true)], args := [d1, d2] }
  | _ => none }
def colourFewRow : OpenClaim := { program := "ytnpgnohnpbdblaadoor", sum := "b524695a60fc78d0b31dd8ef51e18000b7395e4d80bcc15eb285c0af830e5701", func := "teamster/teamsterkeep.ColourFew", spec := "colourFew", unfollowed := true, recurses := true, named := ["math/bits.deBruijn32tab"], plainKeys := false, apart := false, laid := [("math/bits.deBruijn32tab", laid_math_bits_deBruijn32tab)] }
def ColourFewSaid : Prop := colourFewRow.holds Tryd.pinned (OpenSpec.ofChange colourFewSpec)

/-- ITS FALSE NEIGHBOUR: 'it returns false'. Refute it at one input. -/
def colourFewWrong : ChangeSpec := { name := "colourFew", fn := fun _ => fun
  | [d1, d2] => { results := [.lit (.bool false)], args := [d1, d2] }
  | _ => none }
def ColourFewWrongFalsely : Prop := colourFewRow.holds Tryd.pinned (OpenSpec.ofChange colourFewWrong)

/-- 'teamsterkeep.ColourBrooks': WHATEVER THE INPUT: true; the input reads as it did. -/
def colourBrooksSpec : ChangeSpec := { name := "colourBrooks", fn := fun _ => fun
  | [d] => { results := [.lit (.bool true)], args := [d] }
  | _ => none }
def colourBrooksRow : OpenClaim := { program := "ytnpgnohnpbdblaadoor", sum := "b524695a60fc78d0b31dd8ef51e18000b7395e4d80bcc15eb285c0af830e5701", func := "teamster/teamsterkeep.ColourBrooks", spec := "colourBrooks", unfollowed := true, recurses := true, named := ["math/bits.deBruijn32tab"], plainKeys := false, apart := false, laid := [("math/bits.deBruijn32tab", laid_math_bits_deBruijn32tab)] }
def ColourBrooksSaid : Prop := colourBrooksRow.holds Tryd.pinned (OpenSpec.ofChange colourBrooksSpec)

/-- ITS FALSE NEIGHBOUR: 'it returns false'. Refute it at one input. -/
def colourBrooksWrong : ChangeSpec := { name := "colourBrooks", fn := fun _ => fun
  | [d] => { results := [.lit (.bool false)], args := [d] }
  | _ => none }
def ColourBrooksWrongFalsely : Prop := colourBrooksRow.holds Tryd.pinned (OpenSpec.ofChange colourBrooksWrong)

/-- 'teamsterkeep.ColourRoy': WHATEVER THE INPUT: true; the input reads as it did. -/
def colourRoySpec : ChangeSpec := { name := "colourRoy", fn := fun _ => fun
  | [d1, d2] => { results := [.lit (.bool true)], args := [d1, d2] }
  | _ => none }
def colourRoyRow : OpenClaim := { program := "ytnpgnohnpbdblaadoor", sum := "b524695a60fc78d0b31dd8ef51e18000b7395e4d80bcc15eb285c0af830e5701", func := "teamster/teamsterkeep.ColourRoy", spec := "colourRoy", unfollowed := true, recurses := true, named := ["math/bits.deBruijn32tab"], plainKeys := false, apart := false, laid := [("math/bits.deBruijn32tab", laid_math_bits_deBruijn32tab)] }
def ColourRoySaid : Prop := colourRoyRow.holds Tryd.pinned (OpenSpec.ofChange colourRoySpec)

/-- ITS FALSE NEIGHBOUR: 'it returns false'. Refute it at one input. -/
def colourRoyWrong : ChangeSpec := { name := "colourRoy", fn := fun _ => fun
  | [d1, d2] => { results := [.lit (.bool false)], args := [d1, d2] }
  | _ => none }
def ColourRoyWrongFalsely : Prop := colourRoyRow.holds Tryd.pinned (OpenSpec.ofChange colourRoyWrong)

/-- 'teamsterkeep.ColourWhitney': WHATEVER THE INPUT: true; the input reads as it did. -/
def colourWhitneySpec : ChangeSpec := { name := "colourWhitney", fn := fun _ => fun
  | [d1, d2, d3] => { results := [.lit (.bool true)], args := [d1, d2, d3] }
  | _ => none }
def colourWhitneyRow : OpenClaim := { program := "ytnpgnohnpbdblaadoor", sum := "b524695a60fc78d0b31dd8ef51e18000b7395e4d80bcc15eb285c0af830e5701", func := "teamster/teamsterkeep.ColourWhitney", spec := "colourWhitney", unfollowed := true, recurses := true, named := ["math/bits.deBruijn32tab"], plainKeys := false, apart := false, laid := [("math/bits.deBruijn32tab", laid_math_bits_deBruijn32tab)] }
def ColourWhitneySaid : Prop := colourWhitneyRow.holds Tryd.pinned (OpenSpec.ofChange colourWhitneySpec)

/-- ITS FALSE NEIGHBOUR: 'it returns false'. Refute it at one input. -/
def colourWhitneyWrong : ChangeSpec := { name := "colourWhitney", fn := fun _ => fun
  | [d1, d2, d3] => { results := [.lit (.bool false)], args := [d1, d2, d3] }
  | _ => none }
def ColourWhitneyWrongFalsely : Prop := colourWhitneyRow.holds Tryd.pinned (OpenSpec.ofChange colourWhitneyWrong)

/-- 'teamsterkeep.ColourOrder': WHATEVER THE INPUT: true; the input reads as it did. -/
def colourOrderSpec : ChangeSpec := { name := "colourOrder", fn := fun _ => fun
  | [d] => { results := [.lit (.bool true)], args := [d] }
  | _ => none }
def colourOrderRow : OpenClaim := { program := "ytnpgnohnpbdblaadoor", sum := "b524695a60fc78d0b31dd8ef51e18000b7395e4d80bcc15eb285c0af830e5701", func := "teamster/teamsterkeep.ColourOrder", spec := "colourOrder", unfollowed := true, recurses := true, named := ["math/bits.deBruijn32tab"], plainKeys := false, apart := false, laid := [("math/bits.deBruijn32tab", laid_math_bits_deBruijn32tab)] }
def ColourOrderSaid : Prop := colourOrderRow.holds Tryd.pinned (OpenSpec.ofChange colourOrderSpec)

/-- ITS FALSE NEIGHBOUR: 'it returns false'. Refute it at one input. -/
def colourOrderWrong : ChangeSpec := { name := "colourOrder", fn := fun _ => fun
  | [d] => { results := [.lit (.bool false)], args := [d] }
  | _ => none }
def ColourOrderWrongFalsely : Prop := colourOrderRow.holds Tryd.pinned (OpenSpec.ofChange colourOrderWrong)

/-- 'teamsterkeep.ColourZero': WHATEVER THE INPUT: true; the input reads as it did. -/
def colourZeroSpec : ChangeSpec := { name := "colourZero", fn := fun _ => fun
  | [d1, d2] => { results := [.lit (.bool true)], args := [d1, d2] }
  | _ => none }
def colourZeroRow : OpenClaim := { program := "ytnpgnohnpbdblaadoor", sum := "b524695a60fc78d0b31dd8ef51e18000b7395e4d80bcc15eb285c0af830e5701", func := "teamster/teamsterkeep.ColourZero", spec := "colourZero", unfollowed := true, recurses := true, named := ["math/bits.deBruijn32tab"], plainKeys := false, apart := false, laid := [("math/bits.deBruijn32tab", laid_math_bits_deBruijn32tab)] }
def ColourZeroSaid : Prop := colourZeroRow.holds Tryd.pinned (OpenSpec.ofChange colourZeroSpec)

/-- ITS FALSE NEIGHBOUR: 'it returns false'. Refute it at one input. -/
def colourZeroWrong : ChangeSpec := { name := "colourZero", fn := fun _ => fun
  | [d1, d2] => { results := [.lit (.bool false)], args := [d1, d2] }
  | _ => none }
def ColourZeroWrongFalsely : Prop := colourZeroRow.holds Tryd.pinned (OpenSpec.ofChange colourZeroWrong)

/-- 'teamsterkeep.CrowdColours': WHATEVER THE INPUT: true; the input reads as it did. -/
def crowdColoursSpec : ChangeSpec := { name := "crowdColours", fn := fun _ => fun
  | [d] => { results := [.lit (.bool true)], args := [d] }
  | _ => none }
def crowdColoursRow : OpenClaim := { program := "ytnpgnohnpbdblaadoor", sum := "b524695a60fc78d0b31dd8ef51e18000b7395e4d80bcc15eb285c0af830e5701", func := "teamster/teamsterkeep.CrowdColours", spec := "crowdColours", unfollowed := true, recurses := true, named := ["math/bits.deBruijn32tab"], plainKeys := false, apart := false, laid := [("math/bits.deBruijn32tab", laid_math_bits_deBruijn32tab)] }
def CrowdColoursSaid : Prop := crowdColoursRow.holds Tryd.pinned (OpenSpec.ofChange crowdColoursSpec)

/-- ITS FALSE NEIGHBOUR: 'it returns false'. Refute it at one input. -/
def crowdColoursWrong : ChangeSpec := { name := "crowdColours", fn := fun _ => fun
  | [d] => { results := [.lit (.bool false)], args := [d] }
  | _ => none }
def CrowdColoursWrongFalsely : Prop := crowdColoursRow.holds Tryd.pinned (OpenSpec.ofChange crowdColoursWrong)

/-- 'teamsterkeep.ChordPerfect': WHATEVER THE INPUT: true; the input reads as it did. -/
def chordPerfectSpec : ChangeSpec := { name := "chordPerfect", fn := fun _ => fun
  | [d] => { results := [.lit (.bool true)], args := [d] }
  | _ => none }
def chordPerfectRow : OpenClaim := { program := "ytnpgnohnpbdblaadoor", sum := "b524695a60fc78d0b31dd8ef51e18000b7395e4d80bcc15eb285c0af830e5701", func := "teamster/teamsterkeep.ChordPerfect", spec := "chordPerfect", unfollowed := true, recurses := true, named := ["math/bits.deBruijn32tab"], plainKeys := false, apart := false, laid := [("math/bits.deBruijn32tab", laid_math_bits_deBruijn32tab)] }
def ChordPerfectSaid : Prop := chordPerfectRow.holds Tryd.pinned (OpenSpec.ofChange chordPerfectSpec)

/-- ITS FALSE NEIGHBOUR: 'it returns false'. Refute it at one input. -/
def chordPerfectWrong : ChangeSpec := { name := "chordPerfect", fn := fun _ => fun
  | [d] => { results := [.lit (.bool false)], args := [d] }
  | _ => none }
def ChordPerfectWrongFalsely : Prop := chordPerfectRow.holds Tryd.pinned (OpenSpec.ofChange chordPerfectWrong)

/- THE SECOND FORM. 'bulk': how many values and letters a reading holds, each counted each time it is reached (what is shared counts as often as it is met; a slice's spare places count too). A statement '..UptoSaid' is the law's where the arguments, and the package variables that the reading takes, are together of bulk at most 1048576: NARROWER than '..Said'. Prove '..Said' where nothing that the law and all that it calls make is longer than what came in: it says more and counts as full. Else prove '..UptoSaid'. A law counts once. -/
mutual
def uptoBulk {H : Type} : DataW H → Nat
  | .lit (.string bytes) => bytes.length + 1
  | .lit _ => 1
  | .nil => 1
  | .ptr d => uptoBulk d + 1
  | .slice elems spare => uptoBulkAll elems + uptoBulkAll spare + 1
  | .agg parts => uptoBulkAll parts + 1
  | .iface _ d => uptoBulk d + 1
  | .map entries => uptoBulkEntries entries + 1
  | .held _ => 1
def uptoBulkAll {H : Type} : List (DataW H) → Nat
  | [] => 0
  | d :: r => uptoBulk d + uptoBulkAll r
def uptoBulkEntries {H : Type} : List (Lit × DataW H) → Nat
  | [] => 0
  | x :: r => uptoBulkEntry x + uptoBulkEntries r
def uptoBulkEntry {H : Type} : Lit × DataW H → Nat
  | (.string bytes, d) => bytes.length + uptoBulk d + 1
  | (_, d) => uptoBulk d + 1
 end
def uptoSmall : (H : Type) → List (DataW H) → Bool := fun _ ds => decide (uptoBulkAll ds ≤ 1048576)
def OpenSpec.upto (s : _root_.Go.ChangeSpec) : _root_.Go.OpenSpec := { _root_.Go.OpenSpec.ofChange s with cond := some uptoSmall }

/-- 'teamsterkeep.ColourStanley', WHERE WHAT IT READS IS OF BULK AT MOST 1048576: true; the input reads as it did. -/
def colourStanleyUptoRow : OpenClaim := { program := "ytnpgnohnpbdblaadoor", sum := "b524695a60fc78d0b31dd8ef51e18000b7395e4d80bcc15eb285c0af830e5701", func := "teamster/teamsterkeep.ColourStanley", spec := "colourStanley", unfollowed := true, recurses := true, named := ["math/bits.deBruijn32tab"], plainKeys := false, apart := false, laid := [("math/bits.deBruijn32tab", laid_math_bits_deBruijn32tab)], narrowed := true }
def ColourStanleyUptoSaid : Prop := colourStanleyUptoRow.holds Tryd.pinned (OpenSpec.upto colourStanleySpec)

/-- 'teamsterkeep.ColourWelsh', WHERE WHAT IT READS IS OF BULK AT MOST 1048576: true; the input reads as it did. -/
def colourWelshUptoRow : OpenClaim := { program := "ytnpgnohnpbdblaadoor", sum := "b524695a60fc78d0b31dd8ef51e18000b7395e4d80bcc15eb285c0af830e5701", func := "teamster/teamsterkeep.ColourWelsh", spec := "colourWelsh", unfollowed := true, recurses := true, named := ["math/bits.deBruijn32tab"], plainKeys := false, apart := false, laid := [("math/bits.deBruijn32tab", laid_math_bits_deBruijn32tab)], narrowed := true }
def ColourWelshUptoSaid : Prop := colourWelshUptoRow.holds Tryd.pinned (OpenSpec.upto colourWelshSpec)

/-- 'teamsterkeep.ColourFew', WHERE WHAT IT READS IS OF BULK AT MOST 1048576: true; the input reads as it did. -/
def colourFewUptoRow : OpenClaim := { program := "ytnpgnohnpbdblaadoor", sum := "b524695a60fc78d0b31dd8ef51e18000b7395e4d80bcc15eb285c0af830e5701", func := "teamster/teamsterkeep.ColourFew", spec := "colourFew", unfollowed := true, recurses := true, named := ["math/bits.deBruijn32tab"], plainKeys := false, apart := false, laid := [("math/bits.deBruijn32tab", laid_math_bits_deBruijn32tab)], narrowed := true }
def ColourFewUptoSaid : Prop := colourFewUptoRow.holds Tryd.pinned (OpenSpec.upto colourFewSpec)

/-- 'teamsterkeep.ColourBrooks', WHERE WHAT IT READS IS OF BULK AT MOST 1048576: true; the input reads as it did. -/
def colourBrooksUptoRow : OpenClaim := { program := "ytnpgnohnpbdblaadoor", sum := "b524695a60fc78d0b31dd8ef51e18000b7395e4d80bcc15eb285c0af830e5701", func := "teamster/teamsterkeep.ColourBrooks", spec := "colourBrooks", unfollowed := true, recurses := true, named := ["math/bits.deBruijn32tab"], plainKeys := false, apart := false, laid := [("math/bits.deBruijn32tab", laid_math_bits_deBruijn32tab)], narrowed := true }
def ColourBrooksUptoSaid : Prop := colourBrooksUptoRow.holds Tryd.pinned (OpenSpec.upto colourBrooksSpec)

/-- 'teamsterkeep.ColourRoy', WHERE WHAT IT READS IS OF BULK AT MOST 1048576: true; the input reads as it did. -/
def colourRoyUptoRow : OpenClaim := { program := "ytnpgnohnpbdblaadoor", sum := "b524695a60fc78d0b31dd8ef51e18000b7395e4d80bcc15eb285c0af830e5701", func := "teamster/teamsterkeep.ColourRoy", spec := "colourRoy", unfollowed := true, recurses := true, named := ["math/bits.deBruijn32tab"], plainKeys := false, apart := false, laid := [("math/bits.deBruijn32tab", laid_math_bits_deBruijn32tab)], narrowed := true }
def ColourRoyUptoSaid : Prop := colourRoyUptoRow.holds Tryd.pinned (OpenSpec.upto colourRoySpec)

/-- 'teamsterkeep.ColourWhitney', WHERE WHAT IT READS IS OF BULK AT MOST 1048576: true; the input reads as it did. -/
def colourWhitneyUptoRow : OpenClaim := { program := "ytnpgnohnpbdblaadoor", sum := "b524695a60fc78d0b31dd8ef51e18000b7395e4d80bcc15eb285c0af830e5701", func := "teamster/teamsterkeep.ColourWhitney", spec := "colourWhitney", unfollowed := true, recurses := true, named := ["math/bits.deBruijn32tab"], plainKeys := false, apart := false, laid := [("math/bits.deBruijn32tab", laid_math_bits_deBruijn32tab)], narrowed := true }
def ColourWhitneyUptoSaid : Prop := colourWhitneyUptoRow.holds Tryd.pinned (OpenSpec.upto colourWhitneySpec)

/-- 'teamsterkeep.ColourOrder', WHERE WHAT IT READS IS OF BULK AT MOST 1048576: true; the input reads as it did. -/
def colourOrderUptoRow : OpenClaim := { program := "ytnpgnohnpbdblaadoor", sum := "b524695a60fc78d0b31dd8ef51e18000b7395e4d80bcc15eb285c0af830e5701", func := "teamster/teamsterkeep.ColourOrder", spec := "colourOrder", unfollowed := true, recurses := true, named := ["math/bits.deBruijn32tab"], plainKeys := false, apart := false, laid := [("math/bits.deBruijn32tab", laid_math_bits_deBruijn32tab)], narrowed := true }
def ColourOrderUptoSaid : Prop := colourOrderUptoRow.holds Tryd.pinned (OpenSpec.upto colourOrderSpec)

/-- 'teamsterkeep.ColourZero', WHERE WHAT IT READS IS OF BULK AT MOST 1048576: true; the input reads as it did. -/
def colourZeroUptoRow : OpenClaim := { program := "ytnpgnohnpbdblaadoor", sum := "b524695a60fc78d0b31dd8ef51e18000b7395e4d80bcc15eb285c0af830e5701", func := "teamster/teamsterkeep.ColourZero", spec := "colourZero", unfollowed := true, recurses := true, named := ["math/bits.deBruijn32tab"], plainKeys := false, apart := false, laid := [("math/bits.deBruijn32tab", laid_math_bits_deBruijn32tab)], narrowed := true }
def ColourZeroUptoSaid : Prop := colourZeroUptoRow.holds Tryd.pinned (OpenSpec.upto colourZeroSpec)

/-- 'teamsterkeep.CrowdColours', WHERE WHAT IT READS IS OF BULK AT MOST 1048576: true; the input reads as it did. -/
def crowdColoursUptoRow : OpenClaim := { program := "ytnpgnohnpbdblaadoor", sum := "b524695a60fc78d0b31dd8ef51e18000b7395e4d80bcc15eb285c0af830e5701", func := "teamster/teamsterkeep.CrowdColours", spec := "crowdColours", unfollowed := true, recurses := true, named := ["math/bits.deBruijn32tab"], plainKeys := false, apart := false, laid := [("math/bits.deBruijn32tab", laid_math_bits_deBruijn32tab)], narrowed := true }
def CrowdColoursUptoSaid : Prop := crowdColoursUptoRow.holds Tryd.pinned (OpenSpec.upto crowdColoursSpec)

/-- 'teamsterkeep.ChordPerfect', WHERE WHAT IT READS IS OF BULK AT MOST 1048576: true; the input reads as it did. -/
def chordPerfectUptoRow : OpenClaim := { program := "ytnpgnohnpbdblaadoor", sum := "b524695a60fc78d0b31dd8ef51e18000b7395e4d80bcc15eb285c0af830e5701", func := "teamster/teamsterkeep.ChordPerfect", spec := "chordPerfect", unfollowed := true, recurses := true, named := ["math/bits.deBruijn32tab"], plainKeys := false, apart := false, laid := [("math/bits.deBruijn32tab", laid_math_bits_deBruijn32tab)], narrowed := true }
def ChordPerfectUptoSaid : Prop := chordPerfectUptoRow.holds Tryd.pinned (OpenSpec.upto chordPerfectSpec)

end Rows
end Go.Proofs.YtnpgnohnpbdblaaDoor
