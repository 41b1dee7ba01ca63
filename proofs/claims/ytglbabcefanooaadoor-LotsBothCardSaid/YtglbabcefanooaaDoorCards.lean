/-
  DERIVED. GIVEN WITH THE SEED: THE CARDS: each row of YtglbabcefanooaaDoorRows.lean that lists a variable, with what it lists TIED to the program's text (the seventh form; the later family's looks); each row that meets fmt, with fmt's text TOLD by the authors' own Lean function (tested against real Go, not proved from fmt's source: count such statements apart). THE CARD IS WHAT COUNTS. Prove the row's statement (the work); the ties are given (YtglbabcefanooaaDoorTie.lean); close each card by the builder's one call (the guide's Derived/Test/ToyasCard.lean, 'card_holds'). Laid BY PROGRAM, IN A SANDBOX (cutbox-door.mjs). By AI agents, Wed Nov 11 2026. No macro, syntax, notation, axiom, sorry.
-/
import Derived.Test.YtglbabcefanooaaDoorRows
import GoSem.ClaimSeven
namespace Go.Proofs.YtglbabcefanooaaDoor
namespace Rows

/-- THE TIED CARD OF 'teamsterkeep.LotsBoth'. -/
def lotsBothCard : Claim7 := { stood := { row := lotsBothRow, standIns := [], harness := (true, "2879927dbd859beb5ded046dc0747e5fbe60512491df1416609ab4ddae46d6a5"), looks := false }, kinds := [], alts := [], laidByText := true, laidKinds := [.data], laidTests := true, laidLooks := .later }
def LotsBothCardSaid : Prop := Claim7.holds Tryd.pinned (.plain (OpenSpec.ofChange lotsBothSpec)) lotsBothCard

/-- THE SECOND FORM's CARD OF 'teamsterkeep.LotsBoth'. -/
def lotsBothUptoCard : Claim7 := { stood := { row := lotsBothUptoRow, standIns := [], harness := (true, "2879927dbd859beb5ded046dc0747e5fbe60512491df1416609ab4ddae46d6a5"), looks := false }, kinds := [], alts := [], laidByText := true, laidKinds := [.data], laidTests := true, laidLooks := .later }
def LotsBothUptoCardSaid : Prop := Claim7.holds Tryd.pinned (.plain (OpenSpec.upto lotsBothSpec)) lotsBothUptoCard
end Rows
end Go.Proofs.YtglbabcefanooaaDoor
