/-
  DERIVED. GIVEN WITH THE SEED: THE CARDS: each row of YteadceghjfaekaaDoorRows.lean that lists a variable, with what it lists TIED to the program's text (the seventh form; the later family's looks); each row that meets fmt, with fmt's text TOLD by the authors' own Lean function (tested against real Go, not proved from fmt's source: count such statements apart). THE CARD IS WHAT COUNTS. Prove the row's statement (the work); the ties are given (YteadceghjfaekaaDoorTie.lean); close each card by the builder's one call (the guide's Derived/Test/ToyasCard.lean, 'card_holds'). Laid BY PROGRAM, IN A SANDBOX (cutbox-door.mjs). By AI agents, Wed Nov 11 2026. No macro, syntax, notation, axiom, sorry.
-/
import Derived.Test.YteadceghjfaekaaDoorRows
import GoSem.ClaimSeven
namespace Go.Proofs.YteadceghjfaekaaDoor
namespace Rows

/-- THE TIED CARD OF 'teamsterkeep.LanesFew'. -/
def lanesFewCard : Claim7 := { stood := { row := lanesFewRow, standIns := [], harness := (true, "fb729d542d8f95c9efa2cca8110e818002b15feb58663f8df729e446a1db64bc"), looks := false }, kinds := [], alts := [], laidByText := true, laidKinds := [.data], laidTests := true, laidLooks := .later }
def LanesFewCardSaid : Prop := Claim7.holds Tryd.pinned (.plain (OpenSpec.ofChange lanesFewSpec)) lanesFewCard

/-- THE SECOND FORM's CARD OF 'teamsterkeep.LanesFew'. -/
def lanesFewUptoCard : Claim7 := { stood := { row := lanesFewUptoRow, standIns := [], harness := (true, "fb729d542d8f95c9efa2cca8110e818002b15feb58663f8df729e446a1db64bc"), looks := false }, kinds := [], alts := [], laidByText := true, laidKinds := [.data], laidTests := true, laidLooks := .later }
def LanesFewUptoCardSaid : Prop := Claim7.holds Tryd.pinned (.plain (OpenSpec.upto lanesFewSpec)) lanesFewUptoCard
end Rows
end Go.Proofs.YteadceghjfaekaaDoor
