/-
  DERIVED. GIVEN WITH THE SEED: THE CARDS: each row of YtonalhedjjobeaaDoorRows.lean that lists a variable, with what it lists TIED to the program's text (the seventh form; the later family's looks); each row that meets fmt, with fmt's text TOLD by the authors' own Lean function (tested against real Go, not proved from fmt's source: count such statements apart). THE CARD IS WHAT COUNTS. Prove the row's statement (the work); the ties are given (YtonalhedjjobeaaDoorTie.lean); close each card by the builder's one call (the guide's Derived/Test/ToyasCard.lean, 'card_holds'). Laid BY PROGRAM, IN A SANDBOX (cutbox-door.mjs). By AI agents, Wed Nov 11 2026. No macro, syntax, notation, axiom, sorry.
-/
import Derived.Test.YtonalhedjjobeaaDoorRows
import GoSem.ClaimSeven
namespace Go.Proofs.YtonalhedjjobeaaDoor
namespace Rows

/-- THE TIED CARD OF 'teamsterkeep.MapsEuler'. -/
def mapsEulerCard : Claim7 := { stood := { row := mapsEulerRow, standIns := [], harness := (true, "2ddd931fb9c951c74d64441e4e2e61e2988b40c6d6e06b847e0410e2b929a08f"), looks := false }, kinds := [], alts := [], laidByText := true, laidKinds := [.data], laidTests := true, laidLooks := .later }
def MapsEulerCardSaid : Prop := Claim7.holds Tryd.pinned (.plain (OpenSpec.ofChange mapsEulerSpec)) mapsEulerCard

/-- THE TIED CARD OF 'teamsterkeep.MapsPlane'. -/
def mapsPlaneCard : Claim7 := { stood := { row := mapsPlaneRow, standIns := [], harness := (true, "2ddd931fb9c951c74d64441e4e2e61e2988b40c6d6e06b847e0410e2b929a08f"), looks := false }, kinds := [], alts := [], laidByText := true, laidKinds := [.data], laidTests := true, laidLooks := .later }
def MapsPlaneCardSaid : Prop := Claim7.holds Tryd.pinned (.plain (OpenSpec.ofChange mapsPlaneSpec)) mapsPlaneCard

/-- THE TIED CARD OF 'teamsterkeep.MapsTurned'. -/
def mapsTurnedCard : Claim7 := { stood := { row := mapsTurnedRow, standIns := [], harness := (true, "2ddd931fb9c951c74d64441e4e2e61e2988b40c6d6e06b847e0410e2b929a08f"), looks := false }, kinds := [], alts := [], laidByText := true, laidKinds := [.data], laidTests := true, laidLooks := .later }
def MapsTurnedCardSaid : Prop := Claim7.holds Tryd.pinned (.plain (OpenSpec.ofChange mapsTurnedSpec)) mapsTurnedCard

/-- THE SECOND FORM's CARD OF 'teamsterkeep.MapsEuler'. -/
def mapsEulerUptoCard : Claim7 := { stood := { row := mapsEulerUptoRow, standIns := [], harness := (true, "2ddd931fb9c951c74d64441e4e2e61e2988b40c6d6e06b847e0410e2b929a08f"), looks := false }, kinds := [], alts := [], laidByText := true, laidKinds := [.data], laidTests := true, laidLooks := .later }
def MapsEulerUptoCardSaid : Prop := Claim7.holds Tryd.pinned (.plain (OpenSpec.upto mapsEulerSpec)) mapsEulerUptoCard

/-- THE SECOND FORM's CARD OF 'teamsterkeep.MapsPlane'. -/
def mapsPlaneUptoCard : Claim7 := { stood := { row := mapsPlaneUptoRow, standIns := [], harness := (true, "2ddd931fb9c951c74d64441e4e2e61e2988b40c6d6e06b847e0410e2b929a08f"), looks := false }, kinds := [], alts := [], laidByText := true, laidKinds := [.data], laidTests := true, laidLooks := .later }
def MapsPlaneUptoCardSaid : Prop := Claim7.holds Tryd.pinned (.plain (OpenSpec.upto mapsPlaneSpec)) mapsPlaneUptoCard

/-- THE SECOND FORM's CARD OF 'teamsterkeep.MapsTurned'. -/
def mapsTurnedUptoCard : Claim7 := { stood := { row := mapsTurnedUptoRow, standIns := [], harness := (true, "2ddd931fb9c951c74d64441e4e2e61e2988b40c6d6e06b847e0410e2b929a08f"), looks := false }, kinds := [], alts := [], laidByText := true, laidKinds := [.data], laidTests := true, laidLooks := .later }
def MapsTurnedUptoCardSaid : Prop := Claim7.holds Tryd.pinned (.plain (OpenSpec.upto mapsTurnedSpec)) mapsTurnedUptoCard
end Rows
end Go.Proofs.YtonalhedjjobeaaDoor
