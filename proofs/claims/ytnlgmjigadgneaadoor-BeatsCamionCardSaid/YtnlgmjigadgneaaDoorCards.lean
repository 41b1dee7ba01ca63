/-
  DERIVED. GIVEN WITH THE SEED: THE CARDS: each row of YtnlgmjigadgneaaDoorRows.lean that lists a variable, with what it lists TIED to the program's text (the seventh form; the later family's looks); each row that meets fmt, with fmt's text TOLD by the authors' own Lean function (tested against real Go, not proved from fmt's source: count such statements apart). THE CARD IS WHAT COUNTS. Prove the row's statement (the work); the ties are given (YtnlgmjigadgneaaDoorTie.lean); close each card by the builder's one call (the guide's Derived/Test/ToyasCard.lean, 'card_holds'). Laid BY PROGRAM, IN A SANDBOX (cutbox-door.mjs). By AI agents, Wed Nov 11 2026. No macro, syntax, notation, axiom, sorry.
-/
import Derived.Test.YtnlgmjigadgneaaDoorRows
import GoSem.ClaimSeven
namespace Go.Proofs.YtnlgmjigadgneaaDoor
namespace Rows

/-- THE TIED CARD OF 'teamsterkeep.BeatsKing'. -/
def beatsKingCard : Claim7 := { stood := { row := beatsKingRow, standIns := [], harness := (true, "eb395c94a3c8b2180824cfc7fa834b8b6c45afa207b121a98e934faf3c72ed2e"), looks := false }, kinds := [], alts := [], laidByText := true, laidKinds := [.data], laidTests := true, laidLooks := .later }
def BeatsKingCardSaid : Prop := Claim7.holds Tryd.pinned (.plain (OpenSpec.ofChange beatsKingSpec)) beatsKingCard

/-- THE TIED CARD OF 'teamsterkeep.BeatsRedei'. -/
def beatsRedeiCard : Claim7 := { stood := { row := beatsRedeiRow, standIns := [], harness := (true, "eb395c94a3c8b2180824cfc7fa834b8b6c45afa207b121a98e934faf3c72ed2e"), looks := false }, kinds := [], alts := [], laidByText := true, laidKinds := [.data], laidTests := true, laidLooks := .later }
def BeatsRedeiCardSaid : Prop := Claim7.holds Tryd.pinned (.plain (OpenSpec.ofChange beatsRedeiSpec)) beatsRedeiCard

/-- THE TIED CARD OF 'teamsterkeep.BeatsCamion'. -/
def beatsCamionCard : Claim7 := { stood := { row := beatsCamionRow, standIns := [], harness := (true, "eb395c94a3c8b2180824cfc7fa834b8b6c45afa207b121a98e934faf3c72ed2e"), looks := false }, kinds := [], alts := [], laidByText := true, laidKinds := [.data], laidTests := true, laidLooks := .later }
def BeatsCamionCardSaid : Prop := Claim7.holds Tryd.pinned (.plain (OpenSpec.ofChange beatsCamionSpec)) beatsCamionCard

/-- THE SECOND FORM's CARD OF 'teamsterkeep.BeatsKing'. -/
def beatsKingUptoCard : Claim7 := { stood := { row := beatsKingUptoRow, standIns := [], harness := (true, "eb395c94a3c8b2180824cfc7fa834b8b6c45afa207b121a98e934faf3c72ed2e"), looks := false }, kinds := [], alts := [], laidByText := true, laidKinds := [.data], laidTests := true, laidLooks := .later }
def BeatsKingUptoCardSaid : Prop := Claim7.holds Tryd.pinned (.plain (OpenSpec.upto beatsKingSpec)) beatsKingUptoCard

/-- THE SECOND FORM's CARD OF 'teamsterkeep.BeatsRedei'. -/
def beatsRedeiUptoCard : Claim7 := { stood := { row := beatsRedeiUptoRow, standIns := [], harness := (true, "eb395c94a3c8b2180824cfc7fa834b8b6c45afa207b121a98e934faf3c72ed2e"), looks := false }, kinds := [], alts := [], laidByText := true, laidKinds := [.data], laidTests := true, laidLooks := .later }
def BeatsRedeiUptoCardSaid : Prop := Claim7.holds Tryd.pinned (.plain (OpenSpec.upto beatsRedeiSpec)) beatsRedeiUptoCard

/-- THE SECOND FORM's CARD OF 'teamsterkeep.BeatsCamion'. -/
def beatsCamionUptoCard : Claim7 := { stood := { row := beatsCamionUptoRow, standIns := [], harness := (true, "eb395c94a3c8b2180824cfc7fa834b8b6c45afa207b121a98e934faf3c72ed2e"), looks := false }, kinds := [], alts := [], laidByText := true, laidKinds := [.data], laidTests := true, laidLooks := .later }
def BeatsCamionUptoCardSaid : Prop := Claim7.holds Tryd.pinned (.plain (OpenSpec.upto beatsCamionSpec)) beatsCamionUptoCard
end Rows
end Go.Proofs.YtnlgmjigadgneaaDoor
