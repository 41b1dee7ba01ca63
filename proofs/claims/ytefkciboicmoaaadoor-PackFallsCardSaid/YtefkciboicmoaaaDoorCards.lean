/-
  DERIVED. GIVEN WITH THE SEED: THE CARDS: each row of YtefkciboicmoaaaDoorRows.lean that lists a variable, with what it lists TIED to the program's text (the seventh form; the later family's looks); each row that meets fmt, with fmt's text TOLD by the authors' own Lean function (tested against real Go, not proved from fmt's source: count such statements apart). THE CARD IS WHAT COUNTS. Prove the row's statement (the work); the ties are given (YtefkciboicmoaaaDoorTie.lean); close each card by the builder's one call (the guide's Derived/Test/ToyasCard.lean, 'card_holds'). Laid BY PROGRAM, IN A SANDBOX (cutbox-door.mjs). By AI agents, Wed Nov 11 2026. No macro, syntax, notation, axiom, sorry.
-/
import Derived.Test.YtefkciboicmoaaaDoorRows
import GoSem.ClaimSeven
namespace Go.Proofs.YtefkciboicmoaaaDoor
namespace Rows

/-- THE TIED CARD OF 'teamsterkeep.PackFits'. -/
def packFitsCard : Claim7 := { stood := { row := packFitsRow, standIns := [], harness := (true, "bd482f041b3aef94c2ec02785e2b5938f232c2ac3b2eaf5ad67072c1eaf9c974"), looks := false }, kinds := [], alts := [], laidByText := true, laidKinds := [.data], laidTests := true, laidLooks := .later }
def PackFitsCardSaid : Prop := Claim7.holds Tryd.pinned (.plain (OpenSpec.ofChange packFitsSpec)) packFitsCard

/-- THE TIED CARD OF 'teamsterkeep.PackTwice'. -/
def packTwiceCard : Claim7 := { stood := { row := packTwiceRow, standIns := [], harness := (true, "bd482f041b3aef94c2ec02785e2b5938f232c2ac3b2eaf5ad67072c1eaf9c974"), looks := false }, kinds := [], alts := [], laidByText := true, laidKinds := [.data], laidTests := true, laidLooks := .later }
def PackTwiceCardSaid : Prop := Claim7.holds Tryd.pinned (.plain (OpenSpec.ofChange packTwiceSpec)) packTwiceCard

/-- THE TIED CARD OF 'teamsterkeep.PackFalls'. -/
def packFallsCard : Claim7 := { stood := { row := packFallsRow, standIns := [], harness := (true, "bd482f041b3aef94c2ec02785e2b5938f232c2ac3b2eaf5ad67072c1eaf9c974"), looks := false }, kinds := [], alts := [], laidByText := true, laidKinds := [.data], laidTests := true, laidLooks := .later }
def PackFallsCardSaid : Prop := Claim7.holds Tryd.pinned (.plain (OpenSpec.ofChange packFallsSpec)) packFallsCard

/-- THE SECOND FORM's CARD OF 'teamsterkeep.PackFits'. -/
def packFitsUptoCard : Claim7 := { stood := { row := packFitsUptoRow, standIns := [], harness := (true, "bd482f041b3aef94c2ec02785e2b5938f232c2ac3b2eaf5ad67072c1eaf9c974"), looks := false }, kinds := [], alts := [], laidByText := true, laidKinds := [.data], laidTests := true, laidLooks := .later }
def PackFitsUptoCardSaid : Prop := Claim7.holds Tryd.pinned (.plain (OpenSpec.upto packFitsSpec)) packFitsUptoCard

/-- THE SECOND FORM's CARD OF 'teamsterkeep.PackTwice'. -/
def packTwiceUptoCard : Claim7 := { stood := { row := packTwiceUptoRow, standIns := [], harness := (true, "bd482f041b3aef94c2ec02785e2b5938f232c2ac3b2eaf5ad67072c1eaf9c974"), looks := false }, kinds := [], alts := [], laidByText := true, laidKinds := [.data], laidTests := true, laidLooks := .later }
def PackTwiceUptoCardSaid : Prop := Claim7.holds Tryd.pinned (.plain (OpenSpec.upto packTwiceSpec)) packTwiceUptoCard

/-- THE SECOND FORM's CARD OF 'teamsterkeep.PackFalls'. -/
def packFallsUptoCard : Claim7 := { stood := { row := packFallsUptoRow, standIns := [], harness := (true, "bd482f041b3aef94c2ec02785e2b5938f232c2ac3b2eaf5ad67072c1eaf9c974"), looks := false }, kinds := [], alts := [], laidByText := true, laidKinds := [.data], laidTests := true, laidLooks := .later }
def PackFallsUptoCardSaid : Prop := Claim7.holds Tryd.pinned (.plain (OpenSpec.upto packFallsSpec)) packFallsUptoCard
end Rows
end Go.Proofs.YtefkciboicmoaaaDoor
