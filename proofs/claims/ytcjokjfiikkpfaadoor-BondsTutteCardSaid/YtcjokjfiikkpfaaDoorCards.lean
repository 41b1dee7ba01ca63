/-
  DERIVED. GIVEN WITH THE SEED: THE CARDS: each row of YtcjokjfiikkpfaaDoorRows.lean that lists a variable, with what it lists TIED to the program's text (the seventh form; the later family's looks); each row that meets fmt, with fmt's text TOLD by the authors' own Lean function (tested against real Go, not proved from fmt's source: count such statements apart). THE CARD IS WHAT COUNTS. Prove the row's statement (the work); the ties are given (YtcjokjfiikkpfaaDoorTie.lean); close each card by the builder's one call (the guide's Derived/Test/ToyasCard.lean, 'card_holds'). Laid BY PROGRAM, IN A SANDBOX (cutbox-door.mjs). By AI agents, Wed Nov 11 2026. No macro, syntax, notation, axiom, sorry.
-/
import Derived.Test.YtcjokjfiikkpfaaDoorRows
import GoSem.ClaimSeven
namespace Go.Proofs.YtcjokjfiikkpfaaDoor
namespace Rows

/-- THE TIED CARD OF 'teamsterkeep.BondsAny'. -/
def bondsAnyCard : Claim7 := { stood := { row := bondsAnyRow, standIns := [], harness := (true, "d8d11c1c5f912b5f5cb3c99957916f7a6e553a9dc1281f66959d0c94013c30d6"), looks := false }, kinds := [], alts := [], laidByText := true, laidKinds := [.data], laidTests := true, laidLooks := .later }
def BondsAnyCardSaid : Prop := Claim7.holds Tryd.pinned (.plain (OpenSpec.ofChange bondsAnySpec)) bondsAnyCard

/-- THE TIED CARD OF 'teamsterkeep.BondsTutte'. -/
def bondsTutteCard : Claim7 := { stood := { row := bondsTutteRow, standIns := [], harness := (true, "d8d11c1c5f912b5f5cb3c99957916f7a6e553a9dc1281f66959d0c94013c30d6"), looks := false }, kinds := [], alts := [], laidByText := true, laidKinds := [.data], laidTests := true, laidLooks := .later }
def BondsTutteCardSaid : Prop := Claim7.holds Tryd.pinned (.plain (OpenSpec.ofChange bondsTutteSpec)) bondsTutteCard

/-- THE SECOND FORM's CARD OF 'teamsterkeep.BondsAny'. -/
def bondsAnyUptoCard : Claim7 := { stood := { row := bondsAnyUptoRow, standIns := [], harness := (true, "d8d11c1c5f912b5f5cb3c99957916f7a6e553a9dc1281f66959d0c94013c30d6"), looks := false }, kinds := [], alts := [], laidByText := true, laidKinds := [.data], laidTests := true, laidLooks := .later }
def BondsAnyUptoCardSaid : Prop := Claim7.holds Tryd.pinned (.plain (OpenSpec.upto bondsAnySpec)) bondsAnyUptoCard

/-- THE SECOND FORM's CARD OF 'teamsterkeep.BondsTutte'. -/
def bondsTutteUptoCard : Claim7 := { stood := { row := bondsTutteUptoRow, standIns := [], harness := (true, "d8d11c1c5f912b5f5cb3c99957916f7a6e553a9dc1281f66959d0c94013c30d6"), looks := false }, kinds := [], alts := [], laidByText := true, laidKinds := [.data], laidTests := true, laidLooks := .later }
def BondsTutteUptoCardSaid : Prop := Claim7.holds Tryd.pinned (.plain (OpenSpec.upto bondsTutteSpec)) bondsTutteUptoCard
end Rows
end Go.Proofs.YtcjokjfiikkpfaaDoor
