/-
  DERIVED. GIVEN WITH THE SEED: THE CARDS: each row of YtfeihakciioheaaDoorRows.lean that lists a variable, with what it lists TIED to the program's text (the seventh form; the later family's looks); each row that meets fmt, with fmt's text TOLD by the authors' own Lean function (tested against real Go, not proved from fmt's source: count such statements apart). THE CARD IS WHAT COUNTS. Prove the row's statement (the work); the ties are given (YtfeihakciioheaaDoorTie.lean); close each card by the builder's one call (the guide's Derived/Test/ToyasCard.lean, 'card_holds'). Laid BY PROGRAM, IN A SANDBOX (cutbox-door.mjs). By AI agents, Wed Nov 11 2026. No macro, syntax, notation, axiom, sorry.
-/
import Derived.Test.YtfeihakciioheaaDoorRows
import GoSem.ClaimSeven
namespace Go.Proofs.YtfeihakciioheaaDoor
namespace Rows

/-- THE TIED CARD OF 'teamsterkeep.SidesKonig'. -/
def sidesKonigCard : Claim7 := { stood := { row := sidesKonigRow, standIns := [], harness := (true, "6774360c9777324931a621baebb1fa62846e976ddc8cd728967d4efbf46fd549"), looks := false }, kinds := [], alts := [], laidByText := true, laidKinds := [.data], laidTests := true, laidLooks := .later }
def SidesKonigCardSaid : Prop := Claim7.holds Tryd.pinned (.plain (OpenSpec.ofChange sidesKonigSpec)) sidesKonigCard

/-- THE SECOND FORM's CARD OF 'teamsterkeep.SidesKonig'. -/
def sidesKonigUptoCard : Claim7 := { stood := { row := sidesKonigUptoRow, standIns := [], harness := (true, "6774360c9777324931a621baebb1fa62846e976ddc8cd728967d4efbf46fd549"), looks := false }, kinds := [], alts := [], laidByText := true, laidKinds := [.data], laidTests := true, laidLooks := .later }
def SidesKonigUptoCardSaid : Prop := Claim7.holds Tryd.pinned (.plain (OpenSpec.upto sidesKonigSpec)) sidesKonigUptoCard
end Rows
end Go.Proofs.YtfeihakciioheaaDoor
