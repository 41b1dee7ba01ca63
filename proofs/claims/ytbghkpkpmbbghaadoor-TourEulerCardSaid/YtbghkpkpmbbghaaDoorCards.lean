/-
  DERIVED. GIVEN WITH THE SEED: THE CARDS: each row of YtbghkpkpmbbghaaDoorRows.lean that lists a variable, with what it lists TIED to the program's text (the seventh form; the later family's looks); each row that meets fmt, with fmt's text TOLD by the authors' own Lean function (tested against real Go, not proved from fmt's source: count such statements apart). THE CARD IS WHAT COUNTS. Prove the row's statement (the work); the ties are given (YtbghkpkpmbbghaaDoorTie.lean); close each card by the builder's one call (the guide's Derived/Test/ToyasCard.lean, 'card_holds'). Laid BY PROGRAM, IN A SANDBOX (cutbox-door.mjs). By AI agents, Wed Nov 11 2026. No macro, syntax, notation, axiom, sorry.
-/
import Derived.Test.YtbghkpkpmbbghaaDoorRows
import GoSem.ClaimSeven
namespace Go.Proofs.YtbghkpkpmbbghaaDoor
namespace Rows

/-- THE TIED CARD OF 'teamsterkeep.TourEuler'. -/
def tourEulerCard : Claim7 := { stood := { row := tourEulerRow, standIns := [], harness := (true, "a1f2dd704e339f0ba70d270ff9f41351f4eec1d375dfe2929efa4a16cc9878d4"), looks := false }, kinds := [], alts := [], laidByText := true, laidKinds := [.data], laidTests := true, laidLooks := .later }
def TourEulerCardSaid : Prop := Claim7.holds Tryd.pinned (.plain (OpenSpec.ofChange tourEulerSpec)) tourEulerCard

/-- THE SECOND FORM's CARD OF 'teamsterkeep.TourEuler'. -/
def tourEulerUptoCard : Claim7 := { stood := { row := tourEulerUptoRow, standIns := [], harness := (true, "a1f2dd704e339f0ba70d270ff9f41351f4eec1d375dfe2929efa4a16cc9878d4"), looks := false }, kinds := [], alts := [], laidByText := true, laidKinds := [.data], laidTests := true, laidLooks := .later }
def TourEulerUptoCardSaid : Prop := Claim7.holds Tryd.pinned (.plain (OpenSpec.upto tourEulerSpec)) tourEulerUptoCard
end Rows
end Go.Proofs.YtbghkpkpmbbghaaDoor
