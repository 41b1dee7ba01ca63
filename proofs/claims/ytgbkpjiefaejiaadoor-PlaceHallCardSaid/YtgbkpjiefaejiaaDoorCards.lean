/-
  DERIVED. GIVEN WITH THE SEED: THE CARDS: each row of YtgbkpjiefaejiaaDoorRows.lean that lists a variable, with what it lists TIED to the program's text (the seventh form; the later family's looks); each row that meets fmt, with fmt's text TOLD by the authors' own Lean function (tested against real Go, not proved from fmt's source: count such statements apart). THE CARD IS WHAT COUNTS. Prove the row's statement (the work); the ties are given (YtgbkpjiefaejiaaDoorTie.lean); close each card by the builder's one call (the guide's Derived/Test/ToyasCard.lean, 'card_holds'). Laid BY PROGRAM, IN A SANDBOX (cutbox-door.mjs). By AI agents, Wed Nov 11 2026. No macro, syntax, notation, axiom, sorry.
-/
import Derived.Test.YtgbkpjiefaejiaaDoorRows
import GoSem.ClaimSeven
namespace Go.Proofs.YtgbkpjiefaejiaaDoor
namespace Rows

/-- THE TIED CARD OF 'teamsterkeep.PlaceHall'. -/
def placeHallCard : Claim7 := { stood := { row := placeHallRow, standIns := [], harness := (true, "114cba4d344eb0b04d95399e193be99578da9ec163f1e6124bf86560183273cc"), looks := false }, kinds := [], alts := [], laidByText := true, laidKinds := [.data], laidTests := true, laidLooks := .later }
def PlaceHallCardSaid : Prop := Claim7.holds Tryd.pinned (.plain (OpenSpec.ofChange placeHallSpec)) placeHallCard

/-- THE SECOND FORM's CARD OF 'teamsterkeep.PlaceHall'. -/
def placeHallUptoCard : Claim7 := { stood := { row := placeHallUptoRow, standIns := [], harness := (true, "114cba4d344eb0b04d95399e193be99578da9ec163f1e6124bf86560183273cc"), looks := false }, kinds := [], alts := [], laidByText := true, laidKinds := [.data], laidTests := true, laidLooks := .later }
def PlaceHallUptoCardSaid : Prop := Claim7.holds Tryd.pinned (.plain (OpenSpec.upto placeHallSpec)) placeHallUptoCard
end Rows
end Go.Proofs.YtgbkpjiefaejiaaDoor
