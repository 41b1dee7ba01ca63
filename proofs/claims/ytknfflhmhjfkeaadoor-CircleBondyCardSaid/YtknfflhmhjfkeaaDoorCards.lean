/-
  DERIVED. GIVEN WITH THE SEED: THE CARDS: each row of YtknfflhmhjfkeaaDoorRows.lean that lists a variable, with what it lists TIED to the program's text (the seventh form; the later family's looks); each row that meets fmt, with fmt's text TOLD by the authors' own Lean function (tested against real Go, not proved from fmt's source: count such statements apart). THE CARD IS WHAT COUNTS. Prove the row's statement (the work); the ties are given (YtknfflhmhjfkeaaDoorTie.lean); close each card by the builder's one call (the guide's Derived/Test/ToyasCard.lean, 'card_holds'). Laid BY PROGRAM, IN A SANDBOX (cutbox-door.mjs). By AI agents, Wed Nov 11 2026. No macro, syntax, notation, axiom, sorry.
-/
import Derived.Test.YtknfflhmhjfkeaaDoorRows
import GoSem.ClaimSeven
namespace Go.Proofs.YtknfflhmhjfkeaaDoor
namespace Rows

/-- THE TIED CARD OF 'teamsterkeep.CircleDirac'. -/
def circleDiracCard : Claim7 := { stood := { row := circleDiracRow, standIns := [], harness := (true, "d229eb0a6f31fa8bb8871465412cc7e41bee7d3f662aaede71fa0bfbe88db1b2"), looks := false }, kinds := [], alts := [], laidByText := true, laidKinds := [.data], laidTests := true, laidLooks := .later }
def CircleDiracCardSaid : Prop := Claim7.holds Tryd.pinned (.plain (OpenSpec.ofChange circleDiracSpec)) circleDiracCard

/-- THE TIED CARD OF 'teamsterkeep.CircleBondy'. -/
def circleBondyCard : Claim7 := { stood := { row := circleBondyRow, standIns := [], harness := (true, "d229eb0a6f31fa8bb8871465412cc7e41bee7d3f662aaede71fa0bfbe88db1b2"), looks := false }, kinds := [], alts := [], laidByText := true, laidKinds := [.data], laidTests := true, laidLooks := .later }
def CircleBondyCardSaid : Prop := Claim7.holds Tryd.pinned (.plain (OpenSpec.ofChange circleBondySpec)) circleBondyCard

/-- THE SECOND FORM's CARD OF 'teamsterkeep.CircleDirac'. -/
def circleDiracUptoCard : Claim7 := { stood := { row := circleDiracUptoRow, standIns := [], harness := (true, "d229eb0a6f31fa8bb8871465412cc7e41bee7d3f662aaede71fa0bfbe88db1b2"), looks := false }, kinds := [], alts := [], laidByText := true, laidKinds := [.data], laidTests := true, laidLooks := .later }
def CircleDiracUptoCardSaid : Prop := Claim7.holds Tryd.pinned (.plain (OpenSpec.upto circleDiracSpec)) circleDiracUptoCard

/-- THE SECOND FORM's CARD OF 'teamsterkeep.CircleBondy'. -/
def circleBondyUptoCard : Claim7 := { stood := { row := circleBondyUptoRow, standIns := [], harness := (true, "d229eb0a6f31fa8bb8871465412cc7e41bee7d3f662aaede71fa0bfbe88db1b2"), looks := false }, kinds := [], alts := [], laidByText := true, laidKinds := [.data], laidTests := true, laidLooks := .later }
def CircleBondyUptoCardSaid : Prop := Claim7.holds Tryd.pinned (.plain (OpenSpec.upto circleBondySpec)) circleBondyUptoCard
end Rows
end Go.Proofs.YtknfflhmhjfkeaaDoor
