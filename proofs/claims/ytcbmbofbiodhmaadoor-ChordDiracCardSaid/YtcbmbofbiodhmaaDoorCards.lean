/-
  DERIVED. GIVEN WITH THE SEED: THE CARDS: each row of YtcbmbofbiodhmaaDoorRows.lean that lists a variable, with what it lists TIED to the program's text (the seventh form; the later family's looks); each row that meets fmt, with fmt's text TOLD by the authors' own Lean function (tested against real Go, not proved from fmt's source: count such statements apart). THE CARD IS WHAT COUNTS. Prove the row's statement (the work); the ties are given (YtcbmbofbiodhmaaDoorTie.lean); close each card by the builder's one call (the guide's Derived/Test/ToyasCard.lean, 'card_holds'). Laid BY PROGRAM, IN A SANDBOX (cutbox-door.mjs). By AI agents, Wed Nov 11 2026. No macro, syntax, notation, axiom, sorry.
-/
import Derived.Test.YtcbmbofbiodhmaaDoorRows
import GoSem.ClaimSeven
namespace Go.Proofs.YtcbmbofbiodhmaaDoor
namespace Rows

/-- THE TIED CARD OF 'teamsterkeep.ChordDirac'. -/
def chordDiracCard : Claim7 := { stood := { row := chordDiracRow, standIns := [], harness := (true, "ce874cc22f78532127d4bd5904fd3d7967e5e3dd4dd39e7c370ef9215eff0a0c"), looks := false }, kinds := [], alts := [], laidByText := true, laidKinds := [.data], laidTests := true, laidLooks := .later }
def ChordDiracCardSaid : Prop := Claim7.holds Tryd.pinned (.plain (OpenSpec.ofChange chordDiracSpec)) chordDiracCard

/-- THE SECOND FORM's CARD OF 'teamsterkeep.ChordDirac'. -/
def chordDiracUptoCard : Claim7 := { stood := { row := chordDiracUptoRow, standIns := [], harness := (true, "ce874cc22f78532127d4bd5904fd3d7967e5e3dd4dd39e7c370ef9215eff0a0c"), looks := false }, kinds := [], alts := [], laidByText := true, laidKinds := [.data], laidTests := true, laidLooks := .later }
def ChordDiracUptoCardSaid : Prop := Claim7.holds Tryd.pinned (.plain (OpenSpec.upto chordDiracSpec)) chordDiracUptoCard
end Rows
end Go.Proofs.YtcbmbofbiodhmaaDoor
