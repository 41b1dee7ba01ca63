/-
  DERIVED. GIVEN WITH THE SEED: THE CARDS: each row of YtomncmhjpmocaaaDoorRows.lean that lists a variable, with what it lists TIED to the program's text (the seventh form; the later family's looks); each row that meets fmt, with fmt's text TOLD by the authors' own Lean function (tested against real Go, not proved from fmt's source: count such statements apart). THE CARD IS WHAT COUNTS. Prove the row's statement (the work); the ties are given (YtomncmhjpmocaaaDoorTie.lean); close each card by the builder's one call (the guide's Derived/Test/ToyasCard.lean, 'card_holds'). Laid BY PROGRAM, IN A SANDBOX (cutbox-door.mjs). By AI agents, Wed Nov 11 2026. No macro, syntax, notation, axiom, sorry.
-/
import Derived.Test.YtomncmhjpmocaaaDoorRows
import GoSem.ClaimSeven
namespace Go.Proofs.YtomncmhjpmocaaaDoor
namespace Rows

/-- THE TIED CARD OF 'teamsterkeep.LotsSwap'. -/
def lotsSwapCard : Claim7 := { stood := { row := lotsSwapRow, standIns := [], harness := (true, "14e6e60f47ece702f20fdf48b69666a26dd1e1ccdb28dba9d79e17b0b983acca"), looks := false }, kinds := [], alts := [], laidByText := true, laidKinds := [.data], laidTests := true, laidLooks := .later }
def LotsSwapCardSaid : Prop := Claim7.holds Tryd.pinned (.plain (OpenSpec.ofChange lotsSwapSpec)) lotsSwapCard

/-- THE TIED CARD OF 'teamsterkeep.LotsSub'. -/
def lotsSubCard : Claim7 := { stood := { row := lotsSubRow, standIns := [], harness := (true, "14e6e60f47ece702f20fdf48b69666a26dd1e1ccdb28dba9d79e17b0b983acca"), looks := false }, kinds := [], alts := [], laidByText := true, laidKinds := [.data], laidTests := true, laidLooks := .later }
def LotsSubCardSaid : Prop := Claim7.holds Tryd.pinned (.plain (OpenSpec.ofChange lotsSubSpec)) lotsSubCard

/-- THE SECOND FORM's CARD OF 'teamsterkeep.LotsSwap'. -/
def lotsSwapUptoCard : Claim7 := { stood := { row := lotsSwapUptoRow, standIns := [], harness := (true, "14e6e60f47ece702f20fdf48b69666a26dd1e1ccdb28dba9d79e17b0b983acca"), looks := false }, kinds := [], alts := [], laidByText := true, laidKinds := [.data], laidTests := true, laidLooks := .later }
def LotsSwapUptoCardSaid : Prop := Claim7.holds Tryd.pinned (.plain (OpenSpec.upto lotsSwapSpec)) lotsSwapUptoCard

/-- THE SECOND FORM's CARD OF 'teamsterkeep.LotsSub'. -/
def lotsSubUptoCard : Claim7 := { stood := { row := lotsSubUptoRow, standIns := [], harness := (true, "14e6e60f47ece702f20fdf48b69666a26dd1e1ccdb28dba9d79e17b0b983acca"), looks := false }, kinds := [], alts := [], laidByText := true, laidKinds := [.data], laidTests := true, laidLooks := .later }
def LotsSubUptoCardSaid : Prop := Claim7.holds Tryd.pinned (.plain (OpenSpec.upto lotsSubSpec)) lotsSubUptoCard
end Rows
end Go.Proofs.YtomncmhjpmocaaaDoor
