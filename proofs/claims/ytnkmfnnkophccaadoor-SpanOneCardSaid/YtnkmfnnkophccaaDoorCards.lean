/-
  DERIVED. GIVEN WITH THE SEED: THE CARDS: each row of YtnkmfnnkophccaaDoorRows.lean that lists a variable, with what it lists TIED to the program's text (the seventh form; the later family's looks); each row that meets fmt, with fmt's text TOLD by the authors' own Lean function (tested against real Go, not proved from fmt's source: count such statements apart). THE CARD IS WHAT COUNTS. Prove the row's statement (the work); the ties are given (YtnkmfnnkophccaaDoorTie.lean); close each card by the builder's one call (the guide's Derived/Test/ToyasCard.lean, 'card_holds'). Laid BY PROGRAM, IN A SANDBOX (cutbox-door.mjs). By AI agents, Wed Nov 11 2026. No macro, syntax, notation, axiom, sorry.
-/
import Derived.Test.YtnkmfnnkophccaaDoorRows
import GoSem.ClaimSeven
namespace Go.Proofs.YtnkmfnnkophccaaDoor
namespace Rows

/-- THE TIED CARD OF 'teamsterkeep.SpanCayley'. -/
def spanCayleyCard : Claim7 := { stood := { row := spanCayleyRow, standIns := [], harness := (true, "1c886cbb4d9d2ad724ffa6c6efbae6a3ea3ab4c1f6ece2a5330b97514c68d9ce"), looks := false }, kinds := [], alts := [], laidByText := true, laidKinds := [.data], laidTests := true, laidLooks := .later }
def SpanCayleyCardSaid : Prop := Claim7.holds Tryd.pinned (.plain (OpenSpec.ofChange spanCayleySpec)) spanCayleyCard

/-- THE TIED CARD OF 'teamsterkeep.SpanOne'. -/
def spanOneCard : Claim7 := { stood := { row := spanOneRow, standIns := [], harness := (true, "1c886cbb4d9d2ad724ffa6c6efbae6a3ea3ab4c1f6ece2a5330b97514c68d9ce"), looks := false }, kinds := [], alts := [], laidByText := true, laidKinds := [.data], laidTests := true, laidLooks := .later }
def SpanOneCardSaid : Prop := Claim7.holds Tryd.pinned (.plain (OpenSpec.ofChange spanOneSpec)) spanOneCard

/-- THE SECOND FORM's CARD OF 'teamsterkeep.SpanCayley'. -/
def spanCayleyUptoCard : Claim7 := { stood := { row := spanCayleyUptoRow, standIns := [], harness := (true, "1c886cbb4d9d2ad724ffa6c6efbae6a3ea3ab4c1f6ece2a5330b97514c68d9ce"), looks := false }, kinds := [], alts := [], laidByText := true, laidKinds := [.data], laidTests := true, laidLooks := .later }
def SpanCayleyUptoCardSaid : Prop := Claim7.holds Tryd.pinned (.plain (OpenSpec.upto spanCayleySpec)) spanCayleyUptoCard

/-- THE SECOND FORM's CARD OF 'teamsterkeep.SpanOne'. -/
def spanOneUptoCard : Claim7 := { stood := { row := spanOneUptoRow, standIns := [], harness := (true, "1c886cbb4d9d2ad724ffa6c6efbae6a3ea3ab4c1f6ece2a5330b97514c68d9ce"), looks := false }, kinds := [], alts := [], laidByText := true, laidKinds := [.data], laidTests := true, laidLooks := .later }
def SpanOneUptoCardSaid : Prop := Claim7.holds Tryd.pinned (.plain (OpenSpec.upto spanOneSpec)) spanOneUptoCard
end Rows
end Go.Proofs.YtnkmfnnkophccaaDoor
