/-
  DERIVED. GIVEN WITH THE SEED: THE CARDS: each row of YtdmbbddkbfknlaaDoorRows.lean that lists a variable, with what it lists TIED to the program's text (the seventh form; the later family's looks); each row that meets fmt, with fmt's text TOLD by the authors' own Lean function (tested against real Go, not proved from fmt's source: count such statements apart). THE CARD IS WHAT COUNTS. Prove the row's statement (the work); the ties are given (YtdmbbddkbfknlaaDoorTie.lean); close each card by the builder's one call (the guide's Derived/Test/ToyasCard.lean, 'card_holds'). Laid BY PROGRAM, IN A SANDBOX (cutbox-door.mjs). By AI agents, Wed Nov 11 2026. No macro, syntax, notation, axiom, sorry.
-/
import Derived.Test.YtdmbbddkbfknlaaDoorRows
import GoSem.ClaimSeven
namespace Go.Proofs.YtdmbbddkbfknlaaDoor
namespace Rows

/-- THE TIED CARD OF 'teamsterkeep.SpanPrufer'. -/
def spanPruferCard : Claim7 := { stood := { row := spanPruferRow, standIns := [], harness := (true, "f432bc7eeabd2972151f3a2b4fc337ebded8330aeef3a00317d815b3201e6751"), looks := false }, kinds := [], alts := [], laidByText := true, laidKinds := [.data], laidTests := true, laidLooks := .later }
def SpanPruferCardSaid : Prop := Claim7.holds Tryd.pinned (.plain (OpenSpec.ofChange spanPruferSpec)) spanPruferCard

/-- THE SECOND FORM's CARD OF 'teamsterkeep.SpanPrufer'. -/
def spanPruferUptoCard : Claim7 := { stood := { row := spanPruferUptoRow, standIns := [], harness := (true, "f432bc7eeabd2972151f3a2b4fc337ebded8330aeef3a00317d815b3201e6751"), looks := false }, kinds := [], alts := [], laidByText := true, laidKinds := [.data], laidTests := true, laidLooks := .later }
def SpanPruferUptoCardSaid : Prop := Claim7.holds Tryd.pinned (.plain (OpenSpec.upto spanPruferSpec)) spanPruferUptoCard
end Rows
end Go.Proofs.YtdmbbddkbfknlaaDoor
