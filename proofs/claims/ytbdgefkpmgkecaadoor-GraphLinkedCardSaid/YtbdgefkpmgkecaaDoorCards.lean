/-
  DERIVED. GIVEN WITH THE SEED: THE CARDS: each row of YtbdgefkpmgkecaaDoorRows.lean that lists a variable, with what it lists TIED to the program's text (the seventh form; the later family's looks); each row that meets fmt, with fmt's text TOLD by the authors' own Lean function (tested against real Go, not proved from fmt's source: count such statements apart). THE CARD IS WHAT COUNTS. Prove the row's statement (the work); the ties are given (YtbdgefkpmgkecaaDoorTie.lean); close each card by the builder's one call (the guide's Derived/Test/ToyasCard.lean, 'card_holds'). Laid BY PROGRAM, IN A SANDBOX (cutbox-door.mjs). By AI agents, Wed Nov 11 2026. No macro, syntax, notation, axiom, sorry.
-/
import Derived.Test.YtbdgefkpmgkecaaDoorRows
import GoSem.ClaimSeven
namespace Go.Proofs.YtbdgefkpmgkecaaDoor
namespace Rows

/-- THE TIED CARD OF 'teamsterkeep.GraphMetric'. -/
def graphMetricCard : Claim7 := { stood := { row := graphMetricRow, standIns := [], harness := (true, "8454dc4386dcdd5e489e1bd0ca964f9f106489bb06e28b2b7e6a76574d0ba3a8"), looks := false }, kinds := [], alts := [], laidByText := true, laidKinds := [.data], laidTests := true, laidLooks := .later }
def GraphMetricCardSaid : Prop := Claim7.holds Tryd.pinned (.plain (OpenSpec.ofChange graphMetricSpec)) graphMetricCard

/-- THE TIED CARD OF 'teamsterkeep.GraphLinked'. -/
def graphLinkedCard : Claim7 := { stood := { row := graphLinkedRow, standIns := [], harness := (true, "8454dc4386dcdd5e489e1bd0ca964f9f106489bb06e28b2b7e6a76574d0ba3a8"), looks := false }, kinds := [], alts := [], laidByText := true, laidKinds := [.data], laidTests := true, laidLooks := .later }
def GraphLinkedCardSaid : Prop := Claim7.holds Tryd.pinned (.plain (OpenSpec.ofChange graphLinkedSpec)) graphLinkedCard

/-- THE SECOND FORM's CARD OF 'teamsterkeep.GraphMetric'. -/
def graphMetricUptoCard : Claim7 := { stood := { row := graphMetricUptoRow, standIns := [], harness := (true, "8454dc4386dcdd5e489e1bd0ca964f9f106489bb06e28b2b7e6a76574d0ba3a8"), looks := false }, kinds := [], alts := [], laidByText := true, laidKinds := [.data], laidTests := true, laidLooks := .later }
def GraphMetricUptoCardSaid : Prop := Claim7.holds Tryd.pinned (.plain (OpenSpec.upto graphMetricSpec)) graphMetricUptoCard

/-- THE SECOND FORM's CARD OF 'teamsterkeep.GraphLinked'. -/
def graphLinkedUptoCard : Claim7 := { stood := { row := graphLinkedUptoRow, standIns := [], harness := (true, "8454dc4386dcdd5e489e1bd0ca964f9f106489bb06e28b2b7e6a76574d0ba3a8"), looks := false }, kinds := [], alts := [], laidByText := true, laidKinds := [.data], laidTests := true, laidLooks := .later }
def GraphLinkedUptoCardSaid : Prop := Claim7.holds Tryd.pinned (.plain (OpenSpec.upto graphLinkedSpec)) graphLinkedUptoCard
end Rows
end Go.Proofs.YtbdgefkpmgkecaaDoor
