/-
  DERIVED. GIVEN WITH THE SEED: THE CARDS: each row of YtnpgnohnpbdblaaDoorRows.lean that lists a variable, with what it lists TIED to the program's text (the seventh form; the later family's looks); each row that meets fmt, with fmt's text TOLD by the authors' own Lean function (tested against real Go, not proved from fmt's source: count such statements apart). THE CARD IS WHAT COUNTS. Prove the row's statement (the work); the ties are given (YtnpgnohnpbdblaaDoorTie.lean); close each card by the builder's one call (the guide's Derived/Test/ToyasCard.lean, 'card_holds'). Laid BY PROGRAM, IN A SANDBOX (cutbox-door.mjs). By AI agents, Wed Nov 11 2026. No macro, syntax, notation, axiom, sorry.
-/
import Derived.Test.YtnpgnohnpbdblaaDoorRows
import GoSem.ClaimSeven
namespace Go.Proofs.YtnpgnohnpbdblaaDoor
namespace Rows

/-- THE TIED CARD OF 'teamsterkeep.ColourStanley'. -/
def colourStanleyCard : Claim7 := { stood := { row := colourStanleyRow, standIns := [], harness := (true, "6fb5ffeb3a22aae7e9cbe041c9f36fbaa06b5f42c5b4191d698aa274828386cb"), looks := false }, kinds := [], alts := [], laidByText := true, laidKinds := [.data], laidTests := true, laidLooks := .later }
def ColourStanleyCardSaid : Prop := Claim7.holds Tryd.pinned (.plain (OpenSpec.ofChange colourStanleySpec)) colourStanleyCard

/-- THE TIED CARD OF 'teamsterkeep.ColourWelsh'. -/
def colourWelshCard : Claim7 := { stood := { row := colourWelshRow, standIns := [], harness := (true, "6fb5ffeb3a22aae7e9cbe041c9f36fbaa06b5f42c5b4191d698aa274828386cb"), looks := false }, kinds := [], alts := [], laidByText := true, laidKinds := [.data], laidTests := true, laidLooks := .later }
def ColourWelshCardSaid : Prop := Claim7.holds Tryd.pinned (.plain (OpenSpec.ofChange colourWelshSpec)) colourWelshCard

/-- THE TIED CARD OF 'teamsterkeep.ColourFew'. -/
def colourFewCard : Claim7 := { stood := { row := colourFewRow, standIns := [], harness := (true, "6fb5ffeb3a22aae7e9cbe041c9f36fbaa06b5f42c5b4191d698aa274828386cb"), looks := false }, kinds := [], alts := [], laidByText := true, laidKinds := [.data], laidTests := true, laidLooks := .later }
def ColourFewCardSaid : Prop := Claim7.holds Tryd.pinned (.plain (OpenSpec.ofChange colourFewSpec)) colourFewCard

/-- THE TIED CARD OF 'teamsterkeep.ColourBrooks'. -/
def colourBrooksCard : Claim7 := { stood := { row := colourBrooksRow, standIns := [], harness := (true, "6fb5ffeb3a22aae7e9cbe041c9f36fbaa06b5f42c5b4191d698aa274828386cb"), looks := false }, kinds := [], alts := [], laidByText := true, laidKinds := [.data], laidTests := true, laidLooks := .later }
def ColourBrooksCardSaid : Prop := Claim7.holds Tryd.pinned (.plain (OpenSpec.ofChange colourBrooksSpec)) colourBrooksCard

/-- THE TIED CARD OF 'teamsterkeep.ColourRoy'. -/
def colourRoyCard : Claim7 := { stood := { row := colourRoyRow, standIns := [], harness := (true, "6fb5ffeb3a22aae7e9cbe041c9f36fbaa06b5f42c5b4191d698aa274828386cb"), looks := false }, kinds := [], alts := [], laidByText := true, laidKinds := [.data], laidTests := true, laidLooks := .later }
def ColourRoyCardSaid : Prop := Claim7.holds Tryd.pinned (.plain (OpenSpec.ofChange colourRoySpec)) colourRoyCard

/-- THE TIED CARD OF 'teamsterkeep.ColourWhitney'. -/
def colourWhitneyCard : Claim7 := { stood := { row := colourWhitneyRow, standIns := [], harness := (true, "6fb5ffeb3a22aae7e9cbe041c9f36fbaa06b5f42c5b4191d698aa274828386cb"), looks := false }, kinds := [], alts := [], laidByText := true, laidKinds := [.data], laidTests := true, laidLooks := .later }
def ColourWhitneyCardSaid : Prop := Claim7.holds Tryd.pinned (.plain (OpenSpec.ofChange colourWhitneySpec)) colourWhitneyCard

/-- THE TIED CARD OF 'teamsterkeep.ColourOrder'. -/
def colourOrderCard : Claim7 := { stood := { row := colourOrderRow, standIns := [], harness := (true, "6fb5ffeb3a22aae7e9cbe041c9f36fbaa06b5f42c5b4191d698aa274828386cb"), looks := false }, kinds := [], alts := [], laidByText := true, laidKinds := [.data], laidTests := true, laidLooks := .later }
def ColourOrderCardSaid : Prop := Claim7.holds Tryd.pinned (.plain (OpenSpec.ofChange colourOrderSpec)) colourOrderCard

/-- THE TIED CARD OF 'teamsterkeep.ColourZero'. -/
def colourZeroCard : Claim7 := { stood := { row := colourZeroRow, standIns := [], harness := (true, "6fb5ffeb3a22aae7e9cbe041c9f36fbaa06b5f42c5b4191d698aa274828386cb"), looks := false }, kinds := [], alts := [], laidByText := true, laidKinds := [.data], laidTests := true, laidLooks := .later }
def ColourZeroCardSaid : Prop := Claim7.holds Tryd.pinned (.plain (OpenSpec.ofChange colourZeroSpec)) colourZeroCard

/-- THE TIED CARD OF 'teamsterkeep.CrowdColours'. -/
def crowdColoursCard : Claim7 := { stood := { row := crowdColoursRow, standIns := [], harness := (true, "6fb5ffeb3a22aae7e9cbe041c9f36fbaa06b5f42c5b4191d698aa274828386cb"), looks := false }, kinds := [], alts := [], laidByText := true, laidKinds := [.data], laidTests := true, laidLooks := .later }
def CrowdColoursCardSaid : Prop := Claim7.holds Tryd.pinned (.plain (OpenSpec.ofChange crowdColoursSpec)) crowdColoursCard

/-- THE TIED CARD OF 'teamsterkeep.ChordPerfect'. -/
def chordPerfectCard : Claim7 := { stood := { row := chordPerfectRow, standIns := [], harness := (true, "6fb5ffeb3a22aae7e9cbe041c9f36fbaa06b5f42c5b4191d698aa274828386cb"), looks := false }, kinds := [], alts := [], laidByText := true, laidKinds := [.data], laidTests := true, laidLooks := .later }
def ChordPerfectCardSaid : Prop := Claim7.holds Tryd.pinned (.plain (OpenSpec.ofChange chordPerfectSpec)) chordPerfectCard

/-- THE SECOND FORM's CARD OF 'teamsterkeep.ColourStanley'. -/
def colourStanleyUptoCard : Claim7 := { stood := { row := colourStanleyUptoRow, standIns := [], harness := (true, "6fb5ffeb3a22aae7e9cbe041c9f36fbaa06b5f42c5b4191d698aa274828386cb"), looks := false }, kinds := [], alts := [], laidByText := true, laidKinds := [.data], laidTests := true, laidLooks := .later }
def ColourStanleyUptoCardSaid : Prop := Claim7.holds Tryd.pinned (.plain (OpenSpec.upto colourStanleySpec)) colourStanleyUptoCard

/-- THE SECOND FORM's CARD OF 'teamsterkeep.ColourWelsh'. -/
def colourWelshUptoCard : Claim7 := { stood := { row := colourWelshUptoRow, standIns := [], harness := (true, "6fb5ffeb3a22aae7e9cbe041c9f36fbaa06b5f42c5b4191d698aa274828386cb"), looks := false }, kinds := [], alts := [], laidByText := true, laidKinds := [.data], laidTests := true, laidLooks := .later }
def ColourWelshUptoCardSaid : Prop := Claim7.holds Tryd.pinned (.plain (OpenSpec.upto colourWelshSpec)) colourWelshUptoCard

/-- THE SECOND FORM's CARD OF 'teamsterkeep.ColourFew'. -/
def colourFewUptoCard : Claim7 := { stood := { row := colourFewUptoRow, standIns := [], harness := (true, "6fb5ffeb3a22aae7e9cbe041c9f36fbaa06b5f42c5b4191d698aa274828386cb"), looks := false }, kinds := [], alts := [], laidByText := true, laidKinds := [.data], laidTests := true, laidLooks := .later }
def ColourFewUptoCardSaid : Prop := Claim7.holds Tryd.pinned (.plain (OpenSpec.upto colourFewSpec)) colourFewUptoCard

/-- THE SECOND FORM's CARD OF 'teamsterkeep.ColourBrooks'. -/
def colourBrooksUptoCard : Claim7 := { stood := { row := colourBrooksUptoRow, standIns := [], harness := (true, "6fb5ffeb3a22aae7e9cbe041c9f36fbaa06b5f42c5b4191d698aa274828386cb"), looks := false }, kinds := [], alts := [], laidByText := true, laidKinds := [.data], laidTests := true, laidLooks := .later }
def ColourBrooksUptoCardSaid : Prop := Claim7.holds Tryd.pinned (.plain (OpenSpec.upto colourBrooksSpec)) colourBrooksUptoCard

/-- THE SECOND FORM's CARD OF 'teamsterkeep.ColourRoy'. -/
def colourRoyUptoCard : Claim7 := { stood := { row := colourRoyUptoRow, standIns := [], harness := (true, "6fb5ffeb3a22aae7e9cbe041c9f36fbaa06b5f42c5b4191d698aa274828386cb"), looks := false }, kinds := [], alts := [], laidByText := true, laidKinds := [.data], laidTests := true, laidLooks := .later }
def ColourRoyUptoCardSaid : Prop := Claim7.holds Tryd.pinned (.plain (OpenSpec.upto colourRoySpec)) colourRoyUptoCard

/-- THE SECOND FORM's CARD OF 'teamsterkeep.ColourWhitney'. -/
def colourWhitneyUptoCard : Claim7 := { stood := { row := colourWhitneyUptoRow, standIns := [], harness := (true, "6fb5ffeb3a22aae7e9cbe041c9f36fbaa06b5f42c5b4191d698aa274828386cb"), looks := false }, kinds := [], alts := [], laidByText := true, laidKinds := [.data], laidTests := true, laidLooks := .later }
def ColourWhitneyUptoCardSaid : Prop := Claim7.holds Tryd.pinned (.plain (OpenSpec.upto colourWhitneySpec)) colourWhitneyUptoCard

/-- THE SECOND FORM's CARD OF 'teamsterkeep.ColourOrder'. -/
def colourOrderUptoCard : Claim7 := { stood := { row := colourOrderUptoRow, standIns := [], harness := (true, "6fb5ffeb3a22aae7e9cbe041c9f36fbaa06b5f42c5b4191d698aa274828386cb"), looks := false }, kinds := [], alts := [], laidByText := true, laidKinds := [.data], laidTests := true, laidLooks := .later }
def ColourOrderUptoCardSaid : Prop := Claim7.holds Tryd.pinned (.plain (OpenSpec.upto colourOrderSpec)) colourOrderUptoCard

/-- THE SECOND FORM's CARD OF 'teamsterkeep.ColourZero'. -/
def colourZeroUptoCard : Claim7 := { stood := { row := colourZeroUptoRow, standIns := [], harness := (true, "6fb5ffeb3a22aae7e9cbe041c9f36fbaa06b5f42c5b4191d698aa274828386cb"), looks := false }, kinds := [], alts := [], laidByText := true, laidKinds := [.data], laidTests := true, laidLooks := .later }
def ColourZeroUptoCardSaid : Prop := Claim7.holds Tryd.pinned (.plain (OpenSpec.upto colourZeroSpec)) colourZeroUptoCard

/-- THE SECOND FORM's CARD OF 'teamsterkeep.CrowdColours'. -/
def crowdColoursUptoCard : Claim7 := { stood := { row := crowdColoursUptoRow, standIns := [], harness := (true, "6fb5ffeb3a22aae7e9cbe041c9f36fbaa06b5f42c5b4191d698aa274828386cb"), looks := false }, kinds := [], alts := [], laidByText := true, laidKinds := [.data], laidTests := true, laidLooks := .later }
def CrowdColoursUptoCardSaid : Prop := Claim7.holds Tryd.pinned (.plain (OpenSpec.upto crowdColoursSpec)) crowdColoursUptoCard

/-- THE SECOND FORM's CARD OF 'teamsterkeep.ChordPerfect'. -/
def chordPerfectUptoCard : Claim7 := { stood := { row := chordPerfectUptoRow, standIns := [], harness := (true, "6fb5ffeb3a22aae7e9cbe041c9f36fbaa06b5f42c5b4191d698aa274828386cb"), looks := false }, kinds := [], alts := [], laidByText := true, laidKinds := [.data], laidTests := true, laidLooks := .later }
def ChordPerfectUptoCardSaid : Prop := Claim7.holds Tryd.pinned (.plain (OpenSpec.upto chordPerfectSpec)) chordPerfectUptoCard
end Rows
end Go.Proofs.YtnpgnohnpbdblaaDoor
