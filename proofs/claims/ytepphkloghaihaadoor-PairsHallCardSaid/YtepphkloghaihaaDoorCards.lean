/-
  DERIVED. GIVEN WITH THE SEED: THE CARDS: each row of YtepphkloghaihaaDoorRows.lean that lists a variable, with what it lists TIED to the program's text (the seventh form; the later family's looks); each row that meets fmt, with fmt's text TOLD by the authors' own Lean function (tested against real Go, not proved from fmt's source: count such statements apart). THE CARD IS WHAT COUNTS. Prove the row's statement (the work); the ties are given (YtepphkloghaihaaDoorTie.lean); close each card by the builder's one call (the guide's Derived/Test/ToyasCard.lean, 'card_holds'). Laid BY PROGRAM, IN A SANDBOX (cutbox-door.mjs). By AI agents, Wed Nov 11 2026. No macro, syntax, notation, axiom, sorry.
-/
import Derived.Test.YtepphkloghaihaaDoorRows
import GoSem.ClaimSeven
namespace Go.Proofs.YtepphkloghaihaaDoor
namespace Rows

/-- THE TIED CARD OF 'teamsterkeep.PairsBest'. -/
def pairsBestCard : Claim7 := { stood := { row := pairsBestRow, standIns := [], harness := (true, "cf803e2399b57fa146e241090964536a2a9a410cf8b864cfc65c4de04b17e7f0"), looks := false }, kinds := [], alts := [], laidByText := true, laidKinds := [.data], laidTests := true, laidLooks := .later }
def PairsBestCardSaid : Prop := Claim7.holds Tryd.pinned (.plain (OpenSpec.ofChange pairsBestSpec)) pairsBestCard

/-- THE TIED CARD OF 'teamsterkeep.PairsHall'. -/
def pairsHallCard : Claim7 := { stood := { row := pairsHallRow, standIns := [], harness := (true, "cf803e2399b57fa146e241090964536a2a9a410cf8b864cfc65c4de04b17e7f0"), looks := false }, kinds := [], alts := [], laidByText := true, laidKinds := [.data], laidTests := true, laidLooks := .later }
def PairsHallCardSaid : Prop := Claim7.holds Tryd.pinned (.plain (OpenSpec.ofChange pairsHallSpec)) pairsHallCard

/-- THE TIED CARD OF 'teamsterkeep.PairsKonig'. -/
def pairsKonigCard : Claim7 := { stood := { row := pairsKonigRow, standIns := [], harness := (true, "cf803e2399b57fa146e241090964536a2a9a410cf8b864cfc65c4de04b17e7f0"), looks := false }, kinds := [], alts := [], laidByText := true, laidKinds := [.data], laidTests := true, laidLooks := .later }
def PairsKonigCardSaid : Prop := Claim7.holds Tryd.pinned (.plain (OpenSpec.ofChange pairsKonigSpec)) pairsKonigCard

/-- THE SECOND FORM's CARD OF 'teamsterkeep.PairsBest'. -/
def pairsBestUptoCard : Claim7 := { stood := { row := pairsBestUptoRow, standIns := [], harness := (true, "cf803e2399b57fa146e241090964536a2a9a410cf8b864cfc65c4de04b17e7f0"), looks := false }, kinds := [], alts := [], laidByText := true, laidKinds := [.data], laidTests := true, laidLooks := .later }
def PairsBestUptoCardSaid : Prop := Claim7.holds Tryd.pinned (.plain (OpenSpec.upto pairsBestSpec)) pairsBestUptoCard

/-- THE SECOND FORM's CARD OF 'teamsterkeep.PairsHall'. -/
def pairsHallUptoCard : Claim7 := { stood := { row := pairsHallUptoRow, standIns := [], harness := (true, "cf803e2399b57fa146e241090964536a2a9a410cf8b864cfc65c4de04b17e7f0"), looks := false }, kinds := [], alts := [], laidByText := true, laidKinds := [.data], laidTests := true, laidLooks := .later }
def PairsHallUptoCardSaid : Prop := Claim7.holds Tryd.pinned (.plain (OpenSpec.upto pairsHallSpec)) pairsHallUptoCard

/-- THE SECOND FORM's CARD OF 'teamsterkeep.PairsKonig'. -/
def pairsKonigUptoCard : Claim7 := { stood := { row := pairsKonigUptoRow, standIns := [], harness := (true, "cf803e2399b57fa146e241090964536a2a9a410cf8b864cfc65c4de04b17e7f0"), looks := false }, kinds := [], alts := [], laidByText := true, laidKinds := [.data], laidTests := true, laidLooks := .later }
def PairsKonigUptoCardSaid : Prop := Claim7.holds Tryd.pinned (.plain (OpenSpec.upto pairsKonigSpec)) pairsKonigUptoCard
end Rows
end Go.Proofs.YtepphkloghaihaaDoor
