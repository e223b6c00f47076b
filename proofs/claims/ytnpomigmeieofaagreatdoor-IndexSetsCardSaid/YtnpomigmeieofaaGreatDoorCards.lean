/-
  DERIVED. GIVEN WITH THE SEED: THE CARDS: each row of YtnpomigmeieofaaGreatDoorRows.lean that lists a variable, with what it lists TIED to the program's text (the seventh form; the later family's looks); each row that meets fmt, with fmt's text TOLD by the authors' own Lean function (tested against real Go, not proved from fmt's source: count such statements apart). THE CARD IS WHAT COUNTS. Prove the row's statement (the work); the ties are given (YtnpomigmeieofaaGreatDoorTie.lean); close each card by the builder's one call (the guide's Derived/Test/ToyasCard.lean, 'card_holds'). Laid BY PROGRAM, IN A SANDBOX (cutbox-door.mjs). By AI agents, Wed Nov 11 2026. No macro, syntax, notation, axiom, sorry.
-/
import Derived.Test.YtnpomigmeieofaaGreatDoorRows
import GoSem.ClaimSeven
namespace Go.Proofs.YtnpomigmeieofaaGreatDoor
namespace Rows

/-- THE TIED CARD OF 'caissalaw20.IndexTexts'. -/
def indexTextsCard : Claim7 := { stood := { row := indexTextsRow, standIns := [], harness := (true, "3693be62ccb70268aa164561f281e984fe337b1a92e53ef4e47b14ab8b53f904"), looks := false }, kinds := [], alts := [], laidByText := true, laidKinds := [.widerDeep, .widerDeep, .widerDeep, .data], laidTests := true, laidLooks := .later }
def IndexTextsCardSaid : Prop := Claim7.holds Tryz.pinned (.plain (OpenSpec.ofChange indexTextsSpec)) indexTextsCard

/-- THE TIED CARD OF 'caissalaw20.IndexNumbers'. -/
def indexNumbersCard : Claim7 := { stood := { row := indexNumbersRow, standIns := [], harness := (true, "3693be62ccb70268aa164561f281e984fe337b1a92e53ef4e47b14ab8b53f904"), looks := false }, kinds := [], alts := [], laidByText := true, laidKinds := [.widerDeep, .widerDeep, .widerDeep, .data], laidTests := true, laidLooks := .later }
def IndexNumbersCardSaid : Prop := Claim7.holds Tryz.pinned (.plain (OpenSpec.ofChange indexNumbersSpec)) indexNumbersCard

/-- THE TIED CARD OF 'caissalaw20.IndexPositions'. -/
def indexPositionsCard : Claim7 := { stood := { row := indexPositionsRow, standIns := [], harness := (true, "3693be62ccb70268aa164561f281e984fe337b1a92e53ef4e47b14ab8b53f904"), looks := false }, kinds := [], alts := [], laidByText := true, laidKinds := [.widerDeep, .widerDeep, .widerDeep, .data], laidTests := true, laidLooks := .later }
def IndexPositionsCardSaid : Prop := Claim7.holds Tryz.pinned (.plain (OpenSpec.ofChange indexPositionsSpec)) indexPositionsCard

/-- THE TIED CARD OF 'caissalaw20.IndexSets'. -/
def indexSetsCard : Claim7 := { stood := { row := indexSetsRow, standIns := [], harness := (true, "3693be62ccb70268aa164561f281e984fe337b1a92e53ef4e47b14ab8b53f904"), looks := false }, kinds := [], alts := [], laidByText := true, laidKinds := [.widerDeep, .widerDeep, .widerDeep, .data], laidTests := true, laidLooks := .later }
def IndexSetsCardSaid : Prop := Claim7.holds Tryz.pinned (.plain (OpenSpec.ofChange indexSetsSpec)) indexSetsCard

/-- THE SECOND FORM's CARD OF 'caissalaw20.IndexTexts'. -/
def indexTextsUptoCard : Claim7 := { stood := { row := indexTextsUptoRow, standIns := [], harness := (true, "3693be62ccb70268aa164561f281e984fe337b1a92e53ef4e47b14ab8b53f904"), looks := false }, kinds := [], alts := [], laidByText := true, laidKinds := [.widerDeep, .widerDeep, .widerDeep, .data], laidTests := true, laidLooks := .later }
def IndexTextsUptoCardSaid : Prop := Claim7.holds Tryz.pinned (.plain (OpenSpec.upto indexTextsSpec)) indexTextsUptoCard

/-- THE SECOND FORM's CARD OF 'caissalaw20.IndexNumbers'. -/
def indexNumbersUptoCard : Claim7 := { stood := { row := indexNumbersUptoRow, standIns := [], harness := (true, "3693be62ccb70268aa164561f281e984fe337b1a92e53ef4e47b14ab8b53f904"), looks := false }, kinds := [], alts := [], laidByText := true, laidKinds := [.widerDeep, .widerDeep, .widerDeep, .data], laidTests := true, laidLooks := .later }
def IndexNumbersUptoCardSaid : Prop := Claim7.holds Tryz.pinned (.plain (OpenSpec.upto indexNumbersSpec)) indexNumbersUptoCard

/-- THE SECOND FORM's CARD OF 'caissalaw20.IndexPositions'. -/
def indexPositionsUptoCard : Claim7 := { stood := { row := indexPositionsUptoRow, standIns := [], harness := (true, "3693be62ccb70268aa164561f281e984fe337b1a92e53ef4e47b14ab8b53f904"), looks := false }, kinds := [], alts := [], laidByText := true, laidKinds := [.widerDeep, .widerDeep, .widerDeep, .data], laidTests := true, laidLooks := .later }
def IndexPositionsUptoCardSaid : Prop := Claim7.holds Tryz.pinned (.plain (OpenSpec.upto indexPositionsSpec)) indexPositionsUptoCard

/-- THE SECOND FORM's CARD OF 'caissalaw20.IndexSets'. -/
def indexSetsUptoCard : Claim7 := { stood := { row := indexSetsUptoRow, standIns := [], harness := (true, "3693be62ccb70268aa164561f281e984fe337b1a92e53ef4e47b14ab8b53f904"), looks := false }, kinds := [], alts := [], laidByText := true, laidKinds := [.widerDeep, .widerDeep, .widerDeep, .data], laidTests := true, laidLooks := .later }
def IndexSetsUptoCardSaid : Prop := Claim7.holds Tryz.pinned (.plain (OpenSpec.upto indexSetsSpec)) indexSetsUptoCard
end Rows
end Go.Proofs.YtnpomigmeieofaaGreatDoor
