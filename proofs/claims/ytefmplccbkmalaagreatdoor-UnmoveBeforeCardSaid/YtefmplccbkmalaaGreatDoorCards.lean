/-
  DERIVED. GIVEN WITH THE SEED: THE CARDS: each row of YtefmplccbkmalaaGreatDoorRows.lean that lists a variable, with what it lists TIED to the program's text (the seventh form; the later family's looks); each row that meets fmt, with fmt's text TOLD by the authors' own Lean function (tested against real Go, not proved from fmt's source: count such statements apart). THE CARD IS WHAT COUNTS. Prove the row's statement (the work); the ties are given (YtefmplccbkmalaaGreatDoorTie.lean); close each card by the builder's one call (the guide's Derived/Test/ToyasCard.lean, 'card_holds'). Laid BY PROGRAM, IN A SANDBOX (cutbox-door.mjs). By AI agents, Wed Nov 11 2026. No macro, syntax, notation, axiom, sorry.
-/
import Derived.Test.YtefmplccbkmalaaGreatDoorRows
import GoSem.ClaimSeven
namespace Go.Proofs.YtefmplccbkmalaaGreatDoor
namespace Rows

/-- THE TIED CARD OF 'caissalaw13.UnmoveMoves'. -/
def unmoveMovesCard : Claim7 := { stood := { row := unmoveMovesRow, standIns := [], harness := (true, "a5d3b325c32bca0c7f9e58ffd96356276e684a09f1e11020bf73b7a4c47845ce"), looks := true }, kinds := [], alts := [], laidByText := true, laidKinds := [.data, .widerDeep, .widerDeep, .widerDeep, .data, .data, .data, .data], laidTests := true, laidLooks := .later }
def UnmoveMovesCardSaid : Prop := Claim7.holds Tryz.pinned (.plain (OpenSpec.ofChange unmoveMovesSpec)) unmoveMovesCard

/-- THE TIED CARD OF 'caissalaw13.UnmoveCompares'. -/
def unmoveComparesCard : Claim7 := { stood := { row := unmoveComparesRow, standIns := [], harness := (true, "a5d3b325c32bca0c7f9e58ffd96356276e684a09f1e11020bf73b7a4c47845ce"), looks := true }, kinds := [], alts := [], laidByText := true, laidKinds := [.data, .widerDeep, .widerDeep, .widerDeep, .data, .data, .data, .data], laidTests := true, laidLooks := .later }
def UnmoveComparesCardSaid : Prop := Claim7.holds Tryz.pinned (.plain (OpenSpec.ofChange unmoveComparesSpec)) unmoveComparesCard

/-- THE TIED CARD OF 'caissalaw13.UnmoveBefore'. -/
def unmoveBeforeCard : Claim7 := { stood := { row := unmoveBeforeRow, standIns := [], harness := (true, "a5d3b325c32bca0c7f9e58ffd96356276e684a09f1e11020bf73b7a4c47845ce"), looks := true }, kinds := [], alts := [], laidByText := true, laidKinds := [.data, .widerDeep, .widerDeep, .widerDeep, .data, .data, .data, .data], laidTests := true, laidLooks := .later }
def UnmoveBeforeCardSaid : Prop := Claim7.holds Tryz.pinned (.plain (OpenSpec.ofChange unmoveBeforeSpec)) unmoveBeforeCard

/-- THE TIED CARD OF 'caissalaw13.UnmoveForwards'. -/
def unmoveForwardsCard : Claim7 := { stood := { row := unmoveForwardsRow, standIns := [], harness := (true, "a5d3b325c32bca0c7f9e58ffd96356276e684a09f1e11020bf73b7a4c47845ce"), looks := true }, kinds := [], alts := [], laidByText := true, laidKinds := [.data, .widerDeep, .widerDeep, .widerDeep, .data, .data, .data, .data], laidTests := true, laidLooks := .later }
def UnmoveForwardsCardSaid : Prop := Claim7.holds Tryz.pinned (.plain (OpenSpec.ofChange unmoveForwardsSpec)) unmoveForwardsCard

/-- THE TIED CARD OF 'caissalaw13.UnmoveHolds'. -/
def unmoveHoldsCard : Claim7 := { stood := { row := unmoveHoldsRow, standIns := [], harness := (true, "a5d3b325c32bca0c7f9e58ffd96356276e684a09f1e11020bf73b7a4c47845ce"), looks := true }, kinds := [], alts := [], laidByText := true, laidKinds := [.data, .widerDeep, .widerDeep, .widerDeep, .data, .data, .data, .data], laidTests := true, laidLooks := .later }
def UnmoveHoldsCardSaid : Prop := Claim7.holds Tryz.pinned (.plain (OpenSpec.ofChange unmoveHoldsSpec)) unmoveHoldsCard

/-- THE SECOND FORM's CARD OF 'caissalaw13.UnmoveMoves'. -/
def unmoveMovesUptoCard : Claim7 := { stood := { row := unmoveMovesUptoRow, standIns := [], harness := (true, "a5d3b325c32bca0c7f9e58ffd96356276e684a09f1e11020bf73b7a4c47845ce"), looks := true }, kinds := [], alts := [], laidByText := true, laidKinds := [.data, .widerDeep, .widerDeep, .widerDeep, .data, .data, .data, .data], laidTests := true, laidLooks := .later }
def UnmoveMovesUptoCardSaid : Prop := Claim7.holds Tryz.pinned (.plain (OpenSpec.upto unmoveMovesSpec)) unmoveMovesUptoCard

/-- THE SECOND FORM's CARD OF 'caissalaw13.UnmoveCompares'. -/
def unmoveComparesUptoCard : Claim7 := { stood := { row := unmoveComparesUptoRow, standIns := [], harness := (true, "a5d3b325c32bca0c7f9e58ffd96356276e684a09f1e11020bf73b7a4c47845ce"), looks := true }, kinds := [], alts := [], laidByText := true, laidKinds := [.data, .widerDeep, .widerDeep, .widerDeep, .data, .data, .data, .data], laidTests := true, laidLooks := .later }
def UnmoveComparesUptoCardSaid : Prop := Claim7.holds Tryz.pinned (.plain (OpenSpec.upto unmoveComparesSpec)) unmoveComparesUptoCard

/-- THE SECOND FORM's CARD OF 'caissalaw13.UnmoveBefore'. -/
def unmoveBeforeUptoCard : Claim7 := { stood := { row := unmoveBeforeUptoRow, standIns := [], harness := (true, "a5d3b325c32bca0c7f9e58ffd96356276e684a09f1e11020bf73b7a4c47845ce"), looks := true }, kinds := [], alts := [], laidByText := true, laidKinds := [.data, .widerDeep, .widerDeep, .widerDeep, .data, .data, .data, .data], laidTests := true, laidLooks := .later }
def UnmoveBeforeUptoCardSaid : Prop := Claim7.holds Tryz.pinned (.plain (OpenSpec.upto unmoveBeforeSpec)) unmoveBeforeUptoCard

/-- THE SECOND FORM's CARD OF 'caissalaw13.UnmoveForwards'. -/
def unmoveForwardsUptoCard : Claim7 := { stood := { row := unmoveForwardsUptoRow, standIns := [], harness := (true, "a5d3b325c32bca0c7f9e58ffd96356276e684a09f1e11020bf73b7a4c47845ce"), looks := true }, kinds := [], alts := [], laidByText := true, laidKinds := [.data, .widerDeep, .widerDeep, .widerDeep, .data, .data, .data, .data], laidTests := true, laidLooks := .later }
def UnmoveForwardsUptoCardSaid : Prop := Claim7.holds Tryz.pinned (.plain (OpenSpec.upto unmoveForwardsSpec)) unmoveForwardsUptoCard

/-- THE SECOND FORM's CARD OF 'caissalaw13.UnmoveHolds'. -/
def unmoveHoldsUptoCard : Claim7 := { stood := { row := unmoveHoldsUptoRow, standIns := [], harness := (true, "a5d3b325c32bca0c7f9e58ffd96356276e684a09f1e11020bf73b7a4c47845ce"), looks := true }, kinds := [], alts := [], laidByText := true, laidKinds := [.data, .widerDeep, .widerDeep, .widerDeep, .data, .data, .data, .data], laidTests := true, laidLooks := .later }
def UnmoveHoldsUptoCardSaid : Prop := Claim7.holds Tryz.pinned (.plain (OpenSpec.upto unmoveHoldsSpec)) unmoveHoldsUptoCard
end Rows
end Go.Proofs.YtefmplccbkmalaaGreatDoor
