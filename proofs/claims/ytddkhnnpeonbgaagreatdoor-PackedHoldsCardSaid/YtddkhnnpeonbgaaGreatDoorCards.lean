/-
  DERIVED. GIVEN WITH THE SEED: THE CARDS: each row of YtddkhnnpeonbgaaGreatDoorRows.lean that lists a variable, with what it lists TIED to the program's text (the seventh form; the later family's looks); each row that meets fmt, with fmt's text TOLD by the authors' own Lean function (tested against real Go, not proved from fmt's source: count such statements apart). THE CARD IS WHAT COUNTS. Prove the row's statement (the work); the ties are given (YtddkhnnpeonbgaaGreatDoorTie.lean); close each card by the builder's one call (the guide's Derived/Test/ToyasCard.lean, 'card_holds'). Laid BY PROGRAM, IN A SANDBOX (cutbox-door.mjs). By AI agents, Wed Nov 11 2026. No macro, syntax, notation, axiom, sorry.
-/
import Derived.Test.YtddkhnnpeonbgaaGreatDoorRows
import GoSem.ClaimSeven
namespace Go.Proofs.YtddkhnnpeonbgaaGreatDoor
namespace Rows

/-- THE TIED CARD OF 'caissalaw23.PackedGets'. -/
def packedGetsCard : Claim7 := { stood := { row := packedGetsRow, standIns := [], harness := (true, "b124bbd394df62259f0d90ca199d2654b519b4b4b7af4855fe5b651f40a72917"), looks := true }, kinds := [], alts := [], laidByText := true, laidKinds := [.widerDeep, .widerDeep, .widerDeep, .data], laidTests := true, laidLooks := .later }
def PackedGetsCardSaid : Prop := Claim7.holds Tryz.pinned (.plain (OpenSpec.ofChange packedGetsSpec)) packedGetsCard

/-- THE TIED CARD OF 'caissalaw23.PackedHolds'. -/
def packedHoldsCard : Claim7 := { stood := { row := packedHoldsRow, standIns := [], harness := (true, "b124bbd394df62259f0d90ca199d2654b519b4b4b7af4855fe5b651f40a72917"), looks := true }, kinds := [], alts := [], laidByText := true, laidKinds := [.widerDeep, .widerDeep, .widerDeep, .data], laidTests := true, laidLooks := .later }
def PackedHoldsCardSaid : Prop := Claim7.holds Tryz.pinned (.plain (OpenSpec.ofChange packedHoldsSpec)) packedHoldsCard

/-- THE SECOND FORM's CARD OF 'caissalaw23.PackedGets'. -/
def packedGetsUptoCard : Claim7 := { stood := { row := packedGetsUptoRow, standIns := [], harness := (true, "b124bbd394df62259f0d90ca199d2654b519b4b4b7af4855fe5b651f40a72917"), looks := true }, kinds := [], alts := [], laidByText := true, laidKinds := [.widerDeep, .widerDeep, .widerDeep, .data], laidTests := true, laidLooks := .later }
def PackedGetsUptoCardSaid : Prop := Claim7.holds Tryz.pinned (.plain (OpenSpec.upto packedGetsSpec)) packedGetsUptoCard

/-- THE SECOND FORM's CARD OF 'caissalaw23.PackedHolds'. -/
def packedHoldsUptoCard : Claim7 := { stood := { row := packedHoldsUptoRow, standIns := [], harness := (true, "b124bbd394df62259f0d90ca199d2654b519b4b4b7af4855fe5b651f40a72917"), looks := true }, kinds := [], alts := [], laidByText := true, laidKinds := [.widerDeep, .widerDeep, .widerDeep, .data], laidTests := true, laidLooks := .later }
def PackedHoldsUptoCardSaid : Prop := Claim7.holds Tryz.pinned (.plain (OpenSpec.upto packedHoldsSpec)) packedHoldsUptoCard
end Rows
end Go.Proofs.YtddkhnnpeonbgaaGreatDoor
