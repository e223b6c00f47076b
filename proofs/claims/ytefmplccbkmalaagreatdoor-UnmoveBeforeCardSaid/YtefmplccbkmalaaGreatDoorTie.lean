/-
  DERIVED. GIVEN WITH THE SEED: THE PROGRAM's TIES (one call each: nine closed facts by the kernel) AND EACH ROW's TIE, after the 31st guide's Derived/Test/Toyas{Tie, Card}.lean. No idea stands in it: it is a product of the set-up. Laid BY PROGRAM, IN A SANDBOX (cutbox-door.mjs). By AI agents, Wed Nov 11 2026. No macro, syntax, notation, axiom, sorry.
-/
import Derived.Test.YtefmplccbkmalaaGreatDoorRows
import Derived.LaidByTextLater
import Derived.SevenTiedAt
import Derived.LaidSub
import Derived.LaidOnce
namespace Go.Proofs.YtefmplccbkmalaaGreatDoor
open Go
set_option maxRecDepth 100000
theorem seatTie1 : Tryz.prog.laidByTextLater [("math/bits.deBruijn64tab", Rows.laid_math_bits_deBruijn64tab), ("caissa/ray.straight", Rows.laid_caissa_ray_straight), ("caissa/ray.diagonal", Rows.laid_caissa_ray_diagonal), ("caissa/ray.leaps", Rows.laid_caissa_ray_leaps), ("caissa/position.full", Rows.laid_caissa_position_full), ("caissa/making.castles", Rows.laid_caissa_making_castles), ("caissa/unmove.castles", Rows.laid_caissa_unmove_castles), ("caissa/unmove.full", Rows.laid_caissa_unmove_full)] [.data, .widerDeep, .widerDeep, .widerDeep, .data, .data, .data, .data] true :=
  Program.laidByTextLater_by_one 73 8 65 (by kernel_rfl) (by kernel_rfl) (by kernel_rfl) (by kernel_rfl) (by kernel_rfl) (by kernel_rfl) (fun _ _ => by kernel_rfl)
theorem noOwnUnsafe : Tryz.pinned.checked.prog.headLifts.contains "ownunsafe" = false := by kernel_rfl
theorem tie : Tryz.prog.laidByTextLater [("math/bits.deBruijn64tab", Rows.laid_math_bits_deBruijn64tab), ("caissa/ray.straight", Rows.laid_caissa_ray_straight), ("caissa/ray.diagonal", Rows.laid_caissa_ray_diagonal), ("caissa/ray.leaps", Rows.laid_caissa_ray_leaps), ("caissa/position.full", Rows.laid_caissa_position_full), ("caissa/making.castles", Rows.laid_caissa_making_castles), ("caissa/unmove.castles", Rows.laid_caissa_unmove_castles), ("caissa/unmove.full", Rows.laid_caissa_unmove_full)] [.data, .widerDeep, .widerDeep, .widerDeep, .data, .data, .data, .data] true :=
  Program.laidByTextLater.sub seatTie1 ["math/bits.deBruijn64tab", "caissa/ray.straight", "caissa/ray.diagonal", "caissa/ray.leaps", "caissa/position.full", "caissa/making.castles", "caissa/unmove.castles", "caissa/unmove.full"] (by kernel_rfl) (by kernel_rfl)
theorem unmoveMoves_row_tie : Rows.unmoveMovesRow.laidByTextAt .later Tryz.pinned [.data, .widerDeep, .widerDeep, .widerDeep, .data, .data, .data, .data] true :=
  OpenClaim.laidByTextAt_later rfl rfl tie noOwnUnsafe
theorem unmoveCompares_row_tie : Rows.unmoveComparesRow.laidByTextAt .later Tryz.pinned [.data, .widerDeep, .widerDeep, .widerDeep, .data, .data, .data, .data] true :=
  OpenClaim.laidByTextAt_later rfl rfl tie noOwnUnsafe
theorem unmoveBefore_row_tie : Rows.unmoveBeforeRow.laidByTextAt .later Tryz.pinned [.data, .widerDeep, .widerDeep, .widerDeep, .data, .data, .data, .data] true :=
  OpenClaim.laidByTextAt_later rfl rfl tie noOwnUnsafe
theorem unmoveForwards_row_tie : Rows.unmoveForwardsRow.laidByTextAt .later Tryz.pinned [.data, .widerDeep, .widerDeep, .widerDeep, .data, .data, .data, .data] true :=
  OpenClaim.laidByTextAt_later rfl rfl tie noOwnUnsafe
theorem unmoveHolds_row_tie : Rows.unmoveHoldsRow.laidByTextAt .later Tryz.pinned [.data, .widerDeep, .widerDeep, .widerDeep, .data, .data, .data, .data] true :=
  OpenClaim.laidByTextAt_later rfl rfl tie noOwnUnsafe
theorem unmoveMovesUpto_row_tie : Rows.unmoveMovesUptoRow.laidByTextAt .later Tryz.pinned [.data, .widerDeep, .widerDeep, .widerDeep, .data, .data, .data, .data] true :=
  OpenClaim.laidByTextAt_later rfl rfl tie noOwnUnsafe
theorem unmoveComparesUpto_row_tie : Rows.unmoveComparesUptoRow.laidByTextAt .later Tryz.pinned [.data, .widerDeep, .widerDeep, .widerDeep, .data, .data, .data, .data] true :=
  OpenClaim.laidByTextAt_later rfl rfl tie noOwnUnsafe
theorem unmoveBeforeUpto_row_tie : Rows.unmoveBeforeUptoRow.laidByTextAt .later Tryz.pinned [.data, .widerDeep, .widerDeep, .widerDeep, .data, .data, .data, .data] true :=
  OpenClaim.laidByTextAt_later rfl rfl tie noOwnUnsafe
theorem unmoveForwardsUpto_row_tie : Rows.unmoveForwardsUptoRow.laidByTextAt .later Tryz.pinned [.data, .widerDeep, .widerDeep, .widerDeep, .data, .data, .data, .data] true :=
  OpenClaim.laidByTextAt_later rfl rfl tie noOwnUnsafe
theorem unmoveHoldsUpto_row_tie : Rows.unmoveHoldsUptoRow.laidByTextAt .later Tryz.pinned [.data, .widerDeep, .widerDeep, .widerDeep, .data, .data, .data, .data] true :=
  OpenClaim.laidByTextAt_later rfl rfl tie noOwnUnsafe
end Go.Proofs.YtefmplccbkmalaaGreatDoor
