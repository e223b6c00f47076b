/-
  DERIVED. GIVEN WITH THE SEED: THE PROGRAM's TIES (one call each: nine closed facts by the kernel) AND EACH ROW's TIE, after the 31st guide's Derived/Test/Toyas{Tie, Card}.lean. No idea stands in it: it is a product of the set-up. Laid BY PROGRAM, IN A SANDBOX (cutbox-door.mjs). By AI agents, Wed Nov 11 2026. No macro, syntax, notation, axiom, sorry.
-/
import Derived.Test.YtddkhnnpeonbgaaGreatDoorRows
import Derived.LaidByTextLater
import Derived.SevenTiedAt
import Derived.LaidSub
import Derived.LaidOnce
namespace Go.Proofs.YtddkhnnpeonbgaaGreatDoor
open Go
set_option maxRecDepth 100000
theorem seatTie1 : Tryz.prog.laidByTextLater [("caissa/ray.straight", Rows.laid_caissa_ray_straight), ("caissa/ray.diagonal", Rows.laid_caissa_ray_diagonal), ("caissa/ray.leaps", Rows.laid_caissa_ray_leaps), ("caissa/position.full", Rows.laid_caissa_position_full)] [.widerDeep, .widerDeep, .widerDeep, .data] true :=
  Program.laidByTextLater_by_one 45 8 17 (by kernel_rfl) (by kernel_rfl) (by kernel_rfl) (by kernel_rfl) (by kernel_rfl) (by kernel_rfl) (fun _ _ => by kernel_rfl)
theorem noOwnUnsafe : Tryz.pinned.checked.prog.headLifts.contains "ownunsafe" = false := by kernel_rfl
theorem tie : Tryz.prog.laidByTextLater [("caissa/ray.straight", Rows.laid_caissa_ray_straight), ("caissa/ray.diagonal", Rows.laid_caissa_ray_diagonal), ("caissa/ray.leaps", Rows.laid_caissa_ray_leaps), ("caissa/position.full", Rows.laid_caissa_position_full)] [.widerDeep, .widerDeep, .widerDeep, .data] true :=
  Program.laidByTextLater.sub seatTie1 ["caissa/ray.straight", "caissa/ray.diagonal", "caissa/ray.leaps", "caissa/position.full"] (by kernel_rfl) (by kernel_rfl)
theorem packedGets_row_tie : Rows.packedGetsRow.laidByTextAt .later Tryz.pinned [.widerDeep, .widerDeep, .widerDeep, .data] true :=
  OpenClaim.laidByTextAt_later rfl rfl tie noOwnUnsafe
theorem packedHolds_row_tie : Rows.packedHoldsRow.laidByTextAt .later Tryz.pinned [.widerDeep, .widerDeep, .widerDeep, .data] true :=
  OpenClaim.laidByTextAt_later rfl rfl tie noOwnUnsafe
theorem packedGetsUpto_row_tie : Rows.packedGetsUptoRow.laidByTextAt .later Tryz.pinned [.widerDeep, .widerDeep, .widerDeep, .data] true :=
  OpenClaim.laidByTextAt_later rfl rfl tie noOwnUnsafe
theorem packedHoldsUpto_row_tie : Rows.packedHoldsUptoRow.laidByTextAt .later Tryz.pinned [.widerDeep, .widerDeep, .widerDeep, .data] true :=
  OpenClaim.laidByTextAt_later rfl rfl tie noOwnUnsafe
end Go.Proofs.YtddkhnnpeonbgaaGreatDoor
