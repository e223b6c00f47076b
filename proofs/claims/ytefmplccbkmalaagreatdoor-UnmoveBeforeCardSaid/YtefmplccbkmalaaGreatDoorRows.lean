/-
  NARROWER THAN 'FOR EVERY INPUT', by the rows' own cells (each row's printed sentence says how): UnmoveMoves: laid · UnmoveCompares: laid · UnmoveBefore: laid · UnmoveForwards: laid · UnmoveHolds: laid.
  DERIVED. THE GIVEN ROWS OF THIS SEAT. 5 by the template 'for every input the law returns true; each argument reads behind the call as it read before'; 0 by the template 'total and deterministic' (their statements: YtefmplccbkmalaaGreatDoorTotals.lean).
  GIVEN WITH THE SEED: the statements are not yours to turn. If you find one false, say at which input.
  Laid BY PROGRAM, IN A SANDBOX (cutbox-rows.mjs): the forced cells as the released guide's own fill.sh prints them over the translation 5a9fd8b075446b3f… (all of the seat's roots in one cut). By AI agents, Wed Nov 11 2026. No macro, syntax, notation, axiom, sorry.
-/
import Derived.Test.YtefmplccbkmalaaGreatDoorChecked
import GoSem.Claim
import GoSem.ClaimJoined
import GoSem.ClaimMapViews
import Derived.JoinedTies
import Derived.KernelRfl
namespace Go.Proofs.YtefmplccbkmalaaGreatDoor
/- THE CELL 'sum', in the pinned program and in every row, IS THE sha256 OF THE DUMP (.gsa) THAT YtefmplccbkmalaaGreatDoorProg.lean LOADS. Nothing in Lean hashes anything: it is a label: what it is worth is what the hold of that sum in a sandbox is worth. -/
noncomputable def Tryz.pinned : Pinned := { name := "ytefmplccbkmalaagreatdoor", sum := "5a9fd8b075446b3f917d2a3156337dc019f0b7590f3d287405d14630400e96e4", checked := Tryz.checked }
namespace Rows
def none {H : Type} : Left H := { results := [], args := [] }

/- WHAT THE LISTED PACKAGE-LEVEL VARIABLES READ AS WHEN THE CALL BEGINS. Each datum BY PROGRAM (the guide's laid-datum.mjs) off the statement by which the dump's own 'gosem.cut.vars' lays the variable. In a bare row this is a premise. The card (YtefmplccbkmalaaGreatDoorCards.lean) ties it to the program's text. -/
def laid_math_bits_deBruijn64tab {H : Type} : DataW H := .agg [.lit (.int .u8 0), .lit (.int .u8 1), .lit (.int .u8 56), .lit (.int .u8 2), .lit (.int .u8 57), .lit (.int .u8 49), .lit (.int .u8 28), .lit (.int .u8 3), .lit (.int .u8 61), .lit (.int .u8 58), .lit (.int .u8 42), .lit (.int .u8 50), .lit (.int .u8 38), .lit (.int .u8 29), .lit (.int .u8 17), .lit (.int .u8 4), .lit (.int .u8 62), .lit (.int .u8 47), .lit (.int .u8 59), .lit (.int .u8 36), .lit (.int .u8 45), .lit (.int .u8 43), .lit (.int .u8 51), .lit (.int .u8 22), .lit (.int .u8 53), .lit (.int .u8 39), .lit (.int .u8 33), .lit (.int .u8 30), .lit (.int .u8 24), .lit (.int .u8 18), .lit (.int .u8 12), .lit (.int .u8 5), .lit (.int .u8 63), .lit (.int .u8 55), .lit (.int .u8 48), .lit (.int .u8 27), .lit (.int .u8 60), .lit (.int .u8 41), .lit (.int .u8 37), .lit (.int .u8 16), .lit (.int .u8 46), .lit (.int .u8 35), .lit (.int .u8 44), .lit (.int .u8 21), .lit (.int .u8 52), .lit (.int .u8 32), .lit (.int .u8 23), .lit (.int .u8 11), .lit (.int .u8 54), .lit (.int .u8 26), .lit (.int .u8 40), .lit (.int .u8 15), .lit (.int .u8 34), .lit (.int .u8 20), .lit (.int .u8 31), .lit (.int .u8 10), .lit (.int .u8 25), .lit (.int .u8 14), .lit (.int .u8 19), .lit (.int .u8 9), .lit (.int .u8 13), .lit (.int .u8 8), .lit (.int .u8 7), .lit (.int .u8 6)]
def laid_caissa_ray_straight {H : Type} : DataW H := .agg [.agg [.lit (.int .i64 1), .lit (.int .i64 0)], .agg [.lit (.int .i64 0), .lit (.int .i64 1)], .agg [.lit (.int .i64 (-1)), .lit (.int .i64 0)], .agg [.lit (.int .i64 0), .lit (.int .i64 (-1))]]
def laid_caissa_ray_diagonal {H : Type} : DataW H := .agg [.agg [.lit (.int .i64 1), .lit (.int .i64 1)], .agg [.lit (.int .i64 (-1)), .lit (.int .i64 1)], .agg [.lit (.int .i64 (-1)), .lit (.int .i64 (-1))], .agg [.lit (.int .i64 1), .lit (.int .i64 (-1))]]
def laid_caissa_ray_leaps {H : Type} : DataW H := .agg [.agg [.lit (.int .i64 1), .lit (.int .i64 2)], .agg [.lit (.int .i64 2), .lit (.int .i64 1)], .agg [.lit (.int .i64 2), .lit (.int .i64 (-1))], .agg [.lit (.int .i64 1), .lit (.int .i64 (-2))], .agg [.lit (.int .i64 (-1)), .lit (.int .i64 (-2))], .agg [.lit (.int .i64 (-2)), .lit (.int .i64 (-1))], .agg [.lit (.int .i64 (-2)), .lit (.int .i64 1)], .agg [.lit (.int .i64 (-1)), .lit (.int .i64 2)]]
def laid_caissa_position_full {H : Type} : DataW H := .agg [.lit (.int .i64 8), .lit (.int .i64 8)]
def laid_caissa_making_castles {H : Type} : DataW H := .agg [.agg [.lit (.int .u8 1), .lit (.bool false), .lit (.int .i64 4), .lit (.int .i64 6), .lit (.int .i64 7), .lit (.int .i64 5)], .agg [.lit (.int .u8 2), .lit (.bool false), .lit (.int .i64 4), .lit (.int .i64 2), .lit (.int .i64 0), .lit (.int .i64 3)], .agg [.lit (.int .u8 4), .lit (.bool true), .lit (.int .i64 60), .lit (.int .i64 62), .lit (.int .i64 63), .lit (.int .i64 61)], .agg [.lit (.int .u8 8), .lit (.bool true), .lit (.int .i64 60), .lit (.int .i64 58), .lit (.int .i64 56), .lit (.int .i64 59)]]
def laid_caissa_unmove_castles {H : Type} : DataW H := .agg [.agg [.lit (.int .u8 1), .lit (.bool false), .lit (.int .i64 4), .lit (.int .i64 6), .lit (.int .i64 7), .lit (.int .i64 5)], .agg [.lit (.int .u8 2), .lit (.bool false), .lit (.int .i64 4), .lit (.int .i64 2), .lit (.int .i64 0), .lit (.int .i64 3)], .agg [.lit (.int .u8 4), .lit (.bool true), .lit (.int .i64 60), .lit (.int .i64 62), .lit (.int .i64 63), .lit (.int .i64 61)], .agg [.lit (.int .u8 8), .lit (.bool true), .lit (.int .i64 60), .lit (.int .i64 58), .lit (.int .i64 56), .lit (.int .i64 59)]]
def laid_caissa_unmove_full {H : Type} : DataW H := .agg [.lit (.int .i64 8), .lit (.int .i64 8)]

/-- 'caissalaw13.UnmoveMoves': WHATEVER THE INPUT: true; the input reads as it did. -/
def unmoveMovesSpec : ChangeSpec := { name := "unmoveMoves", fn := fun _ => fun
  | [d] => { results := [.lit (.bool true)], args := [d] }
  | _ => none }
def unmoveMovesRow : OpenClaim := { program := "ytefmplccbkmalaagreatdoor", sum := "5a9fd8b075446b3f917d2a3156337dc019f0b7590f3d287405d14630400e96e4", func := "caissa/caissalaw13.UnmoveMoves", spec := "unmoveMoves", unfollowed := true, recurses := true, named := ["caissa/ray.leaps", "caissa/ray.diagonal", "caissa/ray.straight", "caissa/position.full", "math/bits.deBruijn64tab", "caissa/unmove.full", "caissa/unmove.castles", "caissa/making.castles"], apart := false, laid := [("math/bits.deBruijn64tab", laid_math_bits_deBruijn64tab), ("caissa/ray.straight", laid_caissa_ray_straight), ("caissa/ray.diagonal", laid_caissa_ray_diagonal), ("caissa/ray.leaps", laid_caissa_ray_leaps), ("caissa/position.full", laid_caissa_position_full), ("caissa/making.castles", laid_caissa_making_castles), ("caissa/unmove.castles", laid_caissa_unmove_castles), ("caissa/unmove.full", laid_caissa_unmove_full)] }
def UnmoveMovesSaid : Prop := unmoveMovesRow.holds Tryz.pinned (OpenSpec.ofChange unmoveMovesSpec)

/-- ITS FALSE NEIGHBOUR: 'it returns false'. Refute it at one input. -/
def unmoveMovesWrong : ChangeSpec := { name := "unmoveMoves", fn := fun _ => fun
  | [d] => { results := [.lit (.bool false)], args := [d] }
  | _ => none }
def UnmoveMovesWrongFalsely : Prop := unmoveMovesRow.holds Tryz.pinned (OpenSpec.ofChange unmoveMovesWrong)

/-- 'caissalaw13.UnmoveCompares': WHATEVER THE INPUT: true; the input reads as it did. -/
def unmoveComparesSpec : ChangeSpec := { name := "unmoveCompares", fn := fun _ => fun
  | [d1, d2] => { results := [.lit (.bool true)], args := [d1, d2] }
  | _ => none }
def unmoveComparesRow : OpenClaim := { program := "ytefmplccbkmalaagreatdoor", sum := "5a9fd8b075446b3f917d2a3156337dc019f0b7590f3d287405d14630400e96e4", func := "caissa/caissalaw13.UnmoveCompares", spec := "unmoveCompares", unfollowed := true, recurses := true, named := ["caissa/ray.leaps", "caissa/ray.diagonal", "caissa/ray.straight", "caissa/position.full", "math/bits.deBruijn64tab", "caissa/unmove.full", "caissa/unmove.castles", "caissa/making.castles"], apart := false, laid := [("math/bits.deBruijn64tab", laid_math_bits_deBruijn64tab), ("caissa/ray.straight", laid_caissa_ray_straight), ("caissa/ray.diagonal", laid_caissa_ray_diagonal), ("caissa/ray.leaps", laid_caissa_ray_leaps), ("caissa/position.full", laid_caissa_position_full), ("caissa/making.castles", laid_caissa_making_castles), ("caissa/unmove.castles", laid_caissa_unmove_castles), ("caissa/unmove.full", laid_caissa_unmove_full)] }
def UnmoveComparesSaid : Prop := unmoveComparesRow.holds Tryz.pinned (OpenSpec.ofChange unmoveComparesSpec)

/-- ITS FALSE NEIGHBOUR: 'it returns false'. Refute it at one input. -/
def unmoveComparesWrong : ChangeSpec := { name := "unmoveCompares", fn := fun _ => fun
  | [d1, d2] => { results := [.lit (.bool false)], args := [d1, d2] }
  | _ => none }
def UnmoveComparesWrongFalsely : Prop := unmoveComparesRow.holds Tryz.pinned (OpenSpec.ofChange unmoveComparesWrong)

/-- 'caissalaw13.UnmoveBefore': WHATEVER THE INPUT: true; the input reads as it did. -/
def unmoveBeforeSpec : ChangeSpec := { name := "unmoveBefore", fn := fun _ => fun
  | [d1, d2] => { results := [.lit (.bool true)], args := [d1, d2] }
  | _ => none }
def unmoveBeforeRow : OpenClaim := { program := "ytefmplccbkmalaagreatdoor", sum := "5a9fd8b075446b3f917d2a3156337dc019f0b7590f3d287405d14630400e96e4", func := "caissa/caissalaw13.UnmoveBefore", spec := "unmoveBefore", unfollowed := true, recurses := true, named := ["caissa/ray.leaps", "caissa/ray.diagonal", "caissa/ray.straight", "caissa/position.full", "math/bits.deBruijn64tab", "caissa/unmove.full", "caissa/unmove.castles", "caissa/making.castles"], apart := false, laid := [("math/bits.deBruijn64tab", laid_math_bits_deBruijn64tab), ("caissa/ray.straight", laid_caissa_ray_straight), ("caissa/ray.diagonal", laid_caissa_ray_diagonal), ("caissa/ray.leaps", laid_caissa_ray_leaps), ("caissa/position.full", laid_caissa_position_full), ("caissa/making.castles", laid_caissa_making_castles), ("caissa/unmove.castles", laid_caissa_unmove_castles), ("caissa/unmove.full", laid_caissa_unmove_full)] }
def UnmoveBeforeSaid : Prop := unmoveBeforeRow.holds Tryz.pinned (OpenSpec.ofChange unmoveBeforeSpec)

/-- ITS FALSE NEIGHBOUR: 'it returns false'. Refute it at one input. -/
def unmoveBeforeWrong : ChangeSpec := { name := "unmoveBefore", fn := fun _ => fun
  | [d1, d2] => { results := [.lit (.bool false)], args := [d1, d2] }
  | _ => none }
def UnmoveBeforeWrongFalsely : Prop := unmoveBeforeRow.holds Tryz.pinned (OpenSpec.ofChange unmoveBeforeWrong)

/-- 'caissalaw13.UnmoveForwards': WHATEVER THE INPUT: true; the input reads as it did. -/
def unmoveForwardsSpec : ChangeSpec := { name := "unmoveForwards", fn := fun _ => fun
  | [d1, d2] => { results := [.lit (.bool true)], args := [d1, d2] }
  | _ => none }
def unmoveForwardsRow : OpenClaim := { program := "ytefmplccbkmalaagreatdoor", sum := "5a9fd8b075446b3f917d2a3156337dc019f0b7590f3d287405d14630400e96e4", func := "caissa/caissalaw13.UnmoveForwards", spec := "unmoveForwards", unfollowed := true, recurses := true, named := ["caissa/ray.leaps", "caissa/ray.diagonal", "caissa/ray.straight", "caissa/position.full", "math/bits.deBruijn64tab", "caissa/unmove.full", "caissa/unmove.castles", "caissa/making.castles"], apart := false, laid := [("math/bits.deBruijn64tab", laid_math_bits_deBruijn64tab), ("caissa/ray.straight", laid_caissa_ray_straight), ("caissa/ray.diagonal", laid_caissa_ray_diagonal), ("caissa/ray.leaps", laid_caissa_ray_leaps), ("caissa/position.full", laid_caissa_position_full), ("caissa/making.castles", laid_caissa_making_castles), ("caissa/unmove.castles", laid_caissa_unmove_castles), ("caissa/unmove.full", laid_caissa_unmove_full)] }
def UnmoveForwardsSaid : Prop := unmoveForwardsRow.holds Tryz.pinned (OpenSpec.ofChange unmoveForwardsSpec)

/-- ITS FALSE NEIGHBOUR: 'it returns false'. Refute it at one input. -/
def unmoveForwardsWrong : ChangeSpec := { name := "unmoveForwards", fn := fun _ => fun
  | [d1, d2] => { results := [.lit (.bool false)], args := [d1, d2] }
  | _ => none }
def UnmoveForwardsWrongFalsely : Prop := unmoveForwardsRow.holds Tryz.pinned (OpenSpec.ofChange unmoveForwardsWrong)

/-- 'caissalaw13.UnmoveHolds': WHATEVER THE INPUT: true; the input reads as it did. -/
def unmoveHoldsSpec : ChangeSpec := { name := "unmoveHolds", fn := fun _ => fun
  | [d1, d2, d3] => { results := [.lit (.bool true)], args := [d1, d2, d3] }
  | _ => none }
def unmoveHoldsRow : OpenClaim := { program := "ytefmplccbkmalaagreatdoor", sum := "5a9fd8b075446b3f917d2a3156337dc019f0b7590f3d287405d14630400e96e4", func := "caissa/caissalaw13.UnmoveHolds", spec := "unmoveHolds", unfollowed := true, recurses := true, named := ["caissa/ray.leaps", "caissa/ray.diagonal", "caissa/ray.straight", "caissa/position.full", "math/bits.deBruijn64tab", "caissa/unmove.full", "caissa/unmove.castles", "caissa/making.castles"], apart := false, laid := [("math/bits.deBruijn64tab", laid_math_bits_deBruijn64tab), ("caissa/ray.straight", laid_caissa_ray_straight), ("caissa/ray.diagonal", laid_caissa_ray_diagonal), ("caissa/ray.leaps", laid_caissa_ray_leaps), ("caissa/position.full", laid_caissa_position_full), ("caissa/making.castles", laid_caissa_making_castles), ("caissa/unmove.castles", laid_caissa_unmove_castles), ("caissa/unmove.full", laid_caissa_unmove_full)] }
def UnmoveHoldsSaid : Prop := unmoveHoldsRow.holds Tryz.pinned (OpenSpec.ofChange unmoveHoldsSpec)

/-- ITS FALSE NEIGHBOUR: 'it returns false'. Refute it at one input. -/
def unmoveHoldsWrong : ChangeSpec := { name := "unmoveHolds", fn := fun _ => fun
  | [d1, d2, d3] => { results := [.lit (.bool false)], args := [d1, d2, d3] }
  | _ => none }
def UnmoveHoldsWrongFalsely : Prop := unmoveHoldsRow.holds Tryz.pinned (OpenSpec.ofChange unmoveHoldsWrong)

/- THE SECOND FORM. 'bulk': how many values and letters a reading holds, each counted each time it is reached (what is shared counts as often as it is met; a slice's spare places count too). A statement '..UptoSaid' is the law's where the arguments, and the package variables that the reading takes, are together of bulk at most 1048576: NARROWER than '..Said'. Prove '..Said' where nothing that the law and all that it calls make is longer than what came in: it says more and counts as full. Else prove '..UptoSaid'. A law counts once. -/
mutual
def uptoBulk {H : Type} : DataW H → Nat
  | .lit (.string bytes) => bytes.length + 1
  | .lit _ => 1
  | .nil => 1
  | .ptr d => uptoBulk d + 1
  | .slice elems spare => uptoBulkAll elems + uptoBulkAll spare + 1
  | .agg parts => uptoBulkAll parts + 1
  | .iface _ d => uptoBulk d + 1
  | .map entries => uptoBulkEntries entries + 1
  | .held _ => 1
def uptoBulkAll {H : Type} : List (DataW H) → Nat
  | [] => 0
  | d :: r => uptoBulk d + uptoBulkAll r
def uptoBulkEntries {H : Type} : List (Lit × DataW H) → Nat
  | [] => 0
  | x :: r => uptoBulkEntry x + uptoBulkEntries r
def uptoBulkEntry {H : Type} : Lit × DataW H → Nat
  | (.string bytes, d) => bytes.length + uptoBulk d + 1
  | (_, d) => uptoBulk d + 1
 end
def uptoSmall : (H : Type) → List (DataW H) → Bool := fun _ ds => decide (uptoBulkAll ds ≤ 1048576)
def OpenSpec.upto (s : _root_.Go.ChangeSpec) : _root_.Go.OpenSpec := { _root_.Go.OpenSpec.ofChange s with cond := some uptoSmall }

/-- 'caissalaw13.UnmoveMoves', WHERE WHAT IT READS IS OF BULK AT MOST 1048576: true; the input reads as it did. -/
def unmoveMovesUptoRow : OpenClaim := { program := "ytefmplccbkmalaagreatdoor", sum := "5a9fd8b075446b3f917d2a3156337dc019f0b7590f3d287405d14630400e96e4", func := "caissa/caissalaw13.UnmoveMoves", spec := "unmoveMoves", unfollowed := true, recurses := true, named := ["caissa/ray.leaps", "caissa/ray.diagonal", "caissa/ray.straight", "caissa/position.full", "math/bits.deBruijn64tab", "caissa/unmove.full", "caissa/unmove.castles", "caissa/making.castles"], apart := false, laid := [("math/bits.deBruijn64tab", laid_math_bits_deBruijn64tab), ("caissa/ray.straight", laid_caissa_ray_straight), ("caissa/ray.diagonal", laid_caissa_ray_diagonal), ("caissa/ray.leaps", laid_caissa_ray_leaps), ("caissa/position.full", laid_caissa_position_full), ("caissa/making.castles", laid_caissa_making_castles), ("caissa/unmove.castles", laid_caissa_unmove_castles), ("caissa/unmove.full", laid_caissa_unmove_full)], narrowed := true }
def UnmoveMovesUptoSaid : Prop := unmoveMovesUptoRow.holds Tryz.pinned (OpenSpec.upto unmoveMovesSpec)

/-- 'caissalaw13.UnmoveCompares', WHERE WHAT IT READS IS OF BULK AT MOST 1048576: true; the input reads as it did. -/
def unmoveComparesUptoRow : OpenClaim := { program := "ytefmplccbkmalaagreatdoor", sum := "5a9fd8b075446b3f917d2a3156337dc019f0b7590f3d287405d14630400e96e4", func := "caissa/caissalaw13.UnmoveCompares", spec := "unmoveCompares", unfollowed := true, recurses := true, named := ["caissa/ray.leaps", "caissa/ray.diagonal", "caissa/ray.straight", "caissa/position.full", "math/bits.deBruijn64tab", "caissa/unmove.full", "caissa/unmove.castles", "caissa/making.castles"], apart := false, laid := [("math/bits.deBruijn64tab", laid_math_bits_deBruijn64tab), ("caissa/ray.straight", laid_caissa_ray_straight), ("caissa/ray.diagonal", laid_caissa_ray_diagonal), ("caissa/ray.leaps", laid_caissa_ray_leaps), ("caissa/position.full", laid_caissa_position_full), ("caissa/making.castles", laid_caissa_making_castles), ("caissa/unmove.castles", laid_caissa_unmove_castles), ("caissa/unmove.full", laid_caissa_unmove_full)], narrowed := true }
def UnmoveComparesUptoSaid : Prop := unmoveComparesUptoRow.holds Tryz.pinned (OpenSpec.upto unmoveComparesSpec)

/-- 'caissalaw13.UnmoveBefore', WHERE WHAT IT READS IS OF BULK AT MOST 1048576: true; the input reads as it did. -/
def unmoveBeforeUptoRow : OpenClaim := { program := "ytefmplccbkmalaagreatdoor", sum := "5a9fd8b075446b3f917d2a3156337dc019f0b7590f3d287405d14630400e96e4", func := "caissa/caissalaw13.UnmoveBefore", spec := "unmoveBefore", unfollowed := true, recurses := true, named := ["caissa/ray.leaps", "caissa/ray.diagonal", "caissa/ray.straight", "caissa/position.full", "math/bits.deBruijn64tab", "caissa/unmove.full", "caissa/unmove.castles", "caissa/making.castles"], apart := false, laid := [("math/bits.deBruijn64tab", laid_math_bits_deBruijn64tab), ("caissa/ray.straight", laid_caissa_ray_straight), ("caissa/ray.diagonal", laid_caissa_ray_diagonal), ("caissa/ray.leaps", laid_caissa_ray_leaps), ("caissa/position.full", laid_caissa_position_full), ("caissa/making.castles", laid_caissa_making_castles), ("caissa/unmove.castles", laid_caissa_unmove_castles), ("caissa/unmove.full", laid_caissa_unmove_full)], narrowed := true }
def UnmoveBeforeUptoSaid : Prop := unmoveBeforeUptoRow.holds Tryz.pinned (OpenSpec.upto unmoveBeforeSpec)

/-- 'caissalaw13.UnmoveForwards', WHERE WHAT IT READS IS OF BULK AT MOST 1048576: true; the input reads as it did. -/
def unmoveForwardsUptoRow : OpenClaim := { program := "ytefmplccbkmalaagreatdoor", sum := "5a9fd8b075446b3f917d2a3156337dc019f0b7590f3d287405d14630400e96e4", func := "caissa/caissalaw13.UnmoveForwards", spec := "unmoveForwards", unfollowed := true, recurses := true, named := ["caissa/ray.leaps", "caissa/ray.diagonal", "caissa/ray.straight", "caissa/position.full", "math/bits.deBruijn64tab", "caissa/unmove.full", "caissa/unmove.castles", "caissa/making.castles"], apart := false, laid := [("math/bits.deBruijn64tab", laid_math_bits_deBruijn64tab), ("caissa/ray.straight", laid_caissa_ray_straight), ("caissa/ray.diagonal", laid_caissa_ray_diagonal), ("caissa/ray.leaps", laid_caissa_ray_leaps), ("caissa/position.full", laid_caissa_position_full), ("caissa/making.castles", laid_caissa_making_castles), ("caissa/unmove.castles", laid_caissa_unmove_castles), ("caissa/unmove.full", laid_caissa_unmove_full)], narrowed := true }
def UnmoveForwardsUptoSaid : Prop := unmoveForwardsUptoRow.holds Tryz.pinned (OpenSpec.upto unmoveForwardsSpec)

/-- 'caissalaw13.UnmoveHolds', WHERE WHAT IT READS IS OF BULK AT MOST 1048576: true; the input reads as it did. -/
def unmoveHoldsUptoRow : OpenClaim := { program := "ytefmplccbkmalaagreatdoor", sum := "5a9fd8b075446b3f917d2a3156337dc019f0b7590f3d287405d14630400e96e4", func := "caissa/caissalaw13.UnmoveHolds", spec := "unmoveHolds", unfollowed := true, recurses := true, named := ["caissa/ray.leaps", "caissa/ray.diagonal", "caissa/ray.straight", "caissa/position.full", "math/bits.deBruijn64tab", "caissa/unmove.full", "caissa/unmove.castles", "caissa/making.castles"], apart := false, laid := [("math/bits.deBruijn64tab", laid_math_bits_deBruijn64tab), ("caissa/ray.straight", laid_caissa_ray_straight), ("caissa/ray.diagonal", laid_caissa_ray_diagonal), ("caissa/ray.leaps", laid_caissa_ray_leaps), ("caissa/position.full", laid_caissa_position_full), ("caissa/making.castles", laid_caissa_making_castles), ("caissa/unmove.castles", laid_caissa_unmove_castles), ("caissa/unmove.full", laid_caissa_unmove_full)], narrowed := true }
def UnmoveHoldsUptoSaid : Prop := unmoveHoldsUptoRow.holds Tryz.pinned (OpenSpec.upto unmoveHoldsSpec)

end Rows
end Go.Proofs.YtefmplccbkmalaaGreatDoor
