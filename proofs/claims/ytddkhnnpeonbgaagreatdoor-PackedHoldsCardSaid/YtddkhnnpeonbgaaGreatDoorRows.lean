/-
  NARROWER THAN 'FOR EVERY INPUT', by the rows' own cells (each row's printed sentence says how): PackedGets: laid · PackedHolds: laid.
  DERIVED. THE GIVEN ROWS OF THIS SEAT. 2 by the template 'for every input the law returns true; each argument reads behind the call as it read before'; 0 by the template 'total and deterministic' (their statements: YtddkhnnpeonbgaaGreatDoorTotals.lean).
  GIVEN WITH THE SEED: the statements are not yours to turn. If you find one false, say at which input.
  Laid BY PROGRAM, IN A SANDBOX (cutbox-rows.mjs): the forced cells as the released guide's own fill.sh prints them over the translation 8237291b1af95746… (all of the seat's roots in one cut). By AI agents, Wed Nov 11 2026. No macro, syntax, notation, axiom, sorry.
-/
import Derived.Test.YtddkhnnpeonbgaaGreatDoorChecked
import GoSem.Claim
import GoSem.ClaimJoined
import GoSem.ClaimMapViews
import Derived.JoinedTies
import Derived.KernelRfl
namespace Go.Proofs.YtddkhnnpeonbgaaGreatDoor
/- THE CELL 'sum', in the pinned program and in every row, IS THE sha256 OF THE DUMP (.gsa) THAT YtddkhnnpeonbgaaGreatDoorProg.lean LOADS. Nothing in Lean hashes anything: it is a label: what it is worth is what the hold of that sum in a sandbox is worth. -/
noncomputable def Tryz.pinned : Pinned := { name := "ytddkhnnpeonbgaagreatdoor", sum := "8237291b1af957460990282c8b8e5d1e572734b107ebee0fa73af0a97c20a435", checked := Tryz.checked }
namespace Rows
def none {H : Type} : Left H := { results := [], args := [] }

/- WHAT THE LISTED PACKAGE-LEVEL VARIABLES READ AS WHEN THE CALL BEGINS. Each datum BY PROGRAM (the guide's laid-datum.mjs) off the statement by which the dump's own 'gosem.cut.vars' lays the variable. In a bare row this is a premise. The card (YtddkhnnpeonbgaaGreatDoorCards.lean) ties it to the program's text. -/
def laid_caissa_ray_straight {H : Type} : DataW H := .agg [.agg [.lit (.int .i64 1), .lit (.int .i64 0)], .agg [.lit (.int .i64 0), .lit (.int .i64 1)], .agg [.lit (.int .i64 (-1)), .lit (.int .i64 0)], .agg [.lit (.int .i64 0), .lit (.int .i64 (-1))]]
def laid_caissa_ray_diagonal {H : Type} : DataW H := .agg [.agg [.lit (.int .i64 1), .lit (.int .i64 1)], .agg [.lit (.int .i64 (-1)), .lit (.int .i64 1)], .agg [.lit (.int .i64 (-1)), .lit (.int .i64 (-1))], .agg [.lit (.int .i64 1), .lit (.int .i64 (-1))]]
def laid_caissa_ray_leaps {H : Type} : DataW H := .agg [.agg [.lit (.int .i64 1), .lit (.int .i64 2)], .agg [.lit (.int .i64 2), .lit (.int .i64 1)], .agg [.lit (.int .i64 2), .lit (.int .i64 (-1))], .agg [.lit (.int .i64 1), .lit (.int .i64 (-2))], .agg [.lit (.int .i64 (-1)), .lit (.int .i64 (-2))], .agg [.lit (.int .i64 (-2)), .lit (.int .i64 (-1))], .agg [.lit (.int .i64 (-2)), .lit (.int .i64 1)], .agg [.lit (.int .i64 (-1)), .lit (.int .i64 2)]]
def laid_caissa_position_full {H : Type} : DataW H := .agg [.lit (.int .i64 8), .lit (.int .i64 8)]

/-- 'caissalaw23.PackedGets': WHATEVER THE INPUT: true; the input reads as it did. -/
def packedGetsSpec : ChangeSpec := { name := "packedGets", fn := fun _ => fun
  | [d1, d2, d3] => { results := [.lit (.bool true)], args := [d1, d2, d3] }
  | _ => none }
def packedGetsRow : OpenClaim := { program := "ytddkhnnpeonbgaagreatdoor", sum := "8237291b1af957460990282c8b8e5d1e572734b107ebee0fa73af0a97c20a435", func := "caissa/caissalaw23.PackedGets", spec := "packedGets", inPlace := ["internal/abi.NoEscape", "internal/bytealg.MakeNoZero", "internal/bytealg.IndexByteString", "internal/bytealg.IndexString", "internal/bytealg.CountString"], unfollowed := true, recurses := true, named := ["internal/bytealg.MaxLen", "caissa/ray.leaps", "caissa/ray.diagonal", "caissa/ray.straight", "caissa/position.full"], apart := false, laid := [("caissa/ray.straight", laid_caissa_ray_straight), ("caissa/ray.diagonal", laid_caissa_ray_diagonal), ("caissa/ray.leaps", laid_caissa_ray_leaps), ("caissa/position.full", laid_caissa_position_full)] }
def PackedGetsSaid : Prop := packedGetsRow.holds Tryz.pinned (OpenSpec.ofChange packedGetsSpec)

/-- ITS FALSE NEIGHBOUR: 'it returns false'. Refute it at one input. -/
def packedGetsWrong : ChangeSpec := { name := "packedGets", fn := fun _ => fun
  | [d1, d2, d3] => { results := [.lit (.bool false)], args := [d1, d2, d3] }
  | _ => none }
def PackedGetsWrongFalsely : Prop := packedGetsRow.holds Tryz.pinned (OpenSpec.ofChange packedGetsWrong)

/-- 'caissalaw23.PackedHolds': WHATEVER THE INPUT: true; the input reads as it did. -/
def packedHoldsSpec : ChangeSpec := { name := "packedHolds", fn := fun _ => fun
  | [d1, d2, d3] => { results := [.lit (.bool true)], args := [d1, d2, d3] }
  | _ => none }
def packedHoldsRow : OpenClaim := { program := "ytddkhnnpeonbgaagreatdoor", sum := "8237291b1af957460990282c8b8e5d1e572734b107ebee0fa73af0a97c20a435", func := "caissa/caissalaw23.PackedHolds", spec := "packedHolds", inPlace := ["internal/abi.NoEscape", "internal/bytealg.MakeNoZero", "internal/bytealg.IndexByteString", "internal/bytealg.IndexString", "internal/bytealg.CountString"], unfollowed := true, recurses := true, named := ["internal/bytealg.MaxLen", "caissa/ray.leaps", "caissa/ray.diagonal", "caissa/ray.straight", "caissa/position.full"], apart := false, laid := [("caissa/ray.straight", laid_caissa_ray_straight), ("caissa/ray.diagonal", laid_caissa_ray_diagonal), ("caissa/ray.leaps", laid_caissa_ray_leaps), ("caissa/position.full", laid_caissa_position_full)] }
def PackedHoldsSaid : Prop := packedHoldsRow.holds Tryz.pinned (OpenSpec.ofChange packedHoldsSpec)

/-- ITS FALSE NEIGHBOUR: 'it returns false'. Refute it at one input. -/
def packedHoldsWrong : ChangeSpec := { name := "packedHolds", fn := fun _ => fun
  | [d1, d2, d3] => { results := [.lit (.bool false)], args := [d1, d2, d3] }
  | _ => none }
def PackedHoldsWrongFalsely : Prop := packedHoldsRow.holds Tryz.pinned (OpenSpec.ofChange packedHoldsWrong)

/- THE SECOND FORM. 'bulk': how many values and letters a reading holds, each counted each time it is reached (what is shared counts as often as it is met; a slice's spare places count too). A statement '..UptoSaid' is the law's where the arguments, and the package variables that the reading takes, are together of bulk at most 1048576: NARROWER than '..Said'. Prove '..Said' where nothing that the law and all that it calls make is longer than what came in: it says more and counts as full. Else prove '..UptoSaid'. A law counts once. -/
mutual
def uptoBulk {H : Type} : DataW H → Nat
  | .lit (.string bytes) => bytes.length + 1
  | .lit _ => 1
  | .nil => 1
  | .ptr d => uptoBulk d + 1
  | .slice elems spare => uptoBulkAll elems + uptoBulkAll spare + 1
  | .agg parts => uptoBulkAll parts + 1
  | .iface _ d => uptoBulk d + 1
  | .map entries => uptoBulkEntries entries + 1
  | .held _ => 1
def uptoBulkAll {H : Type} : List (DataW H) → Nat
  | [] => 0
  | d :: r => uptoBulk d + uptoBulkAll r
def uptoBulkEntries {H : Type} : List (Lit × DataW H) → Nat
  | [] => 0
  | x :: r => uptoBulkEntry x + uptoBulkEntries r
def uptoBulkEntry {H : Type} : Lit × DataW H → Nat
  | (.string bytes, d) => bytes.length + uptoBulk d + 1
  | (_, d) => uptoBulk d + 1
 end
def uptoSmall : (H : Type) → List (DataW H) → Bool := fun _ ds => decide (uptoBulkAll ds ≤ 1048576)
def OpenSpec.upto (s : _root_.Go.ChangeSpec) : _root_.Go.OpenSpec := { _root_.Go.OpenSpec.ofChange s with cond := some uptoSmall }

/-- 'caissalaw23.PackedGets', WHERE WHAT IT READS IS OF BULK AT MOST 1048576: true; the input reads as it did. -/
def packedGetsUptoRow : OpenClaim := { program := "ytddkhnnpeonbgaagreatdoor", sum := "8237291b1af957460990282c8b8e5d1e572734b107ebee0fa73af0a97c20a435", func := "caissa/caissalaw23.PackedGets", spec := "packedGets", inPlace := ["internal/abi.NoEscape", "internal/bytealg.MakeNoZero", "internal/bytealg.IndexByteString", "internal/bytealg.IndexString", "internal/bytealg.CountString"], unfollowed := true, recurses := true, named := ["internal/bytealg.MaxLen", "caissa/ray.leaps", "caissa/ray.diagonal", "caissa/ray.straight", "caissa/position.full"], apart := false, laid := [("caissa/ray.straight", laid_caissa_ray_straight), ("caissa/ray.diagonal", laid_caissa_ray_diagonal), ("caissa/ray.leaps", laid_caissa_ray_leaps), ("caissa/position.full", laid_caissa_position_full)], narrowed := true }
def PackedGetsUptoSaid : Prop := packedGetsUptoRow.holds Tryz.pinned (OpenSpec.upto packedGetsSpec)

/-- 'caissalaw23.PackedHolds', WHERE WHAT IT READS IS OF BULK AT MOST 1048576: true; the input reads as it did. -/
def packedHoldsUptoRow : OpenClaim := { program := "ytddkhnnpeonbgaagreatdoor", sum := "8237291b1af957460990282c8b8e5d1e572734b107ebee0fa73af0a97c20a435", func := "caissa/caissalaw23.PackedHolds", spec := "packedHolds", inPlace := ["internal/abi.NoEscape", "internal/bytealg.MakeNoZero", "internal/bytealg.IndexByteString", "internal/bytealg.IndexString", "internal/bytealg.CountString"], unfollowed := true, recurses := true, named := ["internal/bytealg.MaxLen", "caissa/ray.leaps", "caissa/ray.diagonal", "caissa/ray.straight", "caissa/position.full"], apart := false, laid := [("caissa/ray.straight", laid_caissa_ray_straight), ("caissa/ray.diagonal", laid_caissa_ray_diagonal), ("caissa/ray.leaps", laid_caissa_ray_leaps), ("caissa/position.full", laid_caissa_position_full)], narrowed := true }
def PackedHoldsUptoSaid : Prop := packedHoldsUptoRow.holds Tryz.pinned (OpenSpec.upto packedHoldsSpec)

end Rows
end Go.Proofs.YtddkhnnpeonbgaaGreatDoor
