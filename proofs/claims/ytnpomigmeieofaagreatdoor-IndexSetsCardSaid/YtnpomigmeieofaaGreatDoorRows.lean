/-
  NARROWER THAN 'FOR EVERY INPUT', by the rows' own cells (each row's printed sentence says how): IndexTexts: laid · IndexNumbers: laid · IndexPositions: laid · IndexSets: laid.
  DERIVED. THE GIVEN ROWS OF THIS SEAT. 4 by the template 'for every input the law returns true; each argument reads behind the call as it read before'; 0 by the template 'total and deterministic' (their statements: YtnpomigmeieofaaGreatDoorTotals.lean).
  GIVEN WITH THE SEED: the statements are not yours to turn. If you find one false, say at which input.
  Laid BY PROGRAM, IN A SANDBOX (cutbox-rows.mjs): the forced cells as the released guide's own fill.sh prints them over the translation c34b0877b5b716e1… (all of the seat's roots in one cut). By AI agents, Wed Nov 11 2026. No macro, syntax, notation, axiom, sorry.
-/
import Derived.Test.YtnpomigmeieofaaGreatDoorChecked
import GoSem.Claim
import GoSem.ClaimJoined
import GoSem.ClaimMapViews
import Derived.JoinedTies
import Derived.KernelRfl
namespace Go.Proofs.YtnpomigmeieofaaGreatDoor
/- THE CELL 'sum', in the pinned program and in every row, IS THE sha256 OF THE DUMP (.gsa) THAT YtnpomigmeieofaaGreatDoorProg.lean LOADS. Nothing in Lean hashes anything: it is a label: what it is worth is what the hold of that sum in a sandbox is worth. -/
noncomputable def Tryz.pinned : Pinned := { name := "ytnpomigmeieofaagreatdoor", sum := "c34b0877b5b716e12451e0622887ed25bbc07a32a42307df2ad044dd75c21652", checked := Tryz.checked }
namespace Rows
def none {H : Type} : Left H := { results := [], args := [] }

/- WHAT THE LISTED PACKAGE-LEVEL VARIABLES READ AS WHEN THE CALL BEGINS. Each datum BY PROGRAM (the guide's laid-datum.mjs) off the statement by which the dump's own 'gosem.cut.vars' lays the variable. In a bare row this is a premise. The card (YtnpomigmeieofaaGreatDoorCards.lean) ties it to the program's text. -/
def laid_caissa_ray_straight {H : Type} : DataW H := .agg [.agg [.lit (.int .i64 1), .lit (.int .i64 0)], .agg [.lit (.int .i64 0), .lit (.int .i64 1)], .agg [.lit (.int .i64 (-1)), .lit (.int .i64 0)], .agg [.lit (.int .i64 0), .lit (.int .i64 (-1))]]
def laid_caissa_ray_diagonal {H : Type} : DataW H := .agg [.agg [.lit (.int .i64 1), .lit (.int .i64 1)], .agg [.lit (.int .i64 (-1)), .lit (.int .i64 1)], .agg [.lit (.int .i64 (-1)), .lit (.int .i64 (-1))], .agg [.lit (.int .i64 1), .lit (.int .i64 (-1))]]
def laid_caissa_ray_leaps {H : Type} : DataW H := .agg [.agg [.lit (.int .i64 1), .lit (.int .i64 2)], .agg [.lit (.int .i64 2), .lit (.int .i64 1)], .agg [.lit (.int .i64 2), .lit (.int .i64 (-1))], .agg [.lit (.int .i64 1), .lit (.int .i64 (-2))], .agg [.lit (.int .i64 (-1)), .lit (.int .i64 (-2))], .agg [.lit (.int .i64 (-2)), .lit (.int .i64 (-1))], .agg [.lit (.int .i64 (-2)), .lit (.int .i64 1)], .agg [.lit (.int .i64 (-1)), .lit (.int .i64 2)]]
def laid_caissa_position_full {H : Type} : DataW H := .agg [.lit (.int .i64 8), .lit (.int .i64 8)]

/-- 'caissalaw20.IndexTexts': WHATEVER THE INPUT: true; the input reads as it did. -/
def indexTextsSpec : ChangeSpec := { name := "indexTexts", fn := fun _ => fun
  | [d1, d2] => { results := [.lit (.bool true)], args := [d1, d2] }
  | _ => none }
def indexTextsRow : OpenClaim := { program := "ytnpomigmeieofaagreatdoor", sum := "c34b0877b5b716e12451e0622887ed25bbc07a32a42307df2ad044dd75c21652", func := "caissa/caissalaw20.IndexTexts", spec := "indexTexts", inPlace := ["internal/abi.NoEscape", "internal/bytealg.MakeNoZero", "internal/bytealg.IndexByteString", "internal/bytealg.IndexString", "internal/bytealg.CountString", "internal/bytealg.abigen_runtime_cmpstring"], unfollowed := true, recurses := true, named := ["internal/bytealg.MaxLen", "caissa/ray.leaps", "caissa/ray.diagonal", "caissa/ray.straight", "caissa/position.full"], plainKeys := false, apart := false, laid := [("caissa/ray.straight", laid_caissa_ray_straight), ("caissa/ray.diagonal", laid_caissa_ray_diagonal), ("caissa/ray.leaps", laid_caissa_ray_leaps), ("caissa/position.full", laid_caissa_position_full)] }
def IndexTextsSaid : Prop := indexTextsRow.holds Tryz.pinned (OpenSpec.ofChange indexTextsSpec)

/-- ITS FALSE NEIGHBOUR: 'it returns false'. Refute it at one input. -/
def indexTextsWrong : ChangeSpec := { name := "indexTexts", fn := fun _ => fun
  | [d1, d2] => { results := [.lit (.bool false)], args := [d1, d2] }
  | _ => none }
def IndexTextsWrongFalsely : Prop := indexTextsRow.holds Tryz.pinned (OpenSpec.ofChange indexTextsWrong)

/-- 'caissalaw20.IndexNumbers': WHATEVER THE INPUT: true; the input reads as it did. -/
def indexNumbersSpec : ChangeSpec := { name := "indexNumbers", fn := fun _ => fun
  | [d] => { results := [.lit (.bool true)], args := [d] }
  | _ => none }
def indexNumbersRow : OpenClaim := { program := "ytnpomigmeieofaagreatdoor", sum := "c34b0877b5b716e12451e0622887ed25bbc07a32a42307df2ad044dd75c21652", func := "caissa/caissalaw20.IndexNumbers", spec := "indexNumbers", inPlace := ["internal/abi.NoEscape", "internal/bytealg.MakeNoZero", "internal/bytealg.IndexByteString", "internal/bytealg.IndexString", "internal/bytealg.CountString", "internal/bytealg.abigen_runtime_cmpstring"], unfollowed := true, recurses := true, named := ["internal/bytealg.MaxLen", "caissa/ray.leaps", "caissa/ray.diagonal", "caissa/ray.straight", "caissa/position.full"], plainKeys := false, apart := false, laid := [("caissa/ray.straight", laid_caissa_ray_straight), ("caissa/ray.diagonal", laid_caissa_ray_diagonal), ("caissa/ray.leaps", laid_caissa_ray_leaps), ("caissa/position.full", laid_caissa_position_full)] }
def IndexNumbersSaid : Prop := indexNumbersRow.holds Tryz.pinned (OpenSpec.ofChange indexNumbersSpec)

/-- ITS FALSE NEIGHBOUR: 'it returns false'. Refute it at one input. -/
def indexNumbersWrong : ChangeSpec := { name := "indexNumbers", fn := fun _ => fun
  | [d] => { results := [.lit (.bool false)], args := [d] }
  | _ => none }
def IndexNumbersWrongFalsely : Prop := indexNumbersRow.holds Tryz.pinned (OpenSpec.ofChange indexNumbersWrong)

/-- 'caissalaw20.IndexPositions': WHATEVER THE INPUT: true; the input reads as it did. -/
def indexPositionsSpec : ChangeSpec := { name := "indexPositions", fn := fun _ => fun
  | [d1, d2] => { results := [.lit (.bool true)], args := [d1, d2] }
  | _ => none }
def indexPositionsRow : OpenClaim := { program := "ytnpomigmeieofaagreatdoor", sum := "c34b0877b5b716e12451e0622887ed25bbc07a32a42307df2ad044dd75c21652", func := "caissa/caissalaw20.IndexPositions", spec := "indexPositions", inPlace := ["internal/abi.NoEscape", "internal/bytealg.MakeNoZero", "internal/bytealg.IndexByteString", "internal/bytealg.IndexString", "internal/bytealg.CountString", "internal/bytealg.abigen_runtime_cmpstring"], unfollowed := true, recurses := true, named := ["caissa/ray.leaps", "caissa/ray.diagonal", "caissa/ray.straight", "caissa/position.full", "internal/bytealg.MaxLen"], plainKeys := false, apart := false, laid := [("caissa/ray.straight", laid_caissa_ray_straight), ("caissa/ray.diagonal", laid_caissa_ray_diagonal), ("caissa/ray.leaps", laid_caissa_ray_leaps), ("caissa/position.full", laid_caissa_position_full)] }
def IndexPositionsSaid : Prop := indexPositionsRow.holds Tryz.pinned (OpenSpec.ofChange indexPositionsSpec)

/-- ITS FALSE NEIGHBOUR: 'it returns false'. Refute it at one input. -/
def indexPositionsWrong : ChangeSpec := { name := "indexPositions", fn := fun _ => fun
  | [d1, d2] => { results := [.lit (.bool false)], args := [d1, d2] }
  | _ => none }
def IndexPositionsWrongFalsely : Prop := indexPositionsRow.holds Tryz.pinned (OpenSpec.ofChange indexPositionsWrong)

/-- 'caissalaw20.IndexSets': WHATEVER THE INPUT: true; the input reads as it did. -/
def indexSetsSpec : ChangeSpec := { name := "indexSets", fn := fun _ => fun
  | [d] => { results := [.lit (.bool true)], args := [d] }
  | _ => none }
def indexSetsRow : OpenClaim := { program := "ytnpomigmeieofaagreatdoor", sum := "c34b0877b5b716e12451e0622887ed25bbc07a32a42307df2ad044dd75c21652", func := "caissa/caissalaw20.IndexSets", spec := "indexSets", inPlace := ["internal/abi.NoEscape", "internal/bytealg.MakeNoZero", "internal/bytealg.abigen_runtime_cmpstring", "internal/bytealg.IndexByteString", "internal/bytealg.IndexString", "internal/bytealg.CountString"], unfollowed := true, recurses := true, named := ["internal/bytealg.MaxLen", "caissa/ray.leaps", "caissa/ray.diagonal", "caissa/ray.straight", "caissa/position.full"], plainKeys := false, apart := false, laid := [("caissa/ray.straight", laid_caissa_ray_straight), ("caissa/ray.diagonal", laid_caissa_ray_diagonal), ("caissa/ray.leaps", laid_caissa_ray_leaps), ("caissa/position.full", laid_caissa_position_full)] }
def IndexSetsSaid : Prop := indexSetsRow.holds Tryz.pinned (OpenSpec.ofChange indexSetsSpec)

/-- ITS FALSE NEIGHBOUR: 'it returns false'. Refute it at one input. -/
def indexSetsWrong : ChangeSpec := { name := "indexSets", fn := fun _ => fun
  | [d] => { results := [.lit (.bool false)], args := [d] }
  | _ => none }
def IndexSetsWrongFalsely : Prop := indexSetsRow.holds Tryz.pinned (OpenSpec.ofChange indexSetsWrong)

/- THE SECOND FORM. 'bulk': how many values and letters a reading holds, each counted each time it is reached (what is shared counts as often as it is met; a slice's spare places count too). A statement '..UptoSaid' is the law's where the arguments, and the package variables that the reading takes, are together of bulk at most 1048576: NARROWER than '..Said'. Prove '..Said' where nothing that the law and all that it calls make is longer than what came in: it says more and counts as full. Else prove '..UptoSaid'. A law counts once. -/
mutual
def uptoBulk {H : Type} : DataW H → Nat
  | .lit (.string bytes) => bytes.length + 1
  | .lit _ => 1
  | .nil => 1
  | .ptr d => uptoBulk d + 1
  | .slice elems spare => uptoBulkAll elems + uptoBulkAll spare + 1
  | .agg parts => uptoBulkAll parts + 1
  | .iface _ d => uptoBulk d + 1
  | .map entries => uptoBulkEntries entries + 1
  | .held _ => 1
def uptoBulkAll {H : Type} : List (DataW H) → Nat
  | [] => 0
  | d :: r => uptoBulk d + uptoBulkAll r
def uptoBulkEntries {H : Type} : List (Lit × DataW H) → Nat
  | [] => 0
  | x :: r => uptoBulkEntry x + uptoBulkEntries r
def uptoBulkEntry {H : Type} : Lit × DataW H → Nat
  | (.string bytes, d) => bytes.length + uptoBulk d + 1
  | (_, d) => uptoBulk d + 1
 end
def uptoSmall : (H : Type) → List (DataW H) → Bool := fun _ ds => decide (uptoBulkAll ds ≤ 1048576)
def OpenSpec.upto (s : _root_.Go.ChangeSpec) : _root_.Go.OpenSpec := { _root_.Go.OpenSpec.ofChange s with cond := some uptoSmall }

/-- 'caissalaw20.IndexTexts', WHERE WHAT IT READS IS OF BULK AT MOST 1048576: true; the input reads as it did. -/
def indexTextsUptoRow : OpenClaim := { program := "ytnpomigmeieofaagreatdoor", sum := "c34b0877b5b716e12451e0622887ed25bbc07a32a42307df2ad044dd75c21652", func := "caissa/caissalaw20.IndexTexts", spec := "indexTexts", inPlace := ["internal/abi.NoEscape", "internal/bytealg.MakeNoZero", "internal/bytealg.IndexByteString", "internal/bytealg.IndexString", "internal/bytealg.CountString", "internal/bytealg.abigen_runtime_cmpstring"], unfollowed := true, recurses := true, named := ["internal/bytealg.MaxLen", "caissa/ray.leaps", "caissa/ray.diagonal", "caissa/ray.straight", "caissa/position.full"], plainKeys := false, apart := false, laid := [("caissa/ray.straight", laid_caissa_ray_straight), ("caissa/ray.diagonal", laid_caissa_ray_diagonal), ("caissa/ray.leaps", laid_caissa_ray_leaps), ("caissa/position.full", laid_caissa_position_full)], narrowed := true }
def IndexTextsUptoSaid : Prop := indexTextsUptoRow.holds Tryz.pinned (OpenSpec.upto indexTextsSpec)

/-- 'caissalaw20.IndexNumbers', WHERE WHAT IT READS IS OF BULK AT MOST 1048576: true; the input reads as it did. -/
def indexNumbersUptoRow : OpenClaim := { program := "ytnpomigmeieofaagreatdoor", sum := "c34b0877b5b716e12451e0622887ed25bbc07a32a42307df2ad044dd75c21652", func := "caissa/caissalaw20.IndexNumbers", spec := "indexNumbers", inPlace := ["internal/abi.NoEscape", "internal/bytealg.MakeNoZero", "internal/bytealg.IndexByteString", "internal/bytealg.IndexString", "internal/bytealg.CountString", "internal/bytealg.abigen_runtime_cmpstring"], unfollowed := true, recurses := true, named := ["internal/bytealg.MaxLen", "caissa/ray.leaps", "caissa/ray.diagonal", "caissa/ray.straight", "caissa/position.full"], plainKeys := false, apart := false, laid := [("caissa/ray.straight", laid_caissa_ray_straight), ("caissa/ray.diagonal", laid_caissa_ray_diagonal), ("caissa/ray.leaps", laid_caissa_ray_leaps), ("caissa/position.full", laid_caissa_position_full)], narrowed := true }
def IndexNumbersUptoSaid : Prop := indexNumbersUptoRow.holds Tryz.pinned (OpenSpec.upto indexNumbersSpec)

/-- 'caissalaw20.IndexPositions', WHERE WHAT IT READS IS OF BULK AT MOST 1048576: true; the input reads as it did. -/
def indexPositionsUptoRow : OpenClaim := { program := "ytnpomigmeieofaagreatdoor", sum := "c34b0877b5b716e12451e0622887ed25bbc07a32a42307df2ad044dd75c21652", func := "caissa/caissalaw20.IndexPositions", spec := "indexPositions", inPlace := ["internal/abi.NoEscape", "internal/bytealg.MakeNoZero", "internal/bytealg.IndexByteString", "internal/bytealg.IndexString", "internal/bytealg.CountString", "internal/bytealg.abigen_runtime_cmpstring"], unfollowed := true, recurses := true, named := ["caissa/ray.leaps", "caissa/ray.diagonal", "caissa/ray.straight", "caissa/position.full", "internal/bytealg.MaxLen"], plainKeys := false, apart := false, laid := [("caissa/ray.straight", laid_caissa_ray_straight), ("caissa/ray.diagonal", laid_caissa_ray_diagonal), ("caissa/ray.leaps", laid_caissa_ray_leaps), ("caissa/position.full", laid_caissa_position_full)], narrowed := true }
def IndexPositionsUptoSaid : Prop := indexPositionsUptoRow.holds Tryz.pinned (OpenSpec.upto indexPositionsSpec)

/-- 'caissalaw20.IndexSets', WHERE WHAT IT READS IS OF BULK AT MOST 1048576: true; the input reads as it did. -/
def indexSetsUptoRow : OpenClaim := { program := "ytnpomigmeieofaagreatdoor", sum := "c34b0877b5b716e12451e0622887ed25bbc07a32a42307df2ad044dd75c21652", func := "caissa/caissalaw20.IndexSets", spec := "indexSets", inPlace := ["internal/abi.NoEscape", "internal/bytealg.MakeNoZero", "internal/bytealg.abigen_runtime_cmpstring", "internal/bytealg.IndexByteString", "internal/bytealg.IndexString", "internal/bytealg.CountString"], unfollowed := true, recurses := true, named := ["internal/bytealg.MaxLen", "caissa/ray.leaps", "caissa/ray.diagonal", "caissa/ray.straight", "caissa/position.full"], plainKeys := false, apart := false, laid := [("caissa/ray.straight", laid_caissa_ray_straight), ("caissa/ray.diagonal", laid_caissa_ray_diagonal), ("caissa/ray.leaps", laid_caissa_ray_leaps), ("caissa/position.full", laid_caissa_position_full)], narrowed := true }
def IndexSetsUptoSaid : Prop := indexSetsUptoRow.holds Tryz.pinned (OpenSpec.upto indexSetsSpec)

end Rows
end Go.Proofs.YtnpomigmeieofaaGreatDoor
