/-
  No cell of these rows narrows 'for every input' (looked for: loops, veiled, ifaces, maps, wideKeys, modest, calm, conditions, laid).
  DERIVED. THE GIVEN ROWS OF THIS SEAT. 3 by the template 'for every input the law returns true; each argument reads behind the call as it read before'; 0 by the template 'total and deterministic' (their statements: YtddkhnnpeonbgaaTotals.lean).
  GIVEN WITH THE SEED: the statements are not yours to turn. If you find one false, say at which input.
  Laid BY PROGRAM, IN A SANDBOX (cutbox-rows.mjs): the forced cells as the released guide's own fill.sh prints them over the translation eb6d5e3381b6250b… (all of the seat's roots in one cut). By AI agents, Wed Nov 11 2026. No macro, syntax, notation, axiom, sorry.
-/
import Derived.Test.YtddkhnnpeonbgaaChecked
import GoSem.Claim
import GoSem.ClaimJoined
import GoSem.ClaimMapViews
import Derived.JoinedTies
import Derived.KernelRfl
namespace Go.Proofs.Ytddkhnnpeonbgaa
/- THE CELL 'sum', in the pinned program and in every row, IS THE sha256 OF THE DUMP (.gsa) THAT YtddkhnnpeonbgaaProg.lean LOADS. Nothing in Lean hashes anything: it is a label: what it is worth is what the hold of that sum in a sandbox is worth. -/
noncomputable def Try.pinned : Pinned := { name := "ytddkhnnpeonbgaa", sum := "eb6d5e3381b6250b6cbc173c5e6a0f23dbb7e6303f03686680c89565b2fef59a", checked := Try.checked }
namespace Rows
def none {H : Type} : Left H := { results := [], args := [] }

/-- 'caissalaw23.PackedPacks': WHATEVER THE INPUT: true; the input reads as it did. -/
def packedPacksSpec : ChangeSpec := { name := "packedPacks", fn := fun _ => fun
  | [d] => { results := [.lit (.bool true)], args := [d] }
  | _ => none }
def packedPacksRow : OpenClaim := { program := "ytddkhnnpeonbgaa", sum := "eb6d5e3381b6250b6cbc173c5e6a0f23dbb7e6303f03686680c89565b2fef59a", func := "caissa/caissalaw23.PackedPacks", spec := "packedPacks", inPlace := ["internal/abi.NoEscape", "internal/bytealg.MakeNoZero", "internal/bytealg.IndexByteString", "internal/bytealg.IndexString", "internal/bytealg.CountString"], unfollowed := true, recurses := true, named := ["internal/bytealg.MaxLen"], apart := false }
def PackedPacksSaid : Prop := packedPacksRow.holds Try.pinned (OpenSpec.ofChange packedPacksSpec)

/-- ITS FALSE NEIGHBOUR: 'it returns false'. Refute it at one input. -/
def packedPacksWrong : ChangeSpec := { name := "packedPacks", fn := fun _ => fun
  | [d] => { results := [.lit (.bool false)], args := [d] }
  | _ => none }
def PackedPacksWrongFalsely : Prop := packedPacksRow.holds Try.pinned (OpenSpec.ofChange packedPacksWrong)

/-- 'caissalaw23.PackedUnpacks': WHATEVER THE INPUT: true; the input reads as it did. -/
def packedUnpacksSpec : ChangeSpec := { name := "packedUnpacks", fn := fun _ => fun
  | [d] => { results := [.lit (.bool true)], args := [d] }
  | _ => none }
def packedUnpacksRow : OpenClaim := { program := "ytddkhnnpeonbgaa", sum := "eb6d5e3381b6250b6cbc173c5e6a0f23dbb7e6303f03686680c89565b2fef59a", func := "caissa/caissalaw23.PackedUnpacks", spec := "packedUnpacks", inPlace := ["internal/abi.NoEscape", "internal/bytealg.MakeNoZero", "internal/bytealg.IndexByteString", "internal/bytealg.IndexString", "internal/bytealg.CountString"], unfollowed := true, recurses := true, named := ["internal/bytealg.MaxLen"], apart := false }
def PackedUnpacksSaid : Prop := packedUnpacksRow.holds Try.pinned (OpenSpec.ofChange packedUnpacksSpec)

/-- ITS FALSE NEIGHBOUR: 'it returns false'. Refute it at one input. -/
def packedUnpacksWrong : ChangeSpec := { name := "packedUnpacks", fn := fun _ => fun
  | [d] => { results := [.lit (.bool false)], args := [d] }
  | _ => none }
def PackedUnpacksWrongFalsely : Prop := packedUnpacksRow.holds Try.pinned (OpenSpec.ofChange packedUnpacksWrong)

/-- 'caissalaw23.PackedOutlines': WHATEVER THE INPUT: true; the input reads as it did. -/
def packedOutlinesSpec : ChangeSpec := { name := "packedOutlines", fn := fun _ => fun
  | [d] => { results := [.lit (.bool true)], args := [d] }
  | _ => none }
def packedOutlinesRow : OpenClaim := { program := "ytddkhnnpeonbgaa", sum := "eb6d5e3381b6250b6cbc173c5e6a0f23dbb7e6303f03686680c89565b2fef59a", func := "caissa/caissalaw23.PackedOutlines", spec := "packedOutlines", inPlace := ["internal/abi.NoEscape", "internal/bytealg.MakeNoZero", "internal/bytealg.IndexByteString", "internal/bytealg.IndexString", "internal/bytealg.CountString"], unfollowed := true, recurses := true, named := ["internal/bytealg.MaxLen"], apart := false }
def PackedOutlinesSaid : Prop := packedOutlinesRow.holds Try.pinned (OpenSpec.ofChange packedOutlinesSpec)

/-- ITS FALSE NEIGHBOUR: 'it returns false'. Refute it at one input. -/
def packedOutlinesWrong : ChangeSpec := { name := "packedOutlines", fn := fun _ => fun
  | [d] => { results := [.lit (.bool false)], args := [d] }
  | _ => none }
def PackedOutlinesWrongFalsely : Prop := packedOutlinesRow.holds Try.pinned (OpenSpec.ofChange packedOutlinesWrong)

/- THE SECOND FORM. 'bulk': how many values and letters a reading holds, each counted each time it is reached (what is shared counts as often as it is met; a slice's spare places count too). A statement '..UptoSaid' is the law's where the arguments, and the package variables that the reading takes, are together of bulk at most 1048576: NARROWER than '..Said'. Prove '..Said' where nothing that the law and all that it calls make is longer than what came in: it says more and counts as full. Else prove '..UptoSaid'. A law counts once. -/
mutual
def uptoBulk {H : Type} : DataW H → Nat
  | .lit (.string bytes) => bytes.length + 1
  | .lit _ => 1
  | .nil => 1
  | .ptr d => uptoBulk d + 1
  | .slice elems spare => uptoBulkAll elems + uptoBulkAll spare + 1
  | .agg parts => uptoBulkAll parts + 1
  | .iface _ d => uptoBulk d + 1
  | .map entries => uptoBulkEntries entries + 1
  | .held _ => 1
def uptoBulkAll {H : Type} : List (DataW H) → Nat
  | [] => 0
  | d :: r => uptoBulk d + uptoBulkAll r
def uptoBulkEntries {H : Type} : List (Lit × DataW H) → Nat
  | [] => 0
  | x :: r => uptoBulkEntry x + uptoBulkEntries r
def uptoBulkEntry {H : Type} : Lit × DataW H → Nat
  | (.string bytes, d) => bytes.length + uptoBulk d + 1
  | (_, d) => uptoBulk d + 1
 end
def uptoSmall : (H : Type) → List (DataW H) → Bool := fun _ ds => decide (uptoBulkAll ds ≤ 1048576)
def OpenSpec.upto (s : _root_.Go.ChangeSpec) : _root_.Go.OpenSpec := { _root_.Go.OpenSpec.ofChange s with cond := some uptoSmall }

/-- 'caissalaw23.PackedPacks', WHERE WHAT IT READS IS OF BULK AT MOST 1048576: true; the input reads as it did. -/
def packedPacksUptoRow : OpenClaim := { program := "ytddkhnnpeonbgaa", sum := "eb6d5e3381b6250b6cbc173c5e6a0f23dbb7e6303f03686680c89565b2fef59a", func := "caissa/caissalaw23.PackedPacks", spec := "packedPacks", inPlace := ["internal/abi.NoEscape", "internal/bytealg.MakeNoZero", "internal/bytealg.IndexByteString", "internal/bytealg.IndexString", "internal/bytealg.CountString"], unfollowed := true, recurses := true, named := ["internal/bytealg.MaxLen"], apart := false, narrowed := true }
def PackedPacksUptoSaid : Prop := packedPacksUptoRow.holds Try.pinned (OpenSpec.upto packedPacksSpec)

/-- 'caissalaw23.PackedUnpacks', WHERE WHAT IT READS IS OF BULK AT MOST 1048576: true; the input reads as it did. -/
def packedUnpacksUptoRow : OpenClaim := { program := "ytddkhnnpeonbgaa", sum := "eb6d5e3381b6250b6cbc173c5e6a0f23dbb7e6303f03686680c89565b2fef59a", func := "caissa/caissalaw23.PackedUnpacks", spec := "packedUnpacks", inPlace := ["internal/abi.NoEscape", "internal/bytealg.MakeNoZero", "internal/bytealg.IndexByteString", "internal/bytealg.IndexString", "internal/bytealg.CountString"], unfollowed := true, recurses := true, named := ["internal/bytealg.MaxLen"], apart := false, narrowed := true }
def PackedUnpacksUptoSaid : Prop := packedUnpacksUptoRow.holds Try.pinned (OpenSpec.upto packedUnpacksSpec)

/-- 'caissalaw23.PackedOutlines', WHERE WHAT IT READS IS OF BULK AT MOST 1048576: true; the input reads as it did. -/
def packedOutlinesUptoRow : OpenClaim := { program := "ytddkhnnpeonbgaa", sum := "eb6d5e3381b6250b6cbc173c5e6a0f23dbb7e6303f03686680c89565b2fef59a", func := "caissa/caissalaw23.PackedOutlines", spec := "packedOutlines", inPlace := ["internal/abi.NoEscape", "internal/bytealg.MakeNoZero", "internal/bytealg.IndexByteString", "internal/bytealg.IndexString", "internal/bytealg.CountString"], unfollowed := true, recurses := true, named := ["internal/bytealg.MaxLen"], apart := false, narrowed := true }
def PackedOutlinesUptoSaid : Prop := packedOutlinesUptoRow.holds Try.pinned (OpenSpec.upto packedOutlinesSpec)

end Rows
end Go.Proofs.Ytddkhnnpeonbgaa
