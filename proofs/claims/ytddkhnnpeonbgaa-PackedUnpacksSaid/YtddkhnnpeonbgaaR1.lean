import Derived.Test.YtddkhnnpeonbgaaW15
import Derived.Test.YtddkhnnpeonbgaaW12
import Derived.Test.YtddkhnnpeonbgaaB2
import Derived.Test.YtddkhnnpeonbgaaRows
import Derived.HandedShaped
import Derived.ProofKit
import Derived.Shelf.Vars
namespace Go.Proofs.Ytddkhnnpeonbgaa
open Go.ChangeShapes Go.WideShapes Go.ChangeAt Go.RowKit

theorem Try.own : ownKnob Try.prog.godebug = none := by kernel_rfl
theorem Try.laidOut : laidOutB Try.prog = true := by kernel_rfl
theorem Try.cells5 : Try.prog.cellsOf 5 = 1 := by kernel_rfl
theorem byte_of_wf {x : Int} (h : (Lit.int .u8 x).wf = true) : 0 ≤ x ∧ x < 256 := by
  have h1 : IntKind.u8.min = 0 := rfl
  have h2 : IntKind.u8.max = 255 := rfl
  simp only [Lit.wf, Bool.and_eq_true, decide_eq_true_eq] at h
  omega
theorem cell_lt {w : World} {a : Addr} {v : Value} (h : w.cell? a = some v) : a.block < w.heap.size ∧ a.spot = none := by
  unfold World.cell? at h
  split at h
  · rename_i e
    refine ⟨(Array.getElem?_eq_some_iff.1 e).1, ?_⟩
    split at h
    · cases h
    · rename_i e2; simpa using e2
  · cases h
theorem arr_of {k : IntKind} {w : World} {a : Addr} {n : Nat} {zs : List Int} (hn : n ≤ zs.length) (hcell : ∀ i, i < zs.length → w.cell? (a.add i) = some (.int k (zs.getD i 0))) : Arr k w (some a) (zs.take n) := by
  by_cases h0 : n = 0
  · subst h0; exact .inl (by simp)
  · obtain ⟨b, o, s⟩ := a
    have h1 := hcell 0 (by omega)
    obtain ⟨h2, h3⟩ := cell_lt h1
    simp [Addr.add] at h2 h3
    subst h3
    refine .inr ⟨b, o, rfl, h2, fun j hj => ?_⟩
    rw [List.length_take] at hj
    have hj2 := hcell j (by omega)
    have e : (⟨b, o, none⟩ : Addr).add j = ⟨b, o + j, none⟩ := by
      unfold Addr.add
      split
      · rename_i e; subst e; rfl
      · rfl
    rw [e] at hj2
    rw [hj2, List.getElem?_take_of_lt (by omega)]
    simp [List.getD]
theorem max_of {w : World} (h : w.ShapedOpen Try.prog) : MaxOk w := by
  obtain ⟨m, hm⟩ := Go.Proofs.cell_of_shapedOpen_int (g := 0) (zero := #[.int .i64 0]) (t := 3) h (of_decide_eq_true (by kernel_rfl)) (by kernel_rfl) rfl (by kernel_rfl) (by kernel_rfl) Try.underlying3
  exact ⟨m, hm, (cell_lt hm).1⟩
end Go.Proofs.Ytddkhnnpeonbgaa
