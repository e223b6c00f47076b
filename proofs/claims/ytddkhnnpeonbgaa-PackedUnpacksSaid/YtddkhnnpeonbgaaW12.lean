import Derived.Test.YtddkhnnpeonbgaaW11
import Derived.Test.YtddkhnnpeonbgaaB2
import Derived.Deep.RegionWith
import Derived.Test.YtddkhnnpeonbgaaK4
namespace Go.Proofs.Ytddkhnnpeonbgaa
open Go.RowKit

theorem Text_any (m : Men) (w : World) : Calls Try.prog 35 #[.agg m.cs.toArray] w fun e w' => e = .returned (.tuple (if validB m = true then #[.string (str (textL m)), .int .i64 0] else #[.string (str []), .int .i64 2])) ∧ Below w.heap.size w w' := by
  have hM0 : HasO (w.alloc (.cells m.cs.toArray 26)) w.heap.size (.cells m.cs.toArray 26 (0, 0)) := HasO.new _ _
  go_enter Try.func35, Try.ntmps35
  rcases hv : validB m with _ | _
  · go_wp2_with fail
    refine (valid_any m _).mono ?_
    rintro e w1 ⟨rfl, hb1⟩
    go_wp2_with fail
    go_ret2
    exact ⟨rfl, below_call (below_box w _) (by simp) hb1⟩
  · have hV := Lib.hid hv
    go_wp2_with fail
    refine (valid_any m _).mono ?_
    rintro e w1 ⟨rfl, hb1⟩
    have hb := below_call (below_box w _) (by simp) hb1
    have hc := (hM0.call hb1).cells
    clear hb1 hM0
    go_wp2_with fail
    refine (text_any m _ hV).mono ?_
    rintro e w2 ⟨rfl, hb2⟩
    go_wp2_with fail
    go_ret2
    exact ⟨rfl, below_call hb hb.size hb2⟩

/-- the library's variable that Index reads -/
def MaxOk (w : World) : Prop := ∃ m, w.cell? ⟨0, 0, none⟩ = some (.int .i64 m) ∧ 0 < w.heap.size
theorem MaxOk.call {w w' : World} (h : MaxOk w) {B : Nat} (hb : Below B w w') (hB : 0 < B) : MaxOk w' := by
  obtain ⟨m, h1, h2⟩ := h
  exact ⟨m, (hb.cell (p := ⟨0, 0, none⟩) hB).trans h1, Nat.lt_of_lt_of_le h2 hb.size⟩
theorem str_list (l : List UInt8) : (str l).data.toList = l := rfl
theorem str_list2 (l : List UInt8) : (⟨l.toArray⟩ : ByteArray) = str l := rfl

theorem cut_any (s sep : List UInt8) (w : World) (hs : s.length ≤ 2000000) (hm : MaxOk w) : Calls Try.prog 70 #[.string (str s), .string (str sep)] w fun e w' =>
    e = .returned (.tuple #[.string (str (Lib.cut s sep).1), .string (str (Lib.cut s sep).2.1), .bool (Lib.cut s sep).2.2]) ∧ ∃ n, w.drewN n = w' := by
  obtain ⟨m, hm, _⟩ := hm
  refine (Try.strings_Cut (str s) (str sep) m w (by rw [str_size]; omega) hm).mono ?_
  rintro e w' ⟨rfl, n, rfl⟩
  exact ⟨rfl, n, rfl⟩
theorem count_any1 (s : List UInt8) (c : UInt8) (w : World) (hs : s.length ≤ 2000000) (hm : MaxOk w) : Calls Try.prog 71 #[.string (str s), .string (str [c])] w fun e w' =>
    e = .returned (.int .i64 (Lib.count s [c] : Nat)) ∧ w = w' := by
  obtain ⟨m, hm, _⟩ := hm
  refine (Try.strings_Count_any (str s) (str [c]) m w (by rw [str_size]; omega) hm (by rw [str_size]; simp)).mono ?_
  rintro e w' ⟨rfl, rfl⟩
  exact ⟨rfl, rfl⟩
end Go.Proofs.Ytddkhnnpeonbgaa
