import Derived.Test.YtddkhnnpeonbgaaW2
import Derived.Deep.RegionHeld3
namespace Go.Proofs.Ytddkhnnpeonbgaa
open Go.RowKit

def Rd2 (w : World) (B : Nat) (x y : Value) : Prop := w.cell? ⟨B, 0, none⟩ = some x ∧ w.cell? ⟨B, 1, none⟩ = some y

theorem count_any (m : Men) (w : World) (hm : Hid (validB m = true)) : Calls Try.prog 60 #[.agg m.cs.toArray] w fun e w' => e = .returned (.int .i64 (countN m)) ∧ Below w.heap.size w w' := by
  go_enter Try.func60, Try.ntmps60
  go_wp2_with fail
  have hM0 : HasO (w.alloc (.cells m.cs.toArray 26)) w.heap.size (.cells m.cs.toArray 26 (0, 0)) := HasO.new _ _
  have hb0 : Below w.heap.size w (w.alloc (.cells m.cs.toArray 26)) := below_box _ _
  have c0 := hM0.cells 0
  have c1 := hM0.cells 1
  generalize w.alloc (.cells m.cs.toArray 26) = wq at hM0 hb0 c0 c1
  go_region_held3 (fun w' => w'.cell? ⟨w.heap.size, 0, none⟩ = some (.int .i64 m.f) ∧ w'.cell? ⟨w.heap.size, 1, none⟩ = some (.int .i64 m.r)) (first | exact ⟨(hw.1.cell (p := ⟨w.heap.size, 0, none⟩) hM0.lt).trans c0, (hw.1.cell (p := ⟨w.heap.size, 1, none⟩) hM0.lt).trans c1⟩ | go_keep)
    (first | (go_at_call 72; refine (ways_any _).mono ?_; rintro e w' ⟨g, rfl, hw⟩))
  obtain ⟨hsq, hq1, hq2⟩ := validB_sq hm.out
  have hw1 := below_undrew hw.1
  have hb1 := below_call hb0 hb0.size hw1
  have hM1 := hM0.call (w := wq) hw1
  have hz1 := hw.1.size
  have hz0 := hM0.lt
  clear hM0 c0 c1
  have e1 : IntKind.i64.wrap (m.f * m.r) = (m.sq : Int) := by rw [hsq]; exact IntWalk.i64_in _ (by omega)
  have e2 : wrap64 (2 * (m.sq : Int) * (m.sq : Int)) = (m.prod 0 : Int) := by
    have := prod_bd hm.out (k := 0) (by omega)
    rw [show (2 * (m.sq : Int) * (m.sq : Int)) = (m.prod 0 : Int) from by simp [Men.prod]]
    exact IntWalk.wrap64_in _ (by omega)
  replace hsq := Lib.hid hsq
  rw [e1]
  clear e1
  have hc := hM1.cells
  go_wp2_with fail
  rw [e2]
  refine (groups_any m _).mono ?_
  rintro e w2 ⟨v, rfl, hown, hb2⟩
  obtain ⟨gg, cap, rfl, hgg, hgl, hgc⟩ := grp_slice hown
  have hb3 := below_call hb1 hb1.size hb2
  have hwc : ∀ {w'' : World}, Below w2.heap.size w2 w'' → ∀ {n k : Nat}, n ≤ 64 → k ≤ 4 → w''.cell? ⟨g, n * 5 + k, none⟩ = some (.int .i64 (ch n k)) := fun hb => ways_cell hw (below_call hb2 hb2.size hb)
  have hgl2 : g < w2.heap.size := Nat.lt_of_lt_of_le hw.2.2.1 hb2.size
  clear hc hM1 hw hown e2 hb2 hw1
  go_wp2_with fail
  go_loopg [5, 23] 10 (fun q n i wr => ∃ k, q + k = 10 ∧ n = .int .i64 (m.prod k) ∧ i = .int .i64 k ∧ Below w2.heap.size w2 wr)
  case atStart => exact ⟨0, rfl, rfl, rfl, Below.refl _ _⟩
  case round =>
    obtain ⟨k, hg, rfl, rfl, hb⟩ := hrel
    by_cases hk : k < 10
    · have hkk : (k : Int) < 10 := by omega
      have hc1 := (hb.cell (p := ⟨gg, k * 2, none⟩) hgl).trans (hgc k hk).1
      have hc2 := (hb.cell (p := ⟨gg, k * 2 + 1, none⟩) hgl).trans (hgc k hk).2
      have hgb := grp_bd (validB_ok hm.out) hk
      have hc3 := hwc hb (n := m.sq) (k := (m.grp k).toNat) hq2 (by omega)
      have hp := prod_bd hm.out (k := k) (by omega)
      have hp1 := prod_bd hm.out (k := k + 1) (by omega)
      have hz := hb.size
      have hl1 : gg < wr.heap.size := by omega
      have hl2 : g < wr.heap.size := by omega
      have hgs : m.grp k < 5 := by omega
      have e3 : wrap64 ((m.prod k : Int) * (ch m.sq (m.grp k).toNat : Int)) = (m.prod (k + 1) : Int) := by
        rw [show ((m.prod k : Int) * (ch m.sq (m.grp k).toNat : Int)) = (m.prod (k + 1) : Int) from by simp [Men.prod]]
        exact IntWalk.wrap64_in _ (by omega)
      replace e3 := Lib.hid e3
      go_wp2_with fail
      go_quiet (fail)
      go_wp2_with fail
      rw [e3.out]
      go_roundg (gk - 1)
      case measure => omega
      case rel => exact ⟨k + 1, by omega, rfl, by go_num, below_drewN (hb.alloc hb.size _) _⟩
    · obtain rfl : k = 10 := by omega
      go_wp2_with fail
      go_ret
      exact ⟨rfl, below_call hb3 hb3.size hb⟩

theorem Count_any (m : Men) (w : World) : Calls Try.prog 49 #[.agg m.cs.toArray] w fun e w' => e = .returned (.tuple #[.int .i64 (cntE m).1, .int .i64 (cntE m).2]) ∧ Below w.heap.size w w' := by
  go_enter Try.func49, Try.ntmps49
  rcases hv : validB m with _ | _
  · have he := Lib.hid (show cntE m = (0, 2) by simp [cntE, hv])
    go_wp2_with fail
    refine (valid_any m _).mono ?_
    rintro e w1 ⟨rfl, hb1⟩
    have hb := below_call (below_box w _) (by simp) hb1
    clear hb1
    go_wp2_with fail
    go_ret2
    exact ⟨by rw [he.out]; rfl, hb⟩
  · have hV := Lib.hid hv
    go_wp2_with fail
    refine (valid_any m _).mono ?_
    rintro e w1 ⟨rfl, hb1⟩
    have hb := below_call (below_box w _) (by simp) hb1
    have hM := (HasO.new w (.cells m.cs.toArray 26)).call hb1
    have hc := hM.cells
    have hz := hb1.size
    clear hb1
    go_wp2_with fail
    refine (count_any m _ hV).mono ?_
    rintro e w2 ⟨rfl, hb2⟩
    have hb := below_call hb hb.size hb2
    replace hM := hM.call hb2
    replace hc := hM.cells
    replace hz := Nat.le_trans hz hb2.size
    clear hb2
    by_cases h : countN m ≤ 1048576
    · have he := Lib.hid (show cntE m = ((countN m : Int), 0) by simp [cntE, hv, h])
      go_wp2_with fail
      refine (count_any m _ hV).mono ?_
      rintro e w3 ⟨rfl, hb3⟩
      have hb := below_call hb hb.size hb3
      clear hb3
      go_wp2_with fail
      go_ret2
      exact ⟨by rw [he.out]; rfl, hb⟩
    · have he := Lib.hid (show cntE m = (0, 7) by simp [cntE, hv, h])
      go_wp2_with fail
      go_ret2
      exact ⟨by rw [he.out]; rfl, hb⟩
end Go.Proofs.Ytddkhnnpeonbgaa
