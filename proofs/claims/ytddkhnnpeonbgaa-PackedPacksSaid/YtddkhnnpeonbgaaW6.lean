import Derived.Test.YtddkhnnpeonbgaaW5
namespace Go.Proofs.Ytddkhnnpeonbgaa
open Go.RowKit

abbrev five5 (g : Nat → Int) : List Value := [.int .i64 (g 0), .int .i64 (g 1), .int .i64 (g 2), .int .i64 (g 3), .int .i64 (g 4)]

theorem side_any2 (g : Nat → Int) (hg : ∀ j, j < 5 → 0 ≤ g j ∧ g j ≤ 4) (w : World) : Calls Try.prog 44 #[.agg (five5 g).toArray] w fun e w' => e = .returned (.string (str (sideL g))) ∧ Below w.heap.size w w' := by
  have hb0 := below_box w (.cells (five5 g).toArray 24)
  have hM0 : HasO (w.alloc (.cells (five5 g).toArray 24)) w.heap.size (.cells (five5 g).toArray 24 (0, 0)) := HasO.new _ _
  replace hg := Lib.hid hg
  go_enter Try.func44, Try.ntmps44
  go_wp2_with fail
  go_loopg [3, 4] 5 (fun q s i wr => ∃ j, q + j = 5 ∧ s = .string (str (sideN g j)) ∧ i = .int .i64 (4 - (j : Int)) ∧ Below w.heap.size w wr ∧ HasO wr w.heap.size (.cells (five5 g).toArray 24 (0, 0)))
  case atStart => exact ⟨0, rfl, rfl, rfl, hb0, hM0⟩
  case round =>
    clear hM0 hb0
    obtain ⟨j, hq, rfl, rfl, hb, hM⟩ := hrel
    obtain ⟨g1, hg1⟩ : ∃ x, x = gk := ⟨_, rfl⟩
    subst hg1
    by_cases hj : j < 5
    · have hjj : (j : Int) < 5 := by omega
      have hc := hM.cells (4 - j)
      have hv : (five5 g).toArray[4 - j]? = some (.int .i64 (g (4 - j))) := by rcases five hj with rfl | rfl | rfl | rfl | rfl <;> rfl
      rw [hv] at hc
      go_wp2_with fail
      go_loopg [3, 5] 4 (fun q s i wr => ∃ k : Nat, q + k = 4 ∧ s = .string (str (sideN g j ++ List.replicate k (pnL[4 - j]?.getD 0))) ∧ i = .int .i64 (k : Int) ∧ (k : Int) ≤ g (4 - j) ∧ Below w.heap.size w wr ∧ HasO wr w.heap.size (.cells (five5 g).toArray 24 (0, 0)))
      case atStart => exact ⟨0, rfl, by simp, rfl, (hg.out _ (by omega)).1, hb, hM⟩
      case round =>
        clear hb hM hc
        obtain ⟨k, hq2, rfl, rfl, hkg, hb, hM⟩ := hrel
        have hc := hM.cells (4 - j)
        rw [hv] at hc
        have hgb := hg.out (4 - j) (by omega)
        by_cases hk : (k : Int) < g (4 - j)
        · have hl : (str (sideN g j ++ List.replicate k (pnL[4 - j]?.getD 0))).size ≤ 100 := by
            have := sideN_len hg.out (j := j) (by omega)
            rw [str_size]; simp; omega
          have hst := Lib.hid (sideN_step (sideN g j) k (i := 4 - j) (by omega))
          go_wp2_with fail
          go_roundg (gk - 1)
          case measure => omega
          case rel => exact ⟨k + 1, by omega, by rw [hst.out], by go_num, by omega, hb, hM⟩
        · go_wp2_with fail
          have e : sideN g j ++ List.replicate k (pnL[4 - j]?.getD 0) = sideN g (j + 1) := by
            rw [show k = (g (4 - j)).toNat by omega]; rfl
          go_roundg (g1 - 1)
          case measure => omega
          case rel => exact ⟨j + 1, by omega, by rw [e], by go_num, hb, hM⟩
    · obtain rfl : j = 5 := by omega
      go_wp2_with fail
      go_ret
      exact ⟨rfl, hb⟩
end Go.Proofs.Ytddkhnnpeonbgaa
