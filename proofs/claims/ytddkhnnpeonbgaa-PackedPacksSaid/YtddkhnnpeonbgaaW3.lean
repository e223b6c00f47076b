import Derived.Test.YtddkhnnpeonbgaaW2
namespace Go.Proofs.Ytddkhnnpeonbgaa
open Go.RowKit

theorem pn_at {k : Nat} (hk : k < 5) : ∃ h : k < PN.size, (PN[k]'h).toNat < 128 := ⟨hk, by rcases five hk with rfl | rfl | rfl | rfl | rfl <;> decide +revert⟩

theorem Try.info143 : (Try.prog.info? 143).map (fun i => (i.zero, i.size, i.bytes)) = some (some (.agg #[.int .i8 0, .int .i64 0]), 2, 16) := by kernel_rfl

set_option maxRecDepth 100000 in
theorem groups_any (m : Men) (w : World) : Calls Try.prog 73 #[.agg m.cs.toArray] w fun e w' => ∃ v, e = .returned v ∧ w'.ownsRow w.heap.size 143 2 v 10 (grpCells m 10) ∧ Below w.heap.size w w' := by
  obtain ⟨i0, hi, hz0, hz1, hz2⟩ := info_parts Try.info143
  go_enter Try.func73, Try.ntmps73
  go_wp2_with fail
  have hM0 : HasO ((w.alloc (.cells m.cs.toArray 26)).iter PN 0) w.heap.size (.cells m.cs.toArray 26 (0, 0)) := (HasO.new _ _).iter _ _
  have hI0 : HasO ((w.alloc (.cells m.cs.toArray 26)).iter PN 0) (w.heap.size + 1) (.stringIter PN 0) := HasO.new' _ _ (by simp)
  have hb0 : Below w.heap.size w ((w.alloc (.cells m.cs.toArray 26)).iter PN 0) := (below_box _ _).alloc (by simp) _
  go_loopg [3] 5 (fun q n wr => ∃ k, q + k = 5 ∧ HasO wr w.heap.size (.cells m.cs.toArray 26 (0, 0)) ∧ HasO wr (w.heap.size + 1) (.stringIter PN k) ∧ Below w.heap.size w wr ∧ w.heap.size + 2 ≤ wr.heap.size ∧ wr.ownsRow (w.heap.size + 2) 143 2 n k (grpCells m k))
  case atStart => exact ⟨0, rfl, hM0, hI0, hb0, hI0.lt, World.ownsRow_nil _ _ _ _⟩
  case round =>
    clear hM0 hI0 hb0
    obtain ⟨k, hg, hM, hI, hb, hz, hown⟩ := hrel
    by_cases hk : k < 5
    · obtain ⟨hk1, hk2⟩ := pn_at hk
      obtain ⟨w2, hn, hI2, hg2, hz2'⟩ := next_at (P := Try.prog) hI hk1 hk2 0
      have hM2 := hM.grown hg2 (by intro e; injection e; omega)
      have hb2 := hb.grown hg2 (by omega) (fun j e => by injection e; omega)
      have hown2 := hown.kept hg2 (.inr (own_ne hown hI (by simp)))
      have hc := hM2.cells (2 + k)
      rw [show m.cs.toArray[2 + k]? = some (.int .i64 (m.sw k)) from by have := m.cs_w hk; simpa using this] at hc
      have hkk : (k : Int) < 5 := by omega
      clear hM hI hb hown hg2
      have hs2 : w.heap.size + 2 ≤ w2.heap.size := by omega
      clear hz2'
      go_wp2_with (at_builtin; refine wpList_push rfl _ _ 138 rfl (w.heap.size + 2) 143 i0 _ 2 16 Try.underlying138 hi hz0 hz1 hz2 rfl (by decide) _ _ _ rfl hown2 [_, _] rfl ?c1 _ rfl rfl ?c2 ?c3 ?_)
      case c1 => intro u hu; simp at hu; rcases hu with rfl | rfl <;> rfl
      case c2 => omega
      case c3 => exact hs2
      intro v' w3 hown3 hg3 _
      have hne := own_ne hown2 hI2 (by simp)
      have hM3 := hM2.grown hg3 (fun e => by have := hown2.lt _ e; omega)
      have hI3 := hI2.grown hg3 hne
      have hb3 := hb2.grown hg3 (by omega) (fun j e => by have := hown2.lt _ e; omega)
      have hz3 := hg3.size
      clear hown2 hg3 hb2 hM2 hI2 hc hn
      rw [show ((k : Int) + 1) = grpPiece k by simp [grpPiece, hk], show m.sw k = m.grp k by simp [Men.grp, hk]] at hown3
      go_wp2_with fail
      go_roundg (gk - 1)
      case measure => omega
      case rel => exact ⟨k + 1, by omega, hM3, hI3, hb3, by omega, hown3⟩
    · obtain rfl : k = 5 := by omega
      have hn := next_at_end (P := Try.prog) hI (by decide) 0
      have hM0 := hM.iter PN 0
      have hI0 : HasO (wr.iter PN 0) wr.heap.size (.stringIter PN 0) := HasO.new' _ _ rfl
      have hb0 := hb.alloc (by omega) (.stringIter PN 0)
      have hown0 := hown.alloc (.stringIter PN 0)
      clear hM hI hb hown
      go_wp2_with fail
      obtain ⟨g1, hg1⟩ : ∃ x, x = wr.heap.size := ⟨_, rfl⟩
      rw [← hg1]
      have hg1b : w.heap.size + 2 ≤ g1 := by omega
      rw [← hg1] at hI0
      have hz0 : w.heap.size + 2 ≤ (wr.iter PN 0).heap.size := by simp; omega
      clear hn hg1
      go_loopg [3] 5 (fun q n wr => ∃ k, q + k = 5 ∧ HasO wr w.heap.size (.cells m.cs.toArray 26 (0, 0)) ∧ HasO wr g1 (.stringIter PN k) ∧ Below w.heap.size w wr ∧ w.heap.size + 2 ≤ wr.heap.size ∧ wr.ownsRow (w.heap.size + 2) 143 2 n (5 + k) (grpCells m (5 + k)))
      case atStart => exact ⟨0, rfl, hM0, hI0, hb0, hz0, hown0⟩
      case round =>
        clear hM0 hI0 hb0 hown0 hz0
        obtain ⟨k, hg, hM, hI, hb, hz, hown⟩ := hrel
        by_cases hk : k < 5
        · obtain ⟨hk1, hk2⟩ := pn_at hk
          obtain ⟨w2, hn, hI2, hg2, hz2'⟩ := next_at (P := Try.prog) hI hk1 hk2 0
          have hM2 := hM.grown hg2 (by intro e; injection e; omega)
          have hb2 := hb.grown hg2 (by omega) (fun j e => by injection e; omega)
          have hown2 := hown.kept hg2 (.inr (own_ne hown hI (by simp)))
          have hc := hM2.cells (7 + k)
          rw [show m.cs.toArray[7 + k]? = some (.int .i64 (m.sb k)) from by have := m.cs_b hk; simpa using this] at hc
          have hkk : (k : Int) < 5 := by omega
          clear hM hI hb hown hg2
          have hs2 : w.heap.size + 2 ≤ w2.heap.size := by omega
          clear hz2'
          go_wp2_with (at_builtin; refine wpList_push rfl _ _ 138 rfl (w.heap.size + 2) 143 i0 _ 2 16 Try.underlying138 hi hz0 hz1 hz2 rfl (by decide) _ _ _ rfl hown2 [_, _] rfl ?c1 _ rfl rfl ?c2 ?c3 ?_)
          case c1 => intro u hu; simp at hu; rcases hu with rfl | rfl <;> rfl
          case c2 => omega
          case c3 => exact hs2
          intro v' w3 hown3 hg3 _
          have hne := own_ne hown2 hI2 (by simp)
          have hM3 := hM2.grown hg3 (fun e => by have := hown2.lt _ e; omega)
          have hI3 := hI2.grown hg3 hne
          have hb3 := hb2.grown hg3 (by omega) (fun j e => by have := hown2.lt _ e; omega)
          have hz3 := hg3.size
          clear hown2 hg3 hb2 hM2 hI2 hc hn
          rw [show (-((k : Int) + 1)) = grpPiece (5 + k) by simp [grpPiece]; omega, show m.sb k = m.grp (5 + k) by unfold Men.grp; rw [if_neg (by omega)]; congr 1; omega] at hown3
          go_wp2_with fail
          go_roundg (gk - 1)
          case measure => omega
          case rel => exact ⟨k + 1, by omega, hM3, hI3, hb3, by omega, hown3⟩
        · obtain rfl : k = 5 := by omega
          have hn := next_at_end (P := Try.prog) hI (by decide) 0
          go_wp2_with fail
          go_ret
          exact ⟨_, rfl, own_mono hown (by omega), hb⟩

/-- the reading of a group's cells -/
theorem grp_slice {w : World} {base : Nat} {v : Value} {m : Men} (h : w.ownsRow base 143 2 v 10 (grpCells m 10)) :
    ∃ g cap, v = .slice (some ⟨g, 0, none⟩) 10 cap ∧ base ≤ g ∧ g < w.heap.size ∧ ∀ j, j < 10 → w.cell? ⟨g, j * 2, none⟩ = some (.int .i8 (grpPiece j)) ∧ w.cell? ⟨g, j * 2 + 1, none⟩ = some (.int .i64 (m.grp j)) := by
  have h' := h
  rcases h.2 with ⟨_, h2⟩ | ⟨g, cap, cur, rfl, hg, hh, _⟩
  · omega
  · refine ⟨g, cap, rfl, hg, (h'.lt g rfl).2, fun j hj => ?_⟩
    have := grpCells_get m hj
    rw [h'.cellAt _ (by omega), h'.cellAt _ (by omega), Nat.mul_comm j 2]
    exact this
end Go.Proofs.Ytddkhnnpeonbgaa
