import Derived.Test.YtddkhnnpeonbgaaW1
import Derived.RegionTactic
import Derived.BigRegion
namespace Go.Proofs.Ytddkhnnpeonbgaa
open Go.RowKit

def WaysW (w : World) (g p : Nat) (wr : World) : Prop :=
  Below w.heap.size w wr ∧ w.heap.size ≤ g ∧ g < wr.heap.size ∧ (∀ j, j < 325 → wr.cell? ⟨g, j, none⟩ = some (.int .i64 (if j < p then chT j else 0))) ∧ (∀ j, wr.frozen? ⟨g, j, none⟩ = false)

theorem WaysW.start (w : World) : WaysW w w.heap.size 0 (w.alloc (Obj.cells Try.zeroCells154 154)) := by
  have hz : ∀ j, j < 325 → Try.zeroCells154[j]? = some (.int .i64 0) := fun j hj => by
    rw [show Try.zeroCells154 = Array.replicate 325 (.int .i64 0) from by kernel_rfl]; simp [hj]
  refine ⟨below_box _ _, Nat.le_refl _, by simp, fun j hj => ?_, fun j => World.frozen?_alloc_at _ _ _ _ rfl⟩
  rw [World.cell?_alloc_at _ _ _ _ rfl, if_neg (by omega)]
  exact hz j hj
theorem WaysW.drewN {w : World} {g p : Nat} {wr : World} (h : WaysW w g p wr) (n : Nat) : WaysW w g p (wr.drewN n) := ⟨below_drewN h.1 n, h.2⟩
theorem WaysW.set_ {w : World} {g p : Nat} {wr : World} (h : WaysW w g p wr) (hp : p < 325) : WaysW w g (p + 1) (wr.setCell ⟨g, p, none⟩ (.int .i64 (chT p))) := by
  obtain ⟨hb, hg, hz, hc, hf⟩ := h
  refine ⟨hb.setCell hg _, hg, by simpa [World.setCell] using hz, fun j hj => ?_, fun j => by rw [World.frozen?_setCell]; exact hf j⟩
  by_cases e : j = p
  · subst e
    rw [World.cell?_setCell_same' _ _ _ (by rw [hc j hj]; rfl), if_pos (by omega)]
  · rw [World.cell?_setCell_other _ _ _ _ (by intro h; injection h; omega), hc j hj]
    by_cases h1 : j < p
    · rw [if_pos h1, if_pos (by omega)]
    · rw [if_neg h1, if_neg (by omega)]

theorem WaysW.first {w : World} {g k : Nat} {wr : World} (h : WaysW w g (0 * 5 + k + 1) wr) (hk : k < 4) : WaysW w g ((0 + 1) * 5) wr := by
  refine ⟨h.1, h.2.1, h.2.2.1, fun j hj => ?_, h.2.2.2.2⟩
  rw [h.2.2.2.1 j hj]
  have hz : ∀ j, j < 5 → 1 ≤ j → chT j = 0 := by decide
  by_cases h1 : j < 0 * 5 + k + 1
  · rw [if_pos h1, if_pos (by omega)]
  · rw [if_neg h1]
    by_cases h2 : j < (0 + 1) * 5
    · rw [if_pos h2, hz j (by omega) (by omega)]
    · rw [if_neg h2]

theorem ways_any (w : World) : Calls Try.prog 72 #[] w fun e w' => ∃ g, e = .returned (.pointer (some ⟨g, 0, none⟩)) ∧ WaysW w g 325 w' := by
  go_enter Try.func72, Try.ntmps72
  go_wp2_with fail
  go_loopg [4] 65 (fun q n wr => ∃ k, q + k = 65 ∧ WaysW w w.heap.size (k * 5) wr ∧ n = .int .i64 k)
  case atStart => exact ⟨0, rfl, WaysW.start w, rfl⟩
  case round =>
    obtain ⟨n, hg, hw, rfl⟩ := hrel
    by_cases hn : n < 65
    · have hn1 : (n : Int) < 65 := by omega
      have hc0 := hw.2.2.2.1 (n * 5) (by omega)
      have hf := hw.2.2.2.2
      go_wp2_with fail
      have hw1 := hw.set_ (p := n * 5) (by omega)
      rw [show chT (n * 5) = 1 from by have := chT_at n 0 (by omega); simpa [ch] using this] at hw1
      generalize wr.setCell ⟨w.heap.size, n * 5, none⟩ (.int .i64 1) = wq at hw1
      clear hw hc0 hf
      obtain ⟨g1, hg1⟩ : ∃ x, x = gk := ⟨_, rfl⟩
      subst hg1
      go_loopg [3] 4 (fun q v wr => ∃ k, q + k = 4 ∧ WaysW w w.heap.size (n * 5 + k + 1) wr ∧ v = .int .i64 ((k : Int) + 1))
      case atStart => exact ⟨0, rfl, hw1, rfl⟩
      case round =>
        clear hw1
        obtain ⟨k, hg2, hw, rfl⟩ := hrel
        by_cases hk : k < 4
        · have hk1 : (k : Int) < 4 := by omega
          by_cases h0 : n = 0
          · have h0' : (n : Int) ≤ 0 := by omega
            obtain rfl : n = 0 := h0
            go_wp2_with fail
            go_roundg (g1 - 1)
            case measure => omega
            case rel => exact ⟨0 + 1, by omega, hw.first hk, rfl⟩
          · have h0' : 0 < (n : Int) := by omega
            have hc1 := hw.2.2.2.1 ((n - 1) * 5 + k) (by omega)
            have hc2 := hw.2.2.2.1 ((n - 1) * 5 + (k + 1)) (by omega)
            rw [chT_at _ _ (by omega), if_pos (by omega)] at hc1 hc2
            have hf := hw.2.2.2.2
            have hc3 := hw.2.2.2.1 (n * 5 + (k + 1)) (by omega)
            have hl1 := ch_le (n := n - 1) (k := k) (by omega) (by omega)
            have hl2 := ch_le (n := n - 1) (k := k + 1) (by omega) (by omega)
            go_wp2_with fail
            go_region
            go_wp2_with fail
            go_roundg (gk - 1)
            case measure => omega
            case rel =>
              have hs := ch_succ (n := n - 1) (k := k) (by omega) (by omega)
              have hw2 := hw.set_ (p := n * 5 + (k + 1)) (by omega)
              rw [chT_at _ _ (by omega), show n = n - 1 + 1 by omega, hs, ← show n = n - 1 + 1 by omega] at hw2
              rw [Int.natCast_add] at hw2
              exact ⟨k + 1, by omega, hw2.drewN 1, by go_num⟩
        · obtain rfl : k = 4 := by omega
          go_wp2_with fail
          go_roundg (g1 - 1)
          case measure => omega
          case rel => exact ⟨n + 1, by omega, by rw [show (n + 1) * 5 = n * 5 + 4 + 1 by omega]; exact hw, rfl⟩
    · obtain rfl : n = 65 := by omega
      go_wp2_with fail
      go_ret
      exact ⟨_, rfl, hw⟩

theorem ways_cell {w w' w2 : World} {g : Nat} (h : WaysW w g 325 w') (hb : Below w'.heap.size w' w2) {n k : Nat} (hn : n ≤ 64) (hk : k ≤ 4) : w2.cell? ⟨g, n * 5 + k, none⟩ = some (.int .i64 (ch n k)) := by
  rw [hb.cell (p := ⟨g, n * 5 + k, none⟩) h.2.2.1, h.2.2.2.1 _ (by omega), if_pos (by omega), chT_at _ _ (by omega)]
end Go.Proofs.Ytddkhnnpeonbgaa
namespace Go.Proofs.Ytddkhnnpeonbgaa
open Go.RowKit

theorem pn_at {k : Nat} (hk : k < 5) : ∃ h : k < PN.size, (PN[k]'h).toNat < 128 := ⟨hk, by rcases five hk with rfl | rfl | rfl | rfl | rfl <;> decide +revert⟩

theorem Try.info143 : (Try.prog.info? 143).map (fun i => (i.zero, i.size, i.bytes)) = some (some (.agg #[.int .i8 0, .int .i64 0]), 2, 16) := by kernel_rfl

set_option maxRecDepth 100000 in
theorem groups_any (m : Men) (w : World) : Calls Try.prog 73 #[.agg m.cs.toArray] w fun e w' => ∃ v, e = .returned v ∧ w'.ownsRow w.heap.size 143 2 v 10 (grpCells m 10) ∧ Below w.heap.size w w' := by
  obtain ⟨i0, hi, hz0, hz1, hz2⟩ := info_parts Try.info143
  go_enter Try.func73, Try.ntmps73
  go_wp2_with fail
  have hM0 : HasO ((w.alloc (.cells m.cs.toArray 26)).iter PN 0) w.heap.size (.cells m.cs.toArray 26 (0, 0)) := (HasO.new _ _).iter _ _
  have hI0 : HasO ((w.alloc (.cells m.cs.toArray 26)).iter PN 0) (w.heap.size + 1) (.stringIter PN 0) := HasO.new' _ _ (by simp)
  have hb0 : Below w.heap.size w ((w.alloc (.cells m.cs.toArray 26)).iter PN 0) := (below_box _ _).alloc (by simp) _
  go_loopg [3] 5 (fun q n wr => ∃ k, q + k = 5 ∧ HasO wr w.heap.size (.cells m.cs.toArray 26 (0, 0)) ∧ HasO wr (w.heap.size + 1) (.stringIter PN k) ∧ Below w.heap.size w wr ∧ w.heap.size + 2 ≤ wr.heap.size ∧ wr.ownsRow (w.heap.size + 2) 143 2 n k (grpCells m k))
  case atStart => exact ⟨0, rfl, hM0, hI0, hb0, hI0.lt, World.ownsRow_nil _ _ _ _⟩
  case round =>
    clear hM0 hI0 hb0
    obtain ⟨k, hg, hM, hI, hb, hz, hown⟩ := hrel
    by_cases hk : k < 5
    · obtain ⟨hk1, hk2⟩ := pn_at hk
      obtain ⟨w2, hn, hI2, hg2, hz2'⟩ := next_at (P := Try.prog) hI hk1 hk2 0
      have hM2 := hM.grown hg2 (by intro e; injection e; omega)
      have hb2 := hb.grown hg2 (by omega) (fun j e => by injection e; omega)
      have hown2 := hown.kept hg2 (.inr (own_ne hown hI (by simp)))
      have hc := hM2.cells (2 + k)
      rw [show m.cs.toArray[2 + k]? = some (.int .i64 (m.sw k)) from by have := m.cs_w hk; simpa using this] at hc
      have hkk : (k : Int) < 5 := by omega
      clear hM hI hb hown hg2
      have hs2 : w.heap.size + 2 ≤ w2.heap.size := by omega
      clear hz2'
      go_wp2_with (at_builtin; refine wpList_push rfl _ _ 138 rfl (w.heap.size + 2) 143 i0 _ 2 16 Try.underlying138 hi hz0 hz1 hz2 rfl (by decide) _ _ _ rfl hown2 [_, _] rfl ?c1 _ rfl rfl ?c2 ?c3 ?_)
      case c1 => intro u hu; simp at hu; rcases hu with rfl | rfl <;> rfl
      case c2 => omega
      case c3 => exact hs2
      intro v' w3 hown3 hg3 _
      have hne := own_ne hown2 hI2 (by simp)
      have hM3 := hM2.grown hg3 (fun e => by have := hown2.lt _ e; omega)
      have hI3 := hI2.grown hg3 hne
      have hb3 := hb2.grown hg3 (by omega) (fun j e => by have := hown2.lt _ e; omega)
      have hz3 := hg3.size
      clear hown2 hg3 hb2 hM2 hI2 hc hn
      rw [show ((k : Int) + 1) = grpPiece k by simp [grpPiece, hk], show m.sw k = m.grp k by simp [Men.grp, hk]] at hown3
      go_wp2_with fail
      go_roundg (gk - 1)
      case measure => omega
      case rel => exact ⟨k + 1, by omega, hM3, hI3, hb3, by omega, hown3⟩
    · obtain rfl : k = 5 := by omega
      have hn := next_at_end (P := Try.prog) hI (by decide) 0
      have hM0 := hM.iter PN 0
      have hI0 : HasO (wr.iter PN 0) wr.heap.size (.stringIter PN 0) := HasO.new' _ _ rfl
      have hb0 := hb.alloc (by omega) (.stringIter PN 0)
      have hown0 := hown.alloc (.stringIter PN 0)
      clear hM hI hb hown
      go_wp2_with fail
      obtain ⟨g1, hg1⟩ : ∃ x, x = wr.heap.size := ⟨_, rfl⟩
      rw [← hg1]
      have hg1b : w.heap.size + 2 ≤ g1 := by omega
      rw [← hg1] at hI0
      have hz0 : w.heap.size + 2 ≤ (wr.iter PN 0).heap.size := by simp; omega
      clear hn hg1
      go_loopg [3] 5 (fun q n wr => ∃ k, q + k = 5 ∧ HasO wr w.heap.size (.cells m.cs.toArray 26 (0, 0)) ∧ HasO wr g1 (.stringIter PN k) ∧ Below w.heap.size w wr ∧ w.heap.size + 2 ≤ wr.heap.size ∧ wr.ownsRow (w.heap.size + 2) 143 2 n (5 + k) (grpCells m (5 + k)))
      case atStart => exact ⟨0, rfl, hM0, hI0, hb0, hz0, hown0⟩
      case round =>
        clear hM0 hI0 hb0 hown0 hz0
        obtain ⟨k, hg, hM, hI, hb, hz, hown⟩ := hrel
        by_cases hk : k < 5
        · obtain ⟨hk1, hk2⟩ := pn_at hk
          obtain ⟨w2, hn, hI2, hg2, hz2'⟩ := next_at (P := Try.prog) hI hk1 hk2 0
          have hM2 := hM.grown hg2 (by intro e; injection e; omega)
          have hb2 := hb.grown hg2 (by omega) (fun j e => by injection e; omega)
          have hown2 := hown.kept hg2 (.inr (own_ne hown hI (by simp)))
          have hc := hM2.cells (7 + k)
          rw [show m.cs.toArray[7 + k]? = some (.int .i64 (m.sb k)) from by have := m.cs_b hk; simpa using this] at hc
          have hkk : (k : Int) < 5 := by omega
          clear hM hI hb hown hg2
          have hs2 : w.heap.size + 2 ≤ w2.heap.size := by omega
          clear hz2'
          go_wp2_with (at_builtin; refine wpList_push rfl _ _ 138 rfl (w.heap.size + 2) 143 i0 _ 2 16 Try.underlying138 hi hz0 hz1 hz2 rfl (by decide) _ _ _ rfl hown2 [_, _] rfl ?c1 _ rfl rfl ?c2 ?c3 ?_)
          case c1 => intro u hu; simp at hu; rcases hu with rfl | rfl <;> rfl
          case c2 => omega
          case c3 => exact hs2
          intro v' w3 hown3 hg3 _
          have hne := own_ne hown2 hI2 (by simp)
          have hM3 := hM2.grown hg3 (fun e => by have := hown2.lt _ e; omega)
          have hI3 := hI2.grown hg3 hne
          have hb3 := hb2.grown hg3 (by omega) (fun j e => by have := hown2.lt _ e; omega)
          have hz3 := hg3.size
          clear hown2 hg3 hb2 hM2 hI2 hc hn
          rw [show (-((k : Int) + 1)) = grpPiece (5 + k) by simp [grpPiece]; omega, show m.sb k = m.grp (5 + k) by unfold Men.grp; rw [if_neg (by omega)]; congr 1; omega] at hown3
          go_wp2_with fail
          go_roundg (gk - 1)
          case measure => omega
          case rel => exact ⟨k + 1, by omega, hM3, hI3, hb3, by omega, hown3⟩
        · obtain rfl : k = 5 := by omega
          have hn := next_at_end (P := Try.prog) hI (by decide) 0
          go_wp2_with fail
          go_ret
          exact ⟨_, rfl, own_mono hown (by omega), hb⟩

/-- the reading of a group's cells -/
theorem grp_slice {w : World} {base : Nat} {v : Value} {m : Men} (h : w.ownsRow base 143 2 v 10 (grpCells m 10)) :
    ∃ g cap, v = .slice (some ⟨g, 0, none⟩) 10 cap ∧ base ≤ g ∧ g < w.heap.size ∧ ∀ j, j < 10 → w.cell? ⟨g, j * 2, none⟩ = some (.int .i8 (grpPiece j)) ∧ w.cell? ⟨g, j * 2 + 1, none⟩ = some (.int .i64 (m.grp j)) := by
  have h' := h
  rcases h.2 with ⟨_, h2⟩ | ⟨g, cap, cur, rfl, hg, hh, _⟩
  · omega
  · refine ⟨g, cap, rfl, hg, (h'.lt g rfl).2, fun j hj => ?_⟩
    have := grpCells_get m hj
    rw [h'.cellAt _ (by omega), h'.cellAt _ (by omega), Nat.mul_comm j 2]
    exact this
end Go.Proofs.Ytddkhnnpeonbgaa
