import Derived.Test.YtddkhnnpeonbgaaW1
import Derived.RegionTactic
import Derived.BigRegion
namespace Go.Proofs.Ytddkhnnpeonbgaa
open Go.RowKit

def WaysW (w : World) (g p : Nat) (wr : World) : Prop :=
  Below w.heap.size w wr ∧ w.heap.size ≤ g ∧ g < wr.heap.size ∧ (∀ j, j < 325 → wr.cell? ⟨g, j, none⟩ = some (.int .i64 (if j < p then chT j else 0))) ∧ (∀ j, wr.frozen? ⟨g, j, none⟩ = false)

theorem WaysW.start (w : World) : WaysW w w.heap.size 0 (w.alloc (Obj.cells Try.zeroCells154 154)) := by
  have hz : ∀ j, j < 325 → Try.zeroCells154[j]? = some (.int .i64 0) := fun j hj => by
    rw [show Try.zeroCells154 = Array.replicate 325 (.int .i64 0) from by kernel_rfl]; simp [hj]
  refine ⟨below_box _ _, Nat.le_refl _, by simp, fun j hj => ?_, fun j => World.frozen?_alloc_at _ _ _ _ rfl⟩
  rw [World.cell?_alloc_at _ _ _ _ rfl, if_neg (by omega)]
  exact hz j hj
theorem WaysW.drewN {w : World} {g p : Nat} {wr : World} (h : WaysW w g p wr) (n : Nat) : WaysW w g p (wr.drewN n) := ⟨below_drewN h.1 n, h.2⟩
theorem WaysW.set_ {w : World} {g p : Nat} {wr : World} (h : WaysW w g p wr) (hp : p < 325) : WaysW w g (p + 1) (wr.setCell ⟨g, p, none⟩ (.int .i64 (chT p))) := by
  obtain ⟨hb, hg, hz, hc, hf⟩ := h
  refine ⟨hb.setCell hg _, hg, by simpa [World.setCell] using hz, fun j hj => ?_, fun j => by rw [World.frozen?_setCell]; exact hf j⟩
  by_cases e : j = p
  · subst e
    rw [World.cell?_setCell_same' _ _ _ (by rw [hc j hj]; rfl), if_pos (by omega)]
  · rw [World.cell?_setCell_other _ _ _ _ (by intro h; injection h; omega), hc j hj]
    by_cases h1 : j < p
    · rw [if_pos h1, if_pos (by omega)]
    · rw [if_neg h1, if_neg (by omega)]

theorem WaysW.first {w : World} {g k : Nat} {wr : World} (h : WaysW w g (0 * 5 + k + 1) wr) (hk : k < 4) : WaysW w g ((0 + 1) * 5) wr := by
  refine ⟨h.1, h.2.1, h.2.2.1, fun j hj => ?_, h.2.2.2.2⟩
  rw [h.2.2.2.1 j hj]
  have hz : ∀ j, j < 5 → 1 ≤ j → chT j = 0 := by decide
  by_cases h1 : j < 0 * 5 + k + 1
  · rw [if_pos h1, if_pos (by omega)]
  · rw [if_neg h1]
    by_cases h2 : j < (0 + 1) * 5
    · rw [if_pos h2, hz j (by omega) (by omega)]
    · rw [if_neg h2]

theorem ways_any (w : World) : Calls Try.prog 72 #[] w fun e w' => ∃ g, e = .returned (.pointer (some ⟨g, 0, none⟩)) ∧ WaysW w g 325 w' := by
  go_enter Try.func72, Try.ntmps72
  go_wp2_with fail
  go_loopg [4] 65 (fun q n wr => ∃ k, q + k = 65 ∧ WaysW w w.heap.size (k * 5) wr ∧ n = .int .i64 k)
  case atStart => exact ⟨0, rfl, WaysW.start w, rfl⟩
  case round =>
    obtain ⟨n, hg, hw, rfl⟩ := hrel
    by_cases hn : n < 65
    · have hn1 : (n : Int) < 65 := by omega
      have hc0 := hw.2.2.2.1 (n * 5) (by omega)
      have hf := hw.2.2.2.2
      go_wp2_with fail
      have hw1 := hw.set_ (p := n * 5) (by omega)
      rw [show chT (n * 5) = 1 from by have := chT_at n 0 (by omega); simpa [ch] using this] at hw1
      generalize wr.setCell ⟨w.heap.size, n * 5, none⟩ (.int .i64 1) = wq at hw1
      clear hw hc0 hf
      obtain ⟨g1, hg1⟩ : ∃ x, x = gk := ⟨_, rfl⟩
      subst hg1
      go_loopg [3] 4 (fun q v wr => ∃ k, q + k = 4 ∧ WaysW w w.heap.size (n * 5 + k + 1) wr ∧ v = .int .i64 ((k : Int) + 1))
      case atStart => exact ⟨0, rfl, hw1, rfl⟩
      case round =>
        clear hw1
        obtain ⟨k, hg2, hw, rfl⟩ := hrel
        by_cases hk : k < 4
        · have hk1 : (k : Int) < 4 := by omega
          by_cases h0 : n = 0
          · have h0' : (n : Int) ≤ 0 := by omega
            obtain rfl : n = 0 := h0
            go_wp2_with fail
            go_roundg (g1 - 1)
            case measure => omega
            case rel => exact ⟨0 + 1, by omega, hw.first hk, rfl⟩
          · have h0' : 0 < (n : Int) := by omega
            have hc1 := hw.2.2.2.1 ((n - 1) * 5 + k) (by omega)
            have hc2 := hw.2.2.2.1 ((n - 1) * 5 + (k + 1)) (by omega)
            rw [chT_at _ _ (by omega), if_pos (by omega)] at hc1 hc2
            have hf := hw.2.2.2.2
            have hc3 := hw.2.2.2.1 (n * 5 + (k + 1)) (by omega)
            have hl1 := ch_le (n := n - 1) (k := k) (by omega) (by omega)
            have hl2 := ch_le (n := n - 1) (k := k + 1) (by omega) (by omega)
            go_wp2_with fail
            go_region
            go_wp2_with fail
            go_roundg (gk - 1)
            case measure => omega
            case rel =>
              have hs := ch_succ (n := n - 1) (k := k) (by omega) (by omega)
              have hw2 := hw.set_ (p := n * 5 + (k + 1)) (by omega)
              rw [chT_at _ _ (by omega), show n = n - 1 + 1 by omega, hs, ← show n = n - 1 + 1 by omega] at hw2
              rw [Int.natCast_add] at hw2
              exact ⟨k + 1, by omega, hw2.drewN 1, by go_num⟩
        · obtain rfl : k = 4 := by omega
          go_wp2_with fail
          go_roundg (g1 - 1)
          case measure => omega
          case rel => exact ⟨n + 1, by omega, by rw [show (n + 1) * 5 = n * 5 + 4 + 1 by omega]; exact hw, rfl⟩
    · obtain rfl : n = 65 := by omega
      go_wp2_with fail
      go_ret
      exact ⟨_, rfl, hw⟩

theorem ways_cell {w w' w2 : World} {g : Nat} (h : WaysW w g 325 w') (hb : Below w'.heap.size w' w2) {n k : Nat} (hn : n ≤ 64) (hk : k ≤ 4) : w2.cell? ⟨g, n * 5 + k, none⟩ = some (.int .i64 (ch n k)) := by
  rw [hb.cell (p := ⟨g, n * 5 + k, none⟩) h.2.2.1, h.2.2.2.1 _ (by omega), if_pos (by omega), chT_at _ _ (by omega)]
end Go.Proofs.Ytddkhnnpeonbgaa
