import Derived.Test.YtnpomigmeieofaaGreatDoorS02
import Derived.RegionTactic
import Derived.BigRegion
import Derived.Deep.RegionHeld3
namespace Go.Proofs.YtnpomigmeieofaaGreatDoor
open Go.RowKit

def WaysW (w : World) (g p : Nat) (wr : World) : Prop :=
 Below w.heap.size w wr ∧ w.heap.size ≤ g ∧ g < wr.heap.size ∧ (∀ j, j < 325 → wr.cell? ⟨g, j, none⟩ = some (.int .i64 (if j < p then chT j else 0))) ∧ (∀ j, wr.frozen? ⟨g, j, none⟩ = false)

theorem WaysW.start (w : World) : WaysW w w.heap.size 0 (w.alloc (Obj.cells Tryz.zeroCells139 139)) := by
 have hz : ∀ j, j < 325 → Tryz.zeroCells139[j]? = some (.int .i64 0) := fun j hj => by
  rw [show Tryz.zeroCells139 = Array.replicate 325 (.int .i64 0) from by kernel_rfl]; simp [hj]
 refine ⟨below_box _ _, Nat.le_refl _, by simp, fun j hj => ?_, fun j => World.frozen?_alloc_at _ _ _ _ rfl⟩
 rw [World.cell?_alloc_at _ _ _ _ rfl, if_neg (by omega)]
 exact hz j hj
theorem WaysW.drewN {w : World} {g p : Nat} {wr : World} (h : WaysW w g p wr) (n : Nat) : WaysW w g p (wr.drewN n) := ⟨below_drewN h.1 n, h.2⟩
theorem WaysW.set_ {w : World} {g p : Nat} {wr : World} (h : WaysW w g p wr) (hp : p < 325) : WaysW w g (p + 1) (wr.setCell ⟨g, p, none⟩ (.int .i64 (chT p))) := by
 obtain ⟨hb, hg, hz, hc, hf⟩ := h
 refine ⟨hb.setCell hg _, hg, by simpa [World.setCell] using hz, fun j hj => ?_, fun j => by rw [World.frozen?_setCell]; exact hf j⟩
 by_cases e : j = p
 ·subst e
  rw [World.cell?_setCell_same' _ _ _ (by rw [hc j hj]; rfl), if_pos (by omega)]
 ·rw [World.cell?_setCell_other _ _ _ _ (by intro h; injection h; omega), hc j hj]
  by_cases h1 : j < p
  ·rw [if_pos h1, if_pos (by omega)]
  ·rw [if_neg h1, if_neg (by omega)]

theorem WaysW.first {w : World} {g k : Nat} {wr : World} (h : WaysW w g (0 * 5 + k + 1) wr) (hk : k < 4) : WaysW w g ((0 + 1) * 5) wr := by
 refine ⟨h.1, h.2.1, h.2.2.1, fun j hj => ?_, h.2.2.2.2⟩
 rw [h.2.2.2.1 j hj]
 have hz : ∀ j, j < 5 → 1 ≤ j → chT j = 0 := by decide
 by_cases h1 : j < 0 * 5 + k + 1
 ·rw [if_pos h1, if_pos (by omega)]
 ·rw [if_neg h1]
  by_cases h2 : j < (0 + 1) * 5
  ·rw [if_pos h2, hz j (by omega) (by omega)]
  ·rw [if_neg h2]

theorem ways_any (w : World) : Calls Tryz.prog 46 #[] w fun e w' => ∃ g, e = .returned (.pointer (some ⟨g, 0, none⟩)) ∧ WaysW w g 325 w' := by
 go_enter Tryz.func46, Tryz.ntmps46
 go_wp2_with fail
 go_loopg [4] 65 (fun q n wr => ∃ k, q + k = 65 ∧ WaysW w w.heap.size (k * 5) wr ∧ n = .int .i64 k)
 case atStart => exact ⟨0, rfl, WaysW.start w, rfl⟩
 case round =>
  obtain ⟨n, hg, hw, rfl⟩ := hrel
  by_cases hn : n < 65
  ·have hn1 : (n : Int) < 65 := by omega
   have hc0 := hw.2.2.2.1 (n * 5) (by omega)
   have hf := hw.2.2.2.2
   go_wp2_with fail
   have hw1 := hw.set_ (p := n * 5) (by omega)
   rw [show chT (n * 5) = 1 from by have := chT_at n 0 (by omega); simpa [ch] using this] at hw1
   generalize wr.setCell ⟨w.heap.size, n * 5, none⟩ (.int .i64 1) = wq at hw1
   clear hw hc0 hf
   obtain ⟨g1, hg1⟩ : ∃ x, x = gk := ⟨_, rfl⟩
   subst hg1
   go_loopg [3] 4 (fun q v wr => ∃ k, q + k = 4 ∧ WaysW w w.heap.size (n * 5 + k + 1) wr ∧ v = .int .i64 ((k : Int) + 1))
   case atStart => exact ⟨0, rfl, hw1, rfl⟩
   case round =>
    clear hw1
    obtain ⟨k, hg2, hw, rfl⟩ := hrel
    by_cases hk : k < 4
    ·have hk1 : (k : Int) < 4 := by omega
     by_cases h0 : n = 0
     ·have h0' : (n : Int) ≤ 0 := by omega
      obtain rfl : n = 0 := h0
      go_wp2_with fail
      go_roundg (g1 - 1)
      case measure => omega
      case rel => exact ⟨0 + 1, by omega, hw.first hk, rfl⟩
     ·have h0' : 0 < (n : Int) := by omega
      have hc1 := hw.2.2.2.1 ((n - 1) * 5 + k) (by omega)
      have hc2 := hw.2.2.2.1 ((n - 1) * 5 + (k + 1)) (by omega)
      rw [chT_at _ _ (by omega), if_pos (by omega)] at hc1 hc2
      have hf := hw.2.2.2.2
      have hc3 := hw.2.2.2.1 (n * 5 + (k + 1)) (by omega)
      have hl1 := ch_le (n := n - 1) (k := k) (by omega) (by omega)
      have hl2 := ch_le (n := n - 1) (k := k + 1) (by omega) (by omega)
      go_wp2_with fail
      go_region
      go_wp2_with fail
      go_roundg (gk - 1)
      case measure => omega
      case rel =>
       have hs := ch_succ (n := n - 1) (k := k) (by omega) (by omega)
       have hw2 := hw.set_ (p := n * 5 + (k + 1)) (by omega)
       rw [chT_at _ _ (by omega), show n = n - 1 + 1 by omega, hs, ← show n = n - 1 + 1 by omega] at hw2
       rw [Int.natCast_add] at hw2
       exact ⟨k + 1, by omega, hw2.drewN 1, by go_num⟩
    ·obtain rfl : k = 4 := by omega
     go_wp2_with fail
     go_roundg (g1 - 1)
     case measure => omega
     case rel => exact ⟨n + 1, by omega, by rw [show (n + 1) * 5 = n * 5 + 4 + 1 by omega]; exact hw, rfl⟩
  ·obtain rfl : n = 65 := by omega
   go_wp2_with fail
   go_ret
   exact ⟨_, rfl, hw⟩

theorem ways_cell {w w' w2 : World} {g : Nat} (h : WaysW w g 325 w') (hb : Below w'.heap.size w' w2) {n k : Nat} (hn : n ≤ 64) (hk : k ≤ 4) : w2.cell? ⟨g, n * 5 + k, none⟩ = some (.int .i64 (ch n k)) := by
 rw [hb.cell (p := ⟨g, n * 5 + k, none⟩) h.2.2.1, h.2.2.2.1 _ (by omega), if_pos (by omega), chT_at _ _ (by omega)]
theorem pn_at {k : Nat} (hk : k < 5) : ∃ h : k < PN.size, (PN[k]'h).toNat < 128 := ⟨hk, by rcases five hk with rfl | rfl | rfl | rfl | rfl <;> decide +revert⟩

theorem Tryz.info143 : (Tryz.prog.info? 85).map (fun i => (i.zero, i.size, i.bytes)) = some (some (.agg #[.int .i8 0, .int .i64 0]), 2, 16) := by kernel_rfl

set_option maxRecDepth 100000 in
theorem groups_any (m : Men) (w : World) : Calls Tryz.prog 48 #[.agg m.cs.toArray] w fun e w' => ∃ v, e = .returned v ∧ w'.ownsRow w.heap.size 85 2 v 10 (grpCells m 10) ∧ Below w.heap.size w w' := by
 obtain ⟨i0, hi, hz0, hz1, hz2⟩ := info_parts Tryz.info143
 go_enter Tryz.func48, Tryz.ntmps48
 go_wp2_with fail
 have hM0 : HasO ((w.alloc (.cells m.cs.toArray 26)).iter PN 0) w.heap.size (.cells m.cs.toArray 26 (0, 0)) := (HasO.new _ _).iter _ _
 have hI0 : HasO ((w.alloc (.cells m.cs.toArray 26)).iter PN 0) (w.heap.size + 1) (.stringIter PN 0) := HasO.new' _ _ (by simp)
 have hb0 : Below w.heap.size w ((w.alloc (.cells m.cs.toArray 26)).iter PN 0) := (below_box _ _).alloc (by simp) _
 go_loopg [3] 5 (fun q n wr => ∃ k, q + k = 5 ∧ HasO wr w.heap.size (.cells m.cs.toArray 26 (0, 0)) ∧ HasO wr (w.heap.size + 1) (.stringIter PN k) ∧ Below w.heap.size w wr ∧ w.heap.size + 2 ≤ wr.heap.size ∧ wr.ownsRow (w.heap.size + 2) 85 2 n k (grpCells m k))
 case atStart => exact ⟨0, rfl, hM0, hI0, hb0, hI0.lt, World.ownsRow_nil _ _ _ _⟩
 case round =>
  clear hM0 hI0 hb0
  obtain ⟨k, hg, hM, hI, hb, hz, hown⟩ := hrel
  by_cases hk : k < 5
  ·obtain ⟨hk1, hk2⟩ := pn_at hk
   obtain ⟨w2, hn, hI2, hg2, hz2'⟩ := next_at (P := Tryz.prog) hI hk1 hk2 0
   have hM2 := hM.grown hg2 (by intro e; injection e; omega)
   have hb2 := hb.grown hg2 (by omega) (fun j e => by injection e; omega)
   have hown2 := hown.kept hg2 (.inr (own_ne hown hI (by simp)))
   have hc := hM2.cells (2 + k)
   rw [show m.cs.toArray[2 + k]? = some (.int .i64 (m.sw k)) from by have := m.cs_w hk; simpa using this] at hc
   have hkk : (k : Int) < 5 := by omega
   clear hM hI hb hown hg2
   have hs2 : w.heap.size + 2 ≤ w2.heap.size := by omega
   clear hz2'
   go_wp2_with (at_builtin; refine wpList_push rfl _ _ 82 rfl (w.heap.size + 2) 85 i0 _ 2 16 Tryz.underlying82 hi hz0 hz1 hz2 rfl (by decide) _ _ _ rfl hown2 [_, _] rfl ?c1 _ rfl rfl ?c2 ?c3 ?_)
   case c1 => intro u hu; simp at hu; rcases hu with rfl | rfl <;> rfl
   case c2 => omega
   case c3 => exact hs2
   intro v' w3 hown3 hg3 _
   have hne := own_ne hown2 hI2 (by simp)
   have hM3 := hM2.grown hg3 (fun e => by have := hown2.lt _ e; omega)
   have hI3 := hI2.grown hg3 hne
   have hb3 := hb2.grown hg3 (by omega) (fun j e => by have := hown2.lt _ e; omega)
   have hz3 := hg3.size
   clear hown2 hg3 hb2 hM2 hI2 hc hn
   rw [show ((k : Int) + 1) = grpPiece k by simp [grpPiece, hk], show m.sw k = m.grp k by simp [Men.grp, hk]] at hown3
   go_wp2_with fail
   go_roundg (gk - 1)
   case measure => omega
   case rel => exact ⟨k + 1, by omega, hM3, hI3, hb3, by omega, hown3⟩
  ·obtain rfl : k = 5 := by omega
   have hn := next_at_end (P := Tryz.prog) hI (by decide) 0
   have hM0 := hM.iter PN 0
   have hI0 : HasO (wr.iter PN 0) wr.heap.size (.stringIter PN 0) := HasO.new' _ _ rfl
   have hb0 := hb.alloc (by omega) (.stringIter PN 0)
   have hown0 := hown.alloc (.stringIter PN 0)
   clear hM hI hb hown
   go_wp2_with fail
   obtain ⟨g1, hg1⟩ : ∃ x, x = wr.heap.size := ⟨_, rfl⟩
   rw [← hg1]
   have hg1b : w.heap.size + 2 ≤ g1 := by omega
   rw [← hg1] at hI0
   have hz0 : w.heap.size + 2 ≤ (wr.iter PN 0).heap.size := by simp; omega
   clear hn hg1
   go_loopg [3] 5 (fun q n wr => ∃ k, q + k = 5 ∧ HasO wr w.heap.size (.cells m.cs.toArray 26 (0, 0)) ∧ HasO wr g1 (.stringIter PN k) ∧ Below w.heap.size w wr ∧ w.heap.size + 2 ≤ wr.heap.size ∧ wr.ownsRow (w.heap.size + 2) 85 2 n (5 + k) (grpCells m (5 + k)))
   case atStart => exact ⟨0, rfl, hM0, hI0, hb0, hz0, hown0⟩
   case round =>
    clear hM0 hI0 hb0 hown0 hz0
    obtain ⟨k, hg, hM, hI, hb, hz, hown⟩ := hrel
    by_cases hk : k < 5
    ·obtain ⟨hk1, hk2⟩ := pn_at hk
     obtain ⟨w2, hn, hI2, hg2, hz2'⟩ := next_at (P := Tryz.prog) hI hk1 hk2 0
     have hM2 := hM.grown hg2 (by intro e; injection e; omega)
     have hb2 := hb.grown hg2 (by omega) (fun j e => by injection e; omega)
     have hown2 := hown.kept hg2 (.inr (own_ne hown hI (by simp)))
     have hc := hM2.cells (7 + k)
     rw [show m.cs.toArray[7 + k]? = some (.int .i64 (m.sb k)) from by have := m.cs_b hk; simpa using this] at hc
     have hkk : (k : Int) < 5 := by omega
     clear hM hI hb hown hg2
     have hs2 : w.heap.size + 2 ≤ w2.heap.size := by omega
     clear hz2'
     go_wp2_with (at_builtin; refine wpList_push rfl _ _ 82 rfl (w.heap.size + 2) 85 i0 _ 2 16 Tryz.underlying82 hi hz0 hz1 hz2 rfl (by decide) _ _ _ rfl hown2 [_, _] rfl ?c1 _ rfl rfl ?c2 ?c3 ?_)
     case c1 => intro u hu; simp at hu; rcases hu with rfl | rfl <;> rfl
     case c2 => omega
     case c3 => exact hs2
     intro v' w3 hown3 hg3 _
     have hne := own_ne hown2 hI2 (by simp)
     have hM3 := hM2.grown hg3 (fun e => by have := hown2.lt _ e; omega)
     have hI3 := hI2.grown hg3 hne
     have hb3 := hb2.grown hg3 (by omega) (fun j e => by have := hown2.lt _ e; omega)
     have hz3 := hg3.size
     clear hown2 hg3 hb2 hM2 hI2 hc hn
     rw [show (-((k : Int) + 1)) = grpPiece (5 + k) by simp [grpPiece]; omega, show m.sb k = m.grp (5 + k) by unfold Men.grp; rw [if_neg (by omega)]; congr 1; omega] at hown3
     go_wp2_with fail
     go_roundg (gk - 1)
     case measure => omega
     case rel => exact ⟨k + 1, by omega, hM3, hI3, hb3, by omega, hown3⟩
    ·obtain rfl : k = 5 := by omega
     have hn := next_at_end (P := Tryz.prog) hI (by decide) 0
     go_wp2_with fail
     go_ret
     exact ⟨_, rfl, own_mono hown (by omega), hb⟩

theorem grp_slice {w : World} {base : Nat} {v : Value} {m : Men} (h : w.ownsRow base 85 2 v 10 (grpCells m 10)) :
  ∃ g cap, v = .slice (some ⟨g, 0, none⟩) 10 cap ∧ base ≤ g ∧ g < w.heap.size ∧ ∀ j, j < 10 → w.cell? ⟨g, j * 2, none⟩ = some (.int .i8 (grpPiece j)) ∧ w.cell? ⟨g, j * 2 + 1, none⟩ = some (.int .i64 (m.grp j)) := by
 have h' := h
 rcases h.2 with ⟨_, h2⟩ | ⟨g, cap, cur, rfl, hg, hh, _⟩
 ·omega
 ·refine ⟨g, cap, rfl, hg, (h'.lt g rfl).2, fun j hj => ?_⟩
  have := grpCells_get m hj
  rw [h'.cellAt _ (by omega), h'.cellAt _ (by omega), Nat.mul_comm j 2]
  exact this
theorem count_any (m : Men) (w : World) (hm : Hid (validB m = true)) : Calls Tryz.prog 61 #[.agg m.cs.toArray] w fun e w' => e = .returned (.int .i64 (countN m)) ∧ Below w.heap.size w w' := by
 go_enter Tryz.func61, Tryz.ntmps61
 go_wp2_with fail
 have hM0 : HasO (w.alloc (.cells m.cs.toArray 26)) w.heap.size (.cells m.cs.toArray 26 (0, 0)) := HasO.new _ _
 have hb0 : Below w.heap.size w (w.alloc (.cells m.cs.toArray 26)) := below_box _ _
 have c0 := hM0.cells 0
 have c1 := hM0.cells 1
 generalize w.alloc (.cells m.cs.toArray 26) = wq at hM0 hb0 c0 c1
 go_region_held3 (fun w' => w'.cell? ⟨w.heap.size, 0, none⟩ = some (.int .i64 m.f) ∧ w'.cell? ⟨w.heap.size, 1, none⟩ = some (.int .i64 m.r)) (first | exact ⟨(hw.1.cell (p := ⟨w.heap.size, 0, none⟩) hM0.lt).trans c0, (hw.1.cell (p := ⟨w.heap.size, 1, none⟩) hM0.lt).trans c1⟩ | go_keep)
  (first | (go_at_call 46; refine (ways_any _).mono ?_; rintro e w' ⟨g, rfl, hw⟩))
 obtain ⟨hsq, hq1, hq2⟩ := validB_sq hm.out
 have hw1 := below_undrew hw.1
 have hb1 := below_call hb0 hb0.size hw1
 have hM1 := hM0.call (w := wq) hw1
 have hz1 := hw.1.size
 have hz0 := hM0.lt
 clear hM0 c0 c1
 have e1 : IntKind.i64.wrap (m.f * m.r) = (m.sq : Int) := by rw [hsq]; exact IntWalk.i64_in _ (by omega)
 have e2 : wrap64 (2 * (m.sq : Int) * (m.sq : Int)) = (m.prod 0 : Int) := by
  have := prod_bd hm.out (k := 0) (by omega)
  rw [show (2 * (m.sq : Int) * (m.sq : Int)) = (m.prod 0 : Int) from by simp [Men.prod]]
  exact IntWalk.wrap64_in _ (by omega)
 replace hsq := Lib.hid hsq
 rw [e1]
 clear e1
 have hc := hM1.cells
 go_wp2_with fail
 rw [e2]
 refine (groups_any m _).mono ?_
 rintro e w2 ⟨v, rfl, hown, hb2⟩
 obtain ⟨gg, cap, rfl, hgg, hgl, hgc⟩ := grp_slice hown
 have hb3 := below_call hb1 hb1.size hb2
 have hwc : ∀ {w'' : World}, Below w2.heap.size w2 w'' → ∀ {n k : Nat}, n ≤ 64 → k ≤ 4 → w''.cell? ⟨g, n * 5 + k, none⟩ = some (.int .i64 (ch n k)) := fun hb => ways_cell hw (below_call hb2 hb2.size hb)
 have hgl2 : g < w2.heap.size := Nat.lt_of_lt_of_le hw.2.2.1 hb2.size
 clear hc hM1 hw hown e2 hb2 hw1
 go_wp2_with fail
 go_loopg [5, 23] 10 (fun q n i wr => ∃ k, q + k = 10 ∧ n = .int .i64 (m.prod k) ∧ i = .int .i64 k ∧ Below w2.heap.size w2 wr)
 case atStart => exact ⟨0, rfl, rfl, rfl, Below.refl _ _⟩
 case round =>
  obtain ⟨k, hg, rfl, rfl, hb⟩ := hrel
  by_cases hk : k < 10
  ·have hkk : (k : Int) < 10 := by omega
   have hc1 := (hb.cell (p := ⟨gg, k * 2, none⟩) hgl).trans (hgc k hk).1
   have hc2 := (hb.cell (p := ⟨gg, k * 2 + 1, none⟩) hgl).trans (hgc k hk).2
   have hgb := grp_bd (validB_ok hm.out) hk
   have hc3 := hwc hb (n := m.sq) (k := (m.grp k).toNat) hq2 (by omega)
   have hp := prod_bd hm.out (k := k) (by omega)
   have hp1 := prod_bd hm.out (k := k + 1) (by omega)
   have hz := hb.size
   have hl1 : gg < wr.heap.size := by omega
   have hl2 : g < wr.heap.size := by omega
   have hgs : m.grp k < 5 := by omega
   have e3 : wrap64 ((m.prod k : Int) * (ch m.sq (m.grp k).toNat : Int)) = (m.prod (k + 1) : Int) := by
    rw [show ((m.prod k : Int) * (ch m.sq (m.grp k).toNat : Int)) = (m.prod (k + 1) : Int) from by simp [Men.prod]]
    exact IntWalk.wrap64_in _ (by omega)
   replace e3 := Lib.hid e3
   go_wp2_with fail
   go_quiet (fail)
   go_wp2_with fail
   rw [e3.out]
   go_roundg (gk - 1)
   case measure => omega
   case rel => exact ⟨k + 1, by omega, rfl, by go_num, below_drewN (hb.alloc hb.size _) _⟩
  ·obtain rfl : k = 10 := by omega
   go_wp2_with fail
   go_ret
   exact ⟨rfl, below_call hb3 hb3.size hb⟩

theorem Count_any (m : Men) (w : World) : Calls Tryz.prog 20 #[.agg m.cs.toArray] w fun e w' => e = .returned (.tuple #[.int .i64 (cntE m).1, .int .i64 (cntE m).2]) ∧ Below w.heap.size w w' := by
 go_enter Tryz.func20, Tryz.ntmps20
 rcases hv : validB m with _ | _
 ·have he := Lib.hid (show cntE m = (0, 2) by simp [cntE, hv])
  go_wp2_with fail
  refine (valid_any m _).mono ?_
  rintro e w1 ⟨rfl, hb1⟩
  have hb := below_call (below_box w _) (by simp) hb1
  clear hb1
  go_wp2_with fail
  go_ret2
  exact ⟨by rw [he.out]; rfl, hb⟩
 ·have hV := Lib.hid hv
  go_wp2_with fail
  refine (valid_any m _).mono ?_
  rintro e w1 ⟨rfl, hb1⟩
  have hb := below_call (below_box w _) (by simp) hb1
  have hM := (HasO.new w (.cells m.cs.toArray 26)).call hb1
  have hc := hM.cells
  have hz := hb1.size
  clear hb1
  go_wp2_with fail
  refine (count_any m _ hV).mono ?_
  rintro e w2 ⟨rfl, hb2⟩
  have hb := below_call hb hb.size hb2
  replace hM := hM.call hb2
  replace hc := hM.cells
  replace hz := Nat.le_trans hz hb2.size
  clear hb2
  by_cases h : countN m ≤ 1048576
  ·have he := Lib.hid (show cntE m = ((countN m : Int), 0) by simp [cntE, hv, h])
   go_wp2_with fail
   refine (count_any m _ hV).mono ?_
   rintro e w3 ⟨rfl, hb3⟩
   have hb := below_call hb hb.size hb3
   clear hb3
   go_wp2_with fail
   go_ret2
   exact ⟨by rw [he.out]; rfl, hb⟩
  ·have he := Lib.hid (show cntE m = (0, 7) by simp [cntE, hv, h])
   go_wp2_with fail
   go_ret2
   exact ⟨by rw [he.out]; rfl, hb⟩
theorem hasO_w {w : World} {B : Nat} {m : Men} (h : HasO w B (.cells m.cs.toArray 26 (0, 0))) {k : Nat} (hk : k < 5) : w.cell? ⟨B, 2 + k, none⟩ = some (.int .i64 (m.sw k)) := by
 rw [h.cells]; have := m.cs_w hk; simpa using this
theorem hasO_b {w : World} {B : Nat} {m : Men} (h : HasO w B (.cells m.cs.toArray 26 (0, 0))) {k : Nat} (hk : k < 5) : w.cell? ⟨B, 7 + k, none⟩ = some (.int .i64 (m.sb k)) := by
 rw [h.cells]; have := m.cs_b hk; simpa using this

theorem pieces_any (m : Men) (w : World) (hm : menOk m = true) : Calls Tryz.prog 40 #[.agg m.cs.toArray] w fun e w' => e = .returned (.int .i64 (m.upto 5)) ∧ Below w.heap.size w w' := by
 have hM0 : HasO (w.alloc (.cells m.cs.toArray 26)) w.heap.size (.cells m.cs.toArray 26 (0, 0)) := HasO.new _ _
 have hb0 := below_box w (.cells m.cs.toArray 26)
 replace hm := Lib.hid hm
 go_enter Tryz.func40, Tryz.ntmps40
 go_wp2_with fail
 go_loopg [3, 4] 5 (fun q n i wr => ∃ k, q + k = 5 ∧ n = .int .i64 (m.upto k) ∧ i = .int .i64 k ∧ Below w.heap.size w wr ∧ HasO wr w.heap.size (.cells m.cs.toArray 26 (0, 0)))
 case atStart => exact ⟨0, rfl, rfl, rfl, hb0, hM0⟩
 case round =>
  clear hM0 hb0
  obtain ⟨k, hg, rfl, rfl, hb, hM⟩ := hrel
  by_cases hk : k < 5
  ·have hkk : (k : Int) < 5 := by omega
   have hc1 := hasO_w hM hk
   have hc2 := hasO_b hM hk
   have h1 := upto_bd hm.out (k := k) (by omega)
   have h2 := menOk_at hm.out hk
   have e1 : m.upto k + m.sw k + m.sb k = m.upto (k + 1) := by simp only [Men.upto]; omega
   replace e1 := Lib.hid e1
   go_wp2_with fail
   go_quiet (fail)
   go_wp2_with fail
   rw [e1.out]
   go_roundg (gk - 1)
   case measure => omega
   case rel => exact ⟨k + 1, by omega, rfl, by go_num, below_drewN hb _, hM.drewN _⟩
  ·obtain rfl : k = 5 := by omega
   go_wp2_with fail
   go_ret
   exact ⟨rfl, hb⟩

theorem refValid_any (m : Men) (w : World) : Calls Tryz.prog 10 #[.agg m.cs.toArray] w fun e w' => e = .returned (.bool (validB m)) ∧ Below w.heap.size w w' := by
 have hM0 : HasO (w.alloc (.cells m.cs.toArray 26)) w.heap.size (.cells m.cs.toArray 26 (0, 0)) := HasO.new _ _
 have hb0 := below_box w (.cells m.cs.toArray 26)
 go_enter Tryz.func10, Tryz.ntmps10
 rcases hs : sizeB m.f m.r with _ | _
 ·go_wp2_with fail
  refine (size_any _ _ _).mono ?_
  rintro e w1 ⟨rfl, hb1⟩
  have hb := below_call hb0 hb0.size hb1
  clear hb1 hb0 hM0
  go_wp2_with fail
  go_ret
  exact ⟨ret_bool (by simp [validB, hs]), hb⟩
 ·go_wp2_with fail
  refine (size_any _ _ _).mono ?_
  rintro e w1 ⟨rfl, hb1⟩
  have hb1' := below_call hb0 hb0.size hb1
  have hM1 := hM0.call hb1
  clear hb1 hb0 hM0
  go_wp2_with fail
  replace hs := Lib.hid hs
  go_loopg [3] 5 (fun q i wr => ∃ k, q + k = 5 ∧ i = .int .i64 k ∧ Below w.heap.size w wr ∧ HasO wr w.heap.size (.cells m.cs.toArray 26 (0, 0)) ∧ Hid (∀ j, j < k → m.okAt j = true))
  case atStart => exact ⟨0, rfl, rfl, hb1', hM1, Lib.hid (fun j h => by omega)⟩
  case round =>
   clear hM1 hb1'
   obtain ⟨k, hg, rfl, hb, hM, hok⟩ := hrel
   by_cases hk : k < 5
   ·have hkk : (k : Int) < 5 := by omega
    have hc1 := hasO_w hM hk
    have hc2 := hasO_b hM hk
    rcases hbk : m.okAt k with _ | _
    ·have hb2 := Lib.hid (validB_bad hk hbk)
     replace hbk := Lib.hid hbk
     by_cases h1 : m.sw k < 0
     ·go_wp2_with fail
      go_ret
      exact ⟨ret_bool hb2.out.symm, hb⟩
     by_cases h2 : 4 < m.sw k
     ·go_wp2_with fail
      go_ret
      exact ⟨ret_bool hb2.out.symm, hb⟩
     by_cases h3 : m.sb k < 0
     ·go_wp2_with fail
      go_ret
      exact ⟨ret_bool hb2.out.symm, hb⟩
     by_cases h4 : 4 < m.sb k
     ·go_wp2_with fail
      go_ret
      exact ⟨ret_bool hb2.out.symm, hb⟩
     exfalso
     have := hbk.out
     simp [Men.okAt] at this
     omega
    ·have h2 := okAt_bounds hbk
     replace hbk := Lib.hid hbk
     go_wp2_with fail
     go_roundg (gk - 1)
     case measure => omega
     case rel => exact ⟨k + 1, by omega, by go_num, hb, hM, Lib.hid (fun j hj => by
      by_cases hjk : j < k
      ·exact hok.out j hjk
      ·obtain rfl : j = k := by omega
       exact hbk.out)⟩
   ·obtain rfl : k = 5 := by omega
    have hm : menOk m = true := (menOk_iff m).2 (fun j hj => hok.out j hj)
    replace hm := Lib.hid hm
    have hc := hM.cells
    have hu := upto_bd hm.out (k := 5) (by omega)
    go_wp2_with fail
    refine (pieces_any m _ hm.out).mono ?_
    rintro e w2 ⟨rfl, hb2⟩
    have hb := below_call hb hb.size hb2
    have hc := (hM.call hb2).cells
    clear hb2 hM
    by_cases h4 : m.upto 5 ≤ 4
    ·by_cases h5 : m.w0 = 0
     ·have h5' : (m.w0 == 0) = true := by simp [h5]
      replace h5 := Lib.hid h5
      go_wp2_with fail
      go_ret
      exact ⟨ret_bool (by simp [validB, hs.out, hm.out, h4, pawnB, h5.out]), hb⟩
     ·have h5' : (m.w0 == 0) = false := by simp [h5]
      by_cases h6 : m.b0 = 0
      ·have h6' : (m.b0 == 0) = true := by simp [h6]
       replace h6 := Lib.hid h6
       go_wp2_with fail
       go_ret
       exact ⟨ret_bool (by simp [validB, hs.out, hm.out, h4, pawnB, h5, h6.out]), hb⟩
      ·have h6' : (m.b0 == 0) = false := by simp [h6]
       go_wp2_with fail
       go_ret
       exact ⟨ret_bool (by simp [validB, hs.out, hm.out, h4, pawnB, h5, h6]), hb⟩
    ·go_wp2_with fail
     go_ret
     exact ⟨ret_bool (by have h4' : decide (m.upto 5 ≤ 4) = false := decide_eq_false (by omega); simp [validB, h4']), hb⟩
abbrev five5 (g : Nat → Int) : List Value := [.int .i64 (g 0), .int .i64 (g 1), .int .i64 (g 2), .int .i64 (g 3), .int .i64 (g 4)]

theorem side_any2 (g : Nat → Int) (hg : ∀ j, j < 5 → 0 ≤ g j ∧ g j ≤ 4) (w : World) : Calls Tryz.prog 41 #[.agg (five5 g).toArray] w fun e w' => e = .returned (.string (str (sideL g))) ∧ Below w.heap.size w w' := by
 have hb0 := below_box w (.cells (five5 g).toArray 24)
 have hM0 : HasO (w.alloc (.cells (five5 g).toArray 24)) w.heap.size (.cells (five5 g).toArray 24 (0, 0)) := HasO.new _ _
 replace hg := Lib.hid hg
 go_enter Tryz.func41, Tryz.ntmps41
 go_wp2_with fail
 go_loopg [3, 4] 5 (fun q s i wr => ∃ j, q + j = 5 ∧ s = .string (str (sideN g j)) ∧ i = .int .i64 (4 - (j : Int)) ∧ Below w.heap.size w wr ∧ HasO wr w.heap.size (.cells (five5 g).toArray 24 (0, 0)))
 case atStart => exact ⟨0, rfl, rfl, rfl, hb0, hM0⟩
 case round =>
  clear hM0 hb0
  obtain ⟨j, hq, rfl, rfl, hb, hM⟩ := hrel
  obtain ⟨g1, hg1⟩ : ∃ x, x = gk := ⟨_, rfl⟩
  subst hg1
  by_cases hj : j < 5
  ·have hjj : (j : Int) < 5 := by omega
   have hc := hM.cells (4 - j)
   have hv : (five5 g).toArray[4 - j]? = some (.int .i64 (g (4 - j))) := by rcases five hj with rfl | rfl | rfl | rfl | rfl <;> rfl
   rw [hv] at hc
   go_wp2_with fail
   go_loopg [3, 5] 4 (fun q s i wr => ∃ k : Nat, q + k = 4 ∧ s = .string (str (sideN g j ++ List.replicate k (pnL[4 - j]?.getD 0))) ∧ i = .int .i64 (k : Int) ∧ (k : Int) ≤ g (4 - j) ∧ Below w.heap.size w wr ∧ HasO wr w.heap.size (.cells (five5 g).toArray 24 (0, 0)))
   case atStart => exact ⟨0, rfl, by simp, rfl, (hg.out _ (by omega)).1, hb, hM⟩
   case round =>
    clear hb hM hc
    obtain ⟨k, hq2, rfl, rfl, hkg, hb, hM⟩ := hrel
    have hc := hM.cells (4 - j)
    rw [hv] at hc
    have hgb := hg.out (4 - j) (by omega)
    by_cases hk : (k : Int) < g (4 - j)
    ·have hl : (str (sideN g j ++ List.replicate k (pnL[4 - j]?.getD 0))).size ≤ 100 := by
      have := sideN_len hg.out (j := j) (by omega)
      rw [str_size]; simp; omega
     have hst := Lib.hid (sideN_step (sideN g j) k (i := 4 - j) (by omega))
     go_wp2_with fail
     go_roundg (gk - 1)
     case measure => omega
     case rel => exact ⟨k + 1, by omega, by rw [hst.out], by go_num, by omega, hb, hM⟩
    ·go_wp2_with fail
     have e : sideN g j ++ List.replicate k (pnL[4 - j]?.getD 0) = sideN g (j + 1) := by
      rw [show k = (g (4 - j)).toNat by omega]; rfl
     go_roundg (g1 - 1)
     case measure => omega
     case rel => exact ⟨j + 1, by omega, by rw [e], by go_num, hb, hM⟩
  ·obtain rfl : j = 5 := by omega
   go_wp2_with fail
   go_ret
   exact ⟨rfl, hb⟩
end Go.Proofs.YtnpomigmeieofaaGreatDoor
