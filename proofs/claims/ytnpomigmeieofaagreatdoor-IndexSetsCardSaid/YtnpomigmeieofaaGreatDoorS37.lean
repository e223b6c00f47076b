import Derived.Test.YtnpomigmeieofaaGreatDoorS36
set_option maxHeartbeats 12800000
namespace Go.Proofs.YtnpomigmeieofaaGreatDoor
open Go.RowKit

theorem flip_sw (m : Men) {k : Nat} (hk : k < 5) : (flipM m).sw k = m.sb k := by rcases five hk with rfl | rfl | rfl | rfl | rfl <;> rfl
theorem setB_cs (m : Men) {k : Nat} (hk : k < 5) (v : Int) : m.cs.toArray.setIfInBounds (7 + k) (.int .i64 v) = (flipM (setW_ (flipM m) k v)).cs.toArray := by
 rcases five hk with rfl | rfl | rfl | rfl | rfl <;> rfl
def fewC (m : Men) (b : Bool) (k : Nat) : List Men := if b then (fewL (flipM m) k).map flipM else fewL m k
def proC (m : Men) (b : Bool) (i : Nat) : Men := if b then flipM (proM (flipM m) i) else proM m i
def pwC (m : Men) (b : Bool) : Int := if b then m.b0 else m.w0
def prC (m : Men) (b : Bool) : Nat → List Men
 | 0 => []
 | j + 1 => if 0 < pwC m b then prC m b j ++ [proC m b (j + 1)] else prC m b j
theorem fewC_len (m : Men) (b : Bool) (k : Nat) : (fewC m b k).length ≤ k := by
 unfold fewC
 cases b
 ·exact fewL_len m k
 ·simpa using fewL_len (flipM m) k
theorem prC_len (m : Men) (b : Bool) : ∀ k, (prC m b k).length ≤ k := by
 intro k
 induction k with
 | zero => exact Nat.le_refl _
 | succ k ih =>
  unfold prC
  split
  ·simp; omega
  ·omega
theorem proM_b (m : Men) {i : Nat} (h1 : 1 ≤ i) (h4 : i ≤ 4) : ((m.cs.toArray.setIfInBounds (7 + 0) (.int .i64 (m.b0 - 1))).setIfInBounds (7 + i) (.int .i64 (m.sb i + 1))) = (flipM (proM (flipM m) i)).cs.toArray := by
 rcases (by omega : i = 1 ∨ i = 2 ∨ i = 3 ∨ i = 4) with rfl | rfl | rfl | rfl <;> rfl
theorem proM_w (m : Men) {i : Nat} (h1 : 1 ≤ i) (h4 : i ≤ 4) : ((m.cs.toArray.setIfInBounds (2 + 0) (.int .i64 (m.w0 - 1))).setIfInBounds (2 + i) (.int .i64 (m.sw i + 1))) = (proM m i).cs.toArray := by
 rcases (by omega : i = 1 ∨ i = 2 ∨ i = 3 ∨ i = 4) with rfl | rfl | rfl | rfl <;> rfl
theorem cs_set (m : Men) (o k : Nat) (hk : 0 < k) (u v : Value) (h : m.cs[o + k]? = some v) : (m.cs.toArray.setIfInBounds (o + 0) u)[o + k]? = some v := by
 rw [Array.getElem?_setIfInBounds_ne (by omega)]
 simpa using h
set_option maxRecDepth 100000 in
theorem fewW_any (m : Men) (w : World) (hb : mB m 100) : Calls Tryz.prog 74 #[.agg m.cs.toArray, .bool false] w fun e w' => (∃ v, e = .returned v ∧ w'.ownsRow w.heap.size 26 12 v (fewC m false 5).length (mensV (fewC m false 5))) ∧ Below w.heap.size w w' := by
 obtain ⟨i0, hi, hz0, hz1, hz2⟩ := info_parts info26
 have hM := HasO.new w (.cells m.cs.toArray 26)
 have hB := below_box w (.cells m.cs.toArray 26)
 go_enter Tryz.func74, Tryz.ntmps74
 go_upto_region 1 with fail
 show Code.wp _ _ _ _ (w.alloc (.cells m.cs.toArray 26))
 have hs1 : w.heap.size + 1 ≤ (w.alloc (.cells m.cs.toArray 26)).heap.size := by simp
 generalize w.alloc (.cells m.cs.toArray 26) = w1 at *
 go_wp2_with fail
 go_loopg [5, 6] 5 (fun q lv iv wr => ∃ k : Nat, ∃ wz, wz = wr ∧ q + k = 5 ∧ iv = .int .i64 (k : Nat) ∧ HasO wr w.heap.size (.cells m.cs.toArray 26 (0, 0)) ∧ Below w.heap.size w wr ∧ w.heap.size + 1 ≤ wr.heap.size ∧ wr.ownsRow (w.heap.size + 1) 26 12 lv (fewC m false k).length (mensV (fewC m false k)))
 case atStart => exact ⟨0, _, rfl, rfl, rfl, hM, hB, hs1, World.ownsRow_nil _ _ _ _⟩
 case round =>
  clear hM hB hs1
  obtain ⟨k, w2, rfl, hg, rfl, hM, hB, hs, hown⟩ := hrel
  by_cases hk : k < 5
  ·have hkk : (k : Int) < 5 := by omega
   have hX := HasO.new w2 (.cells m.cs.toArray 26)
   have hbX := below_box w2 (.cells m.cs.toArray 26)
   have hM3 := hM.call hbX
   have hB3 := below_call hB hB.size hbX
   have hown3 := own_call hown hbX
   have hlM := hM.lt
   have hlo := fun q e => (hown.lt q e).2
   have hz3 := hbX.size
   go_upto_region 6 with (first | (refine wpList_loadO rfl 26 (.tmp 2) rfl w.heap.size _ 26 rfl hM (by kernel_rfl) ?_) | fail)
   show Code.wp _ _ _ _ (w2.alloc (.cells m.cs.toArray 26))
   generalize w2.alloc (.cells m.cs.toArray 26) = w3 at *
   obtain ⟨q5, hq5⟩ : ∃ q, q = w2.heap.size := ⟨_, rfl⟩
   rw [← hq5] at hX hlM hlo hs hz3 ⊢
   clear hM hB hown hbX hq5
   have hcm := hM3.cells (2 + k)
   rw [show m.cs.toArray[2 + k]? = some (.int .i64 (m.sw k)) from by have := m.cs_w hk; simpa using this] at hcm
   have hcx := hX.cells (2 + k)
   rw [show m.cs.toArray[2 + k]? = some (.int .i64 (m.sw k)) from by have := m.cs_w hk; simpa using this] at hcx
   have hfx := hX.frozen (2 + k)
   have hlx := hX.lt
   have hbk := (hb k hk).1
   have e1 : IntKind.i64.wrap (m.sw k - 1) = m.sw k - 1 := IntWalk.i64_in _ (by omega)
   have hll := fewC_len m false k
   rcases hp : decide (0 < m.sw k) with _ | _
   ·have hp2 : ¬ (0 : Int) < m.sw k := by simpa using hp
    have hnx : fewC m false (k + 1) = fewC m false k := by
     show fewL m (k + 1) = fewL m k
     rw [fewL, if_neg hp2]
    replace hnx := Lib.hid hnx
    go_wp2_with fail
    go_roundg (gk - 1)
    case measure => omega
    case rel => exact ⟨k + 1, _, rfl, by omega, by go_num, hM3, hB3, by omega, by rw [hnx.out]; exact hown3⟩
   ·have hp2 : (0 : Int) < m.sw k := by simpa using hp
    have hnx : fewC m false (k + 1) = fewC m false k ++ [setW_ m k (m.sw k - 1)] := by
     show fewL m (k + 1) = fewL m k ++ _
     rw [fewL, if_pos hp2]
    replace hnx := Lib.hid hnx
    have hX2 := hX.set_ (2 + k) (.int .i64 (m.sw k - 1))
    rw [setW_cs m hk] at hX2
    obtain ⟨m2, hm2⟩ : ∃ m2, m2 = setW_ m k (m.sw k - 1) := ⟨_, rfl⟩
    rw [← hm2] at hX2 hnx
    have hA : Alt q5 (q5 + 1) w3 (w3.setCell ⟨q5, 2 + k, none⟩ (.int .i64 (m.sw k - 1))) := Alt.setCell (p := ⟨q5, 2 + k, none⟩) ⟨Nat.le_refl q5, Nat.lt_succ_self q5⟩
    have hM4 := hA.hasO hM3 (.inl hlM)
    have hB4 := hA.below hB3 (by omega) (by omega)
    have hown4 := hA.own hown3 (fun q e => .inl (hlo q e))
    have hz4 := hA.size
    have hbs : w.heap.size + 1 ≤ (w3.setCell ⟨q5, 2 + k, none⟩ (.int .i64 (m.sw k - 1))).heap.size := by omega
    replace hm2 := Lib.hid hm2
    clear hA hM3 hB3 hown3 hX
    go_upto_region 11 with fail
    show Code.wp _ _ _ _ (w3.setCell ⟨q5, 2 + k, none⟩ (.int .i64 (m.sw k - 1)))
    generalize w3.setCell ⟨q5, 2 + k, none⟩ (.int .i64 (m.sw k - 1)) = w4 at *
    clear hcx hfx hlx hcm
    go_wp2_with (first | (refine wpList_loadO rfl 26 (.tmp 7) rfl q5 _ 26 rfl hX2 (by kernel_rfl) ?_) | (at_builtin; refine wpList_push rfl (.tmp 48) (.tmp 50) 57 rfl (w.heap.size + 1) 26 i0 _ 12 96 Tryz.underlying57 hi hz0 hz1 hz2 rfl (by decide) _ (fewC m false k).length (mensV (fewC m false k)) rfl hown4 m2.cs rfl (men_one26 m2) _ rfl rfl (by omega) hbs ?_))
    intro v' w9 hown9 hg9 _
    have hM9 := hM4.grown hg9 (fun e => by have := hown4.lt _ e; omega)
    have hB9 := hB4.grown hg9 (by omega) (fun j e => by have := hown4.lt _ e; omega)
    have hz9 := hg9.size
    replace hown9 : w9.ownsRow (w.heap.size + 1) 26 12 v' (fewC m false (k + 1)).length (mensV (fewC m false (k + 1))) := by rw [hnx.out, mensV_snoc, List.length_append]; exact hown9
    clear hown4 hM4 hB4 hg9 hX2
    go_wp2_with fail
    go_roundg (gk - 1)
    case measure => omega
    case rel => exact ⟨k + 1, _, rfl, by omega, by go_num, hM9, hB9, by omega, hown9⟩
  ·have hkk : ¬ (k : Int) < 5 := by omega
   obtain rfl : k = 5 := by omega
   clear hM
   go_wp2_with fail
   go_ret
   exact ⟨⟨_, rfl, own_mono hown (by omega)⟩, hB⟩
set_option maxRecDepth 100000 in
theorem fewB_any (m : Men) (w : World) (hb : mB m 100) : Calls Tryz.prog 74 #[.agg m.cs.toArray, .bool true] w fun e w' => (∃ v, e = .returned v ∧ w'.ownsRow w.heap.size 26 12 v (fewC m true 5).length (mensV (fewC m true 5))) ∧ Below w.heap.size w w' := by
 obtain ⟨i0, hi, hz0, hz1, hz2⟩ := info_parts info26
 have hM := HasO.new w (.cells m.cs.toArray 26)
 have hB := below_box w (.cells m.cs.toArray 26)
 go_enter Tryz.func74, Tryz.ntmps74
 go_upto_region 1 with fail
 show Code.wp _ _ _ _ (w.alloc (.cells m.cs.toArray 26))
 have hs1 : w.heap.size + 1 ≤ (w.alloc (.cells m.cs.toArray 26)).heap.size := by simp
 generalize w.alloc (.cells m.cs.toArray 26) = w1 at *
 go_wp2_with fail
 go_loopg [5, 6] 5 (fun q lv iv wr => ∃ k : Nat, ∃ wz, wz = wr ∧ q + k = 5 ∧ iv = .int .i64 (k : Nat) ∧ HasO wr w.heap.size (.cells m.cs.toArray 26 (0, 0)) ∧ Below w.heap.size w wr ∧ w.heap.size + 1 ≤ wr.heap.size ∧ wr.ownsRow (w.heap.size + 1) 26 12 lv (fewC m true k).length (mensV (fewC m true k)))
 case atStart => exact ⟨0, _, rfl, rfl, rfl, hM, hB, hs1, World.ownsRow_nil _ _ _ _⟩
 case round =>
  clear hM hB hs1
  obtain ⟨k, w2, rfl, hg, rfl, hM, hB, hs, hown⟩ := hrel
  by_cases hk : k < 5
  ·have hkk : (k : Int) < 5 := by omega
   have hX := HasO.new w2 (.cells m.cs.toArray 26)
   have hbX := below_box w2 (.cells m.cs.toArray 26)
   have hM3 := hM.call hbX
   have hB3 := below_call hB hB.size hbX
   have hown3 := own_call hown hbX
   have hlM := hM.lt
   have hlo := fun q e => (hown.lt q e).2
   have hz3 := hbX.size
   go_upto_region 6 with (first | (refine wpList_loadO rfl 26 (.tmp 2) rfl w.heap.size _ 26 rfl hM (by kernel_rfl) ?_) | fail)
   show Code.wp _ _ _ _ (w2.alloc (.cells m.cs.toArray 26))
   generalize w2.alloc (.cells m.cs.toArray 26) = w3 at *
   obtain ⟨q5, hq5⟩ : ∃ q, q = w2.heap.size := ⟨_, rfl⟩
   rw [← hq5] at hX hlM hlo hs hz3 ⊢
   clear hM hB hown hbX hq5
   have hcm := hM3.cells (7 + k)
   rw [show m.cs.toArray[7 + k]? = some (.int .i64 (m.sb k)) from by have := m.cs_b hk; simpa using this] at hcm
   have hcx := hX.cells (7 + k)
   rw [show m.cs.toArray[7 + k]? = some (.int .i64 (m.sb k)) from by have := m.cs_b hk; simpa using this] at hcx
   have hfx := hX.frozen (7 + k)
   have hlx := hX.lt
   have hbk := (hb k hk).2
   have e1 : IntKind.i64.wrap (m.sb k - 1) = m.sb k - 1 := IntWalk.i64_in _ (by omega)
   have hll := fewC_len m true k
   rcases hp : decide (0 < m.sb k) with _ | _
   ·have hp2 : ¬ (0 : Int) < m.sb k := by simpa using hp
    have hnx : fewC m true (k + 1) = fewC m true k := by
     show (fewL (flipM m) (k + 1)).map flipM = (fewL (flipM m) k).map flipM
     rw [fewL, if_neg (by rw [flip_sw m hk]; exact hp2)]
    replace hnx := Lib.hid hnx
    go_wp2_with fail
    go_roundg (gk - 1)
    case measure => omega
    case rel => exact ⟨k + 1, _, rfl, by omega, by go_num, hM3, hB3, by omega, by rw [hnx.out]; exact hown3⟩
   ·have hp2 : (0 : Int) < m.sb k := by simpa using hp
    have hnx : fewC m true (k + 1) = fewC m true k ++ [flipM (setW_ (flipM m) k (m.sb k - 1))] := by
     show (fewL (flipM m) (k + 1)).map flipM = (fewL (flipM m) k).map flipM ++ _
     rw [fewL, if_pos (by rw [flip_sw m hk]; exact hp2), List.map_append, flip_sw m hk]
     rfl
    replace hnx := Lib.hid hnx
    have hX2 := hX.set_ (7 + k) (.int .i64 (m.sb k - 1))
    rw [setB_cs m hk] at hX2
    obtain ⟨m2, hm2⟩ : ∃ m2, m2 = flipM (setW_ (flipM m) k (m.sb k - 1)) := ⟨_, rfl⟩
    rw [← hm2] at hX2 hnx
    have hA : Alt q5 (q5 + 1) w3 (w3.setCell ⟨q5, 7 + k, none⟩ (.int .i64 (m.sb k - 1))) := Alt.setCell (p := ⟨q5, 7 + k, none⟩) ⟨Nat.le_refl q5, Nat.lt_succ_self q5⟩
    have hM4 := hA.hasO hM3 (.inl hlM)
    have hB4 := hA.below hB3 (by omega) (by omega)
    have hown4 := hA.own hown3 (fun q e => .inl (hlo q e))
    have hz4 := hA.size
    have hbs : w.heap.size + 1 ≤ (w3.setCell ⟨q5, 7 + k, none⟩ (.int .i64 (m.sb k - 1))).heap.size := by omega
    replace hm2 := Lib.hid hm2
    clear hA hM3 hB3 hown3 hX
    go_upto_region 8 with fail
    show Code.wp _ _ _ _ (w3.setCell ⟨q5, 7 + k, none⟩ (.int .i64 (m.sb k - 1)))
    generalize w3.setCell ⟨q5, 7 + k, none⟩ (.int .i64 (m.sb k - 1)) = w4 at *
    clear hcx hfx hlx hcm
    go_wp2_with (first | (refine wpList_loadO rfl 26 (.tmp 7) rfl q5 _ 26 rfl hX2 (by kernel_rfl) ?_) | (at_builtin; refine wpList_push rfl (.tmp 28) (.tmp 30) 57 rfl (w.heap.size + 1) 26 i0 _ 12 96 Tryz.underlying57 hi hz0 hz1 hz2 rfl (by decide) _ (fewC m true k).length (mensV (fewC m true k)) rfl hown4 m2.cs rfl (men_one26 m2) _ rfl rfl (by omega) hbs ?_))
    intro v' w9 hown9 hg9 _
    have hM9 := hM4.grown hg9 (fun e => by have := hown4.lt _ e; omega)
    have hB9 := hB4.grown hg9 (by omega) (fun j e => by have := hown4.lt _ e; omega)
    have hz9 := hg9.size
    replace hown9 : w9.ownsRow (w.heap.size + 1) 26 12 v' (fewC m true (k + 1)).length (mensV (fewC m true (k + 1))) := by rw [hnx.out, mensV_snoc, List.length_append]; exact hown9
    clear hown4 hM4 hB4 hg9 hX2
    go_wp2_with fail
    go_roundg (gk - 1)
    case measure => omega
    case rel => exact ⟨k + 1, _, rfl, by omega, by go_num, hM9, hB9, by omega, hown9⟩
  ·have hkk : ¬ (k : Int) < 5 := by omega
   obtain rfl : k = 5 := by omega
   clear hM
   go_wp2_with fail
   go_ret
   exact ⟨⟨_, rfl, own_mono hown (by omega)⟩, hB⟩
set_option maxRecDepth 100000 in
theorem proW_any (m : Men) (w : World) (hb : mB m 100) : Calls Tryz.prog 75 #[.agg m.cs.toArray, .bool false] w fun e w' => (∃ v, e = .returned v ∧ w'.ownsRow w.heap.size 26 12 v (prC m false 4).length (mensV (prC m false 4))) ∧ Below w.heap.size w w' := by
 obtain ⟨i0, hi0, hz0, hz1, hz2⟩ := info_parts info26
 have hM := HasO.new w (.cells m.cs.toArray 26)
 have hB := below_box w (.cells m.cs.toArray 26)
 go_enter Tryz.func75, Tryz.ntmps75
 go_upto_region 1 with fail
 show Code.wp _ _ _ _ (w.alloc (.cells m.cs.toArray 26))
 have hs1 : w.heap.size + 1 ≤ (w.alloc (.cells m.cs.toArray 26)).heap.size := by simp
 generalize w.alloc (.cells m.cs.toArray 26) = w1 at *
 go_wp2_with fail
 go_loopg [5, 6] 4 (fun q lv iv wr => ∃ j : Nat, ∃ wz, wz = wr ∧ q + j = 4 ∧ iv = .int .i64 ((j + 1 : Nat) : Int) ∧ HasO wr w.heap.size (.cells m.cs.toArray 26 (0, 0)) ∧ Below w.heap.size w wr ∧ w.heap.size + 1 ≤ wr.heap.size ∧ wr.ownsRow (w.heap.size + 1) 26 12 lv (prC m false j).length (mensV (prC m false j)))
 case atStart => exact ⟨0, _, rfl, rfl, rfl, hM, hB, hs1, World.ownsRow_nil _ _ _ _⟩
 case round =>
  clear hM hB hs1
  obtain ⟨j, w2, rfl, hg, rfl, hM, hB, hs, hown⟩ := hrel
  by_cases hk : j < 4
  ·obtain ⟨i, hi⟩ : ∃ i, i = j + 1 := ⟨_, rfl⟩
   rw [← hi]
   have hkk : (i : Int) < 5 := by omega
   have hi1 : 1 ≤ i := by omega
   have hi4 : i ≤ 4 := by omega
   replace hi := Lib.hid hi
   have hX := HasO.new w2 (.cells m.cs.toArray 26)
   have hbX := below_box w2 (.cells m.cs.toArray 26)
   have hM3 := hM.call hbX
   have hB3 := below_call hB hB.size hbX
   have hown3 := own_call hown hbX
   have hlM := hM.lt
   have hlo := fun q e => (hown.lt q e).2
   have hz3 := hbX.size
   go_upto_region 6 with (first | (refine wpList_loadO rfl 26 (.tmp 2) rfl w.heap.size _ 26 rfl hM (by kernel_rfl) ?_) | fail)
   show Code.wp _ _ _ _ (w2.alloc (.cells m.cs.toArray 26))
   generalize w2.alloc (.cells m.cs.toArray 26) = w3 at *
   obtain ⟨q5, hq5⟩ : ∃ q, q = w2.heap.size := ⟨_, rfl⟩
   rw [← hq5] at hX hlM hlo hs hz3 ⊢
   clear hM hB hown hbX hq5
   have hcm := hM3.cells 2
   have hcx := hX.cells 2
   have hfx := hX.frozen 2
   have hlx := hX.lt
   have hb0 := (hb 0 (by omega)).1
   simp only [Men.sw] at hb0
   have hbi := (hb i (by omega)).1
   have e1 : IntKind.i64.wrap (m.w0 - 1) = m.w0 - 1 := IntWalk.i64_in _ (by omega)
   have e2 : IntKind.i64.wrap (m.sw i + 1) = m.sw i + 1 := IntWalk.i64_in _ (by omega)
   have hll := prC_len m false j
   have hnx0 : prC m false i = if 0 < m.w0 then prC m false j ++ [proM m i] else prC m false j := by rw [hi.out]; rfl
   rcases hp : decide (0 < m.w0) with _ | _
   ·have hp2 : ¬ (0 : Int) < m.w0 := by simpa using hp
    rw [if_neg hp2] at hnx0
    replace hnx0 := Lib.hid hnx0
    go_wp2_with fail
    go_roundg (gk - 1)
    case measure => have := hi.out; omega
    case rel => exact ⟨i, _, rfl, by have := hi.out; omega, by go_num, hM3, hB3, by omega, by rw [hnx0.out]; exact hown3⟩
   ·have hp2 : (0 : Int) < m.w0 := by simpa using hp
    rw [if_pos hp2] at hnx0
    replace hnx0 := Lib.hid hnx0
    have hX1 := hX.set_ (2 + 0) (.int .i64 (m.w0 - 1))
    have hX2 := hX1.set_ (2 + i) (.int .i64 (m.sw i + 1))
    rw [proM_w m hi1 hi4] at hX2
    have hcx1 := hX1.cells (2 + i)
    rw [cs_set m 2 i hi1 _ _ (m.cs_w (by omega))] at hcx1
    have hfx1 := hX1.frozen (2 + i)
    obtain ⟨m2, hm2⟩ : ∃ m2, m2 = proM m i := ⟨_, rfl⟩
    rw [← hm2] at hX2 hnx0
    have hA : Alt q5 (q5 + 1) w3 ((w3.setCell ⟨q5, 2, none⟩ (.int .i64 (m.w0 - 1))).setCell ⟨q5, 2 + i, none⟩ (.int .i64 (m.sw i + 1))) := (Alt.setCell (p := ⟨q5, 2, none⟩) (u := .int .i64 (m.w0 - 1)) ⟨Nat.le_refl q5, Nat.lt_succ_self q5⟩).trans (Alt.setCell (p := ⟨q5, 2 + i, none⟩) ⟨Nat.le_refl q5, Nat.lt_succ_self q5⟩)
    have hM4 := hA.hasO hM3 (.inl hlM)
    have hB4 := hA.below hB3 (by omega) (by omega)
    have hown4 := hA.own hown3 (fun q e => .inl (hlo q e))
    have hz4 := hA.size
    change HasO ((w3.setCell ⟨q5, 2, none⟩ (.int .i64 (m.w0 - 1))).setCell ⟨q5, 2 + i, none⟩ (.int .i64 (m.sw i + 1))) q5 _ at hX2
    change (w3.setCell ⟨q5, 2, none⟩ (.int .i64 (m.w0 - 1))).cell? ⟨q5, 2 + i, none⟩ = _ at hcx1
    change (w3.setCell ⟨q5, 2, none⟩ (.int .i64 (m.w0 - 1))).frozen? ⟨q5, 2 + i, none⟩ = _ at hfx1
    have hbs : w.heap.size + 1 ≤ ((w3.setCell ⟨q5, 2, none⟩ (.int .i64 (m.w0 - 1))).setCell ⟨q5, 2 + i, none⟩ (.int .i64 (m.sw i + 1))).heap.size := by omega
    replace hm2 := Lib.hid hm2
    clear hA hM3 hB3 hown3 hX hX1
    go_upto_region 13 with fail
    show Code.wp _ _ _ _ ((w3.setCell ⟨q5, 2, none⟩ (.int .i64 (m.w0 - 1))).setCell ⟨q5, 2 + i, none⟩ (.int .i64 (m.sw i + 1)))
    generalize ((w3.setCell ⟨q5, 2, none⟩ (.int .i64 (m.w0 - 1))).setCell ⟨q5, 2 + i, none⟩ (.int .i64 (m.sw i + 1))) = w4 at *
    clear hcx hfx hlx hcm hcx1 hfx1 e1 e2
    go_wp2_with (first | (refine wpList_loadO rfl 26 (.tmp 7) rfl q5 _ 26 rfl hX2 (by kernel_rfl) ?_) | (at_builtin; refine wpList_push rfl (.tmp 58) (.tmp 60) 57 rfl (w.heap.size + 1) 26 i0 _ 12 96 Tryz.underlying57 hi0 hz0 hz1 hz2 rfl (by decide) _ (prC m false j).length (mensV (prC m false j)) rfl hown4 m2.cs rfl (men_one26 m2) _ rfl rfl (by omega) hbs ?_))
    intro v' w9 hown9 hg9 _
    have hM9 := hM4.grown hg9 (fun e => by have := hown4.lt _ e; omega)
    have hB9 := hB4.grown hg9 (by omega) (fun j e => by have := hown4.lt _ e; omega)
    have hz9 := hg9.size
    replace hown9 : w9.ownsRow (w.heap.size + 1) 26 12 v' (prC m false i).length (mensV (prC m false i)) := by rw [hnx0.out, mensV_snoc, List.length_append]; exact hown9
    clear hown4 hM4 hB4 hg9 hX2
    go_wp2_with fail
    go_roundg (gk - 1)
    case measure => have := hi.out; omega
    case rel => exact ⟨i, _, rfl, by have := hi.out; omega, by go_num, hM9, hB9, by omega, hown9⟩
  ·have hkk : ¬ ((j + 1 : Nat) : Int) < 5 := by omega
   obtain rfl : j = 4 := by omega
   clear hM
   go_wp2_with fail
   go_ret
   exact ⟨⟨_, rfl, own_mono hown (by omega)⟩, hB⟩
set_option maxRecDepth 100000 in
theorem proB_any (m : Men) (w : World) (hb : mB m 100) : Calls Tryz.prog 75 #[.agg m.cs.toArray, .bool true] w fun e w' => (∃ v, e = .returned v ∧ w'.ownsRow w.heap.size 26 12 v (prC m true 4).length (mensV (prC m true 4))) ∧ Below w.heap.size w w' := by
 obtain ⟨i0, hi0, hz0, hz1, hz2⟩ := info_parts info26
 have hM := HasO.new w (.cells m.cs.toArray 26)
 have hB := below_box w (.cells m.cs.toArray 26)
 go_enter Tryz.func75, Tryz.ntmps75
 go_upto_region 1 with fail
 show Code.wp _ _ _ _ (w.alloc (.cells m.cs.toArray 26))
 have hs1 : w.heap.size + 1 ≤ (w.alloc (.cells m.cs.toArray 26)).heap.size := by simp
 generalize w.alloc (.cells m.cs.toArray 26) = w1 at *
 go_wp2_with fail
 go_loopg [5, 6] 4 (fun q lv iv wr => ∃ j : Nat, ∃ wz, wz = wr ∧ q + j = 4 ∧ iv = .int .i64 ((j + 1 : Nat) : Int) ∧ HasO wr w.heap.size (.cells m.cs.toArray 26 (0, 0)) ∧ Below w.heap.size w wr ∧ w.heap.size + 1 ≤ wr.heap.size ∧ wr.ownsRow (w.heap.size + 1) 26 12 lv (prC m true j).length (mensV (prC m true j)))
 case atStart => exact ⟨0, _, rfl, rfl, rfl, hM, hB, hs1, World.ownsRow_nil _ _ _ _⟩
 case round =>
  clear hM hB hs1
  obtain ⟨j, w2, rfl, hg, rfl, hM, hB, hs, hown⟩ := hrel
  by_cases hk : j < 4
  ·obtain ⟨i, hi⟩ : ∃ i, i = j + 1 := ⟨_, rfl⟩
   rw [← hi]
   have hkk : (i : Int) < 5 := by omega
   have hi1 : 1 ≤ i := by omega
   have hi4 : i ≤ 4 := by omega
   replace hi := Lib.hid hi
   have hX := HasO.new w2 (.cells m.cs.toArray 26)
   have hbX := below_box w2 (.cells m.cs.toArray 26)
   have hM3 := hM.call hbX
   have hB3 := below_call hB hB.size hbX
   have hown3 := own_call hown hbX
   have hlM := hM.lt
   have hlo := fun q e => (hown.lt q e).2
   have hz3 := hbX.size
   go_upto_region 6 with (first | (refine wpList_loadO rfl 26 (.tmp 2) rfl w.heap.size _ 26 rfl hM (by kernel_rfl) ?_) | fail)
   show Code.wp _ _ _ _ (w2.alloc (.cells m.cs.toArray 26))
   generalize w2.alloc (.cells m.cs.toArray 26) = w3 at *
   obtain ⟨q5, hq5⟩ : ∃ q, q = w2.heap.size := ⟨_, rfl⟩
   rw [← hq5] at hX hlM hlo hs hz3 ⊢
   clear hM hB hown hbX hq5
   have hcm := hM3.cells 7
   have hcx := hX.cells 7
   have hfx := hX.frozen 7
   have hlx := hX.lt
   have hb0 := (hb 0 (by omega)).2
   simp only [Men.sb] at hb0
   have hbi := (hb i (by omega)).2
   have e1 : IntKind.i64.wrap (m.b0 - 1) = m.b0 - 1 := IntWalk.i64_in _ (by omega)
   have e2 : IntKind.i64.wrap (m.sb i + 1) = m.sb i + 1 := IntWalk.i64_in _ (by omega)
   have hll := prC_len m true j
   have hnx0 : prC m true i = if 0 < m.b0 then prC m true j ++ [flipM (proM (flipM m) i)] else prC m true j := by rw [hi.out]; rfl
   rcases hp : decide (0 < m.b0) with _ | _
   ·have hp2 : ¬ (0 : Int) < m.b0 := by simpa using hp
    rw [if_neg hp2] at hnx0
    replace hnx0 := Lib.hid hnx0
    go_wp2_with fail
    go_roundg (gk - 1)
    case measure => have := hi.out; omega
    case rel => exact ⟨i, _, rfl, by have := hi.out; omega, by go_num, hM3, hB3, by omega, by rw [hnx0.out]; exact hown3⟩
   ·have hp2 : (0 : Int) < m.b0 := by simpa using hp
    rw [if_pos hp2] at hnx0
    replace hnx0 := Lib.hid hnx0
    have hX1 := hX.set_ (7 + 0) (.int .i64 (m.b0 - 1))
    have hX2 := hX1.set_ (7 + i) (.int .i64 (m.sb i + 1))
    rw [proM_b m hi1 hi4] at hX2
    have hcx1 := hX1.cells (7 + i)
    rw [cs_set m 7 i hi1 _ _ (m.cs_b (by omega))] at hcx1
    have hfx1 := hX1.frozen (7 + i)
    obtain ⟨m2, hm2⟩ : ∃ m2, m2 = flipM (proM (flipM m) i) := ⟨_, rfl⟩
    rw [← hm2] at hX2 hnx0
    have hA : Alt q5 (q5 + 1) w3 ((w3.setCell ⟨q5, 7, none⟩ (.int .i64 (m.b0 - 1))).setCell ⟨q5, 7 + i, none⟩ (.int .i64 (m.sb i + 1))) := (Alt.setCell (p := ⟨q5, 7, none⟩) (u := .int .i64 (m.b0 - 1)) ⟨Nat.le_refl q5, Nat.lt_succ_self q5⟩).trans (Alt.setCell (p := ⟨q5, 7 + i, none⟩) ⟨Nat.le_refl q5, Nat.lt_succ_self q5⟩)
    have hM4 := hA.hasO hM3 (.inl hlM)
    have hB4 := hA.below hB3 (by omega) (by omega)
    have hown4 := hA.own hown3 (fun q e => .inl (hlo q e))
    have hz4 := hA.size
    change HasO ((w3.setCell ⟨q5, 7, none⟩ (.int .i64 (m.b0 - 1))).setCell ⟨q5, 7 + i, none⟩ (.int .i64 (m.sb i + 1))) q5 _ at hX2
    change (w3.setCell ⟨q5, 7, none⟩ (.int .i64 (m.b0 - 1))).cell? ⟨q5, 7 + i, none⟩ = _ at hcx1
    change (w3.setCell ⟨q5, 7, none⟩ (.int .i64 (m.b0 - 1))).frozen? ⟨q5, 7 + i, none⟩ = _ at hfx1
    have hbs : w.heap.size + 1 ≤ ((w3.setCell ⟨q5, 7, none⟩ (.int .i64 (m.b0 - 1))).setCell ⟨q5, 7 + i, none⟩ (.int .i64 (m.sb i + 1))).heap.size := by omega
    replace hm2 := Lib.hid hm2
    clear hA hM3 hB3 hown3 hX hX1
    go_upto_region 9 with fail
    show Code.wp _ _ _ _ ((w3.setCell ⟨q5, 7, none⟩ (.int .i64 (m.b0 - 1))).setCell ⟨q5, 7 + i, none⟩ (.int .i64 (m.sb i + 1)))
    generalize ((w3.setCell ⟨q5, 7, none⟩ (.int .i64 (m.b0 - 1))).setCell ⟨q5, 7 + i, none⟩ (.int .i64 (m.sb i + 1))) = w4 at *
    clear hcx hfx hlx hcm hcx1 hfx1 e1 e2
    go_wp2_with (first | (refine wpList_loadO rfl 26 (.tmp 7) rfl q5 _ 26 rfl hX2 (by kernel_rfl) ?_) | (at_builtin; refine wpList_push rfl (.tmp 33) (.tmp 35) 57 rfl (w.heap.size + 1) 26 i0 _ 12 96 Tryz.underlying57 hi0 hz0 hz1 hz2 rfl (by decide) _ (prC m true j).length (mensV (prC m true j)) rfl hown4 m2.cs rfl (men_one26 m2) _ rfl rfl (by omega) hbs ?_))
    intro v' w9 hown9 hg9 _
    have hM9 := hM4.grown hg9 (fun e => by have := hown4.lt _ e; omega)
    have hB9 := hB4.grown hg9 (by omega) (fun j e => by have := hown4.lt _ e; omega)
    have hz9 := hg9.size
    replace hown9 : w9.ownsRow (w.heap.size + 1) 26 12 v' (prC m true i).length (mensV (prC m true i)) := by rw [hnx0.out, mensV_snoc, List.length_append]; exact hown9
    clear hown4 hM4 hB4 hg9 hX2
    go_wp2_with fail
    go_roundg (gk - 1)
    case measure => have := hi.out; omega
    case rel => exact ⟨i, _, rfl, by have := hi.out; omega, by go_num, hM9, hB9, by omega, hown9⟩
  ·have hkk : ¬ ((j + 1 : Nat) : Int) < 5 := by omega
   obtain rfl : j = 4 := by omega
   clear hM
   go_wp2_with fail
   go_ret
   exact ⟨⟨_, rfl, own_mono hown (by omega)⟩, hB⟩
def SlM (W : World) (u : Value) (O : List Men) : Prop :=
 (O = [] ∧ u = .slice none 0 0) ∨ ∃ g o c, u = .slice (some ⟨g, o, none⟩) O.length c ∧ g < W.heap.size ∧ ∀ t v, (mensV O)[t]? = some v → W.cell? ⟨g, o + t, none⟩ = some v
theorem SlM.call {W W' : World} {u : Value} {O : List Men} (h : SlM W u O) (hb : Below W.heap.size W W') : SlM W' u O := by
 rcases h with h | ⟨g, o, c, rfl, hg, hc⟩
 ·exact .inl h
 ·exact .inr ⟨g, o, c, rfl, Nat.lt_of_lt_of_le hg hb.size, fun t v hv => (hb.cell (p := ⟨g, o + t, none⟩) hg).trans (hc t v hv)⟩
theorem own_slm {W : World} {base n : Nat} {v : Value} {L : List Men} (h : W.ownsRow base 26 12 v n (mensV L)) (hn : n = L.length) : SlM W v L := by
 subst hn
 have h0 := h
 rcases h.2 with ⟨rfl, hz⟩ | ⟨g, cap, cur, rfl, hb, hh, _⟩
 ·exact .inl ⟨List.length_eq_zero_iff.1 hz, rfl⟩
 ·exact .inr ⟨g, 0, cap, rfl, (Array.getElem?_eq_some_iff.1 hh).1, fun t u hu => by
   have h1 := h0.cells (g := g) rfl t u hu
   rwa [Addr.add_lit] at h1⟩
theorem sl_lo {W : World} {base n : Nat} {v : Value} {L : List Men} (h : W.ownsRow base 26 12 v n (mensV L)) (hn : n = L.length) {k : Nat} (hk : k ≤ n) : ∃ u, (∀ W', (Instr.sliceAt 57 v (some (.int .i64 k)) none none).run Tryz.prog W' = .ok u W') ∧ SlM W u (L.drop k) := by
 subst hn
 have h0 := h
 rcases h.2 with ⟨rfl, hz⟩ | ⟨g, cap, cur, rfl, hb, hh, hcap, _⟩
 ·obtain rfl := List.length_eq_zero_iff.1 hz
  obtain rfl : k = 0 := by simpa using hk
  exact ⟨_, fun W' => by kernel_rfl, .inl ⟨rfl, rfl⟩⟩
 ·by_cases hck : cap = k
  ·have hkl : k = L.length := by omega
   refine ⟨.slice (some ⟨g, 0, none⟩) (L.length - k) (cap - k), fun W' => ?_, .inr ⟨g, 0, cap - k, by rw [List.length_drop], (Array.getElem?_eq_some_iff.1 hh).1, fun t u hu => ?_⟩⟩
   ·simp [Instr.sliceAt, go_sem, run_underlying Tryz.underlying57, hk, hck]
   ·rw [List.drop_of_length_le (by omega)] at hu
    simp [mensV] at hu
  ·refine ⟨.slice (some ⟨g, k * 12, none⟩) (L.length - k) (cap - k), fun W' => ?_, .inr ⟨g, k * 12, cap - k, by rw [List.length_drop], (Array.getElem?_eq_some_iff.1 hh).1, fun t u hu => ?_⟩⟩
   ·simp [Instr.sliceAt, go_sem, run_underlying Tryz.underlying57, hk, hck]
   ·rw [mensV_drop, List.getElem?_drop] at hu
    have h1 := h0.cells (g := g) rfl _ u hu
    rwa [Addr.add_lit, Nat.zero_add] at h1
theorem sl_hi {W : World} {base n : Nat} {v : Value} {L : List Men} (h : W.ownsRow base 26 12 v n (mensV L)) (hn : n = L.length) {k : Nat} (hk : k ≤ n) : ∃ u, (∀ W', (Instr.sliceAt 57 v none (some (.int .i64 k)) none).run Tryz.prog W' = .ok u W') ∧ SlM W u (L.take k) := by
 subst hn
 have h0 := h
 rcases h.2 with ⟨rfl, hz⟩ | ⟨g, cap, cur, rfl, hb, hh, hcap, _⟩
 ·obtain rfl := List.length_eq_zero_iff.1 hz
  obtain rfl : k = 0 := by simpa using hk
  exact ⟨_, fun W' => by kernel_rfl, .inl ⟨rfl, rfl⟩⟩
 ·have hkc : k ≤ cap := by omega
  refine ⟨.slice (some ⟨g, 0, none⟩) k cap, fun W' => ?_, .inr ⟨g, 0, cap, by rw [List.length_take, Nat.min_eq_left hk], (Array.getElem?_eq_some_iff.1 hh).1, fun t u hu => ?_⟩⟩
  ·simp [Instr.sliceAt, go_sem, run_underlying Tryz.underlying57, hkc]
  ·rw [mensV_take, List.getElem?_take] at hu
   split at hu
   ·have h1 := h0.cells (g := g) rfl t u hu
    rwa [Addr.add_lit] at h1
   ·cases hu
section ops
variable {o : Oper} {a : Act} {w : World} {K : Act → World → Prop} {Q : Exit → Act → World → Prop} {t : Nat → Option Bool} {X : Prop}
theorem st_appendM (hg : o.guard = none) (s x : Operand) (ho : o.op = .call { callee := .builtin .append, args := #[s, x], argTypes := #[57, 57] })
  (base : Nat) (i : TypeInfo) (hi : Tryz.prog.info? 26 = some i) (hz : i.zero = some (.agg zeroMen.cs.toArray)) (hsize : i.size = 12) (hby : i.bytes = 96) {v u : Value} {n : Nat} {ys : List Value} {O : List Men}
  (hs : a.eval s = v) (hown : w.ownsRow base 26 12 v n ys) (hx : a.eval x = u) (hS : SlM w u O) (hbytes : n + O.length ≤ 100000000) (hbase : base ≤ w.heap.size)
  (h : ∀ v' w', w'.ownsRow base 26 12 v' (n + O.length) (ys ++ mensV O) → w.grownBy w' v.ownBlock → (v'.ownBlock = v.ownBlock ∨ v'.ownBlock = some w.heap.size) → K (a.put o.dst v') w') : if Region.wanted o t = true then o.wp Tryz.prog a w K Q else X := by
 rcases hS with ⟨rfl, rfl⟩ | ⟨g, of, c, rfl, hgl, hc⟩
 ·refine st_wp hg ?_
  have hr := run_append_owned_none (P := Tryz.prog) (w := w) base 57 o.type 26 i 12 Tryz.underlying57 hi v n ys hown
  unfold Oper.wp execOp
  simp only [ho, resolve, invoke, builtin, Sem.run_bind, Sem.run_pure, Result.andThen_ok, List.map_toArray, List.map_cons, List.map_nil, hs, hx, hr]
  exact h _ _ (by simpa [mensV] using hown) ⟨rfl, rfl, rfl, Nat.le_refl _, fun _ _ _ => rfl⟩ (.inl rfl)
 ·exact st_append hg s x 57 ho base 26 i _ 12 96 Tryz.underlying57 hi hz hsize hby rfl (by decide) v n ys hs hown ⟨g, of, none⟩ O.length c (mensV O) hx (mensV_len O) (fun j u hu => by rw [Addr.add_lit]; exact hc j u hu) (mensV_one O) (by omega) hbase h
end ops
theorem wpList_appendM {ops : Array Oper} {rest : List Oper} {o : Oper} {a : Act} {w : World} {Q : Exit → Act → World → Prop} (hg : o.guard = none) (s x : Operand) (ho : o.op = .call { callee := .builtin .append, args := #[s, x], argTypes := #[57, 57] })
  (base : Nat) (i : TypeInfo) (hi : Tryz.prog.info? 26 = some i) (hz : i.zero = some (.agg zeroMen.cs.toArray)) (hsize : i.size = 12) (hby : i.bytes = 96) {v u : Value} {n : Nat} {ys : List Value} {O : List Men}
  (hs : a.eval s = v) (hown : w.ownsRow base 26 12 v n ys) (hx : a.eval x = u) (hS : SlM w u O) (hbytes : n + O.length ≤ 100000000) (hbase : base ≤ w.heap.size)
  (h : ∀ v' w', w'.ownsRow base 26 12 v' (n + O.length) (ys ++ mensV O) → w.grownBy w' v.ownBlock → (v'.ownBlock = v.ownBlock ∨ v'.ownBlock = some w.heap.size) → wpList Tryz.prog ops Q rest (a.put o.dst v') w') : wpList Tryz.prog ops Q (o :: rest) a w := by
 refine wpList_plain hg fun K hK => ?_
 have h1 := st_appendM (K := K) (Q := Q) (t := fun _ => none) (X := False) hg s x ho base i hi hz hsize hby hs hown hx hS hbytes hbase (fun v' w' r1 r2 r3 => hK _ _ (h v' w' r1 r2 r3))
 rwa [if_pos (by unfold Region.wanted; rw [hg])] at h1
theorem wpList_sliceM {ops : Array Oper} {rest : List Oper} {o : Oper} {a : Act} {w : World} {Q : Exit → Act → World → Prop} (hg : o.guard = none) (x y : Operand) (ho : o.op = .slice 57 x none (some y) none) {v u : Value} {k : Nat}
  (hx : a.eval x = v) (hy : a.eval y = .int .i64 k) (hr : ∀ W', (Instr.sliceAt 57 v none (some (.int .i64 k)) none).run Tryz.prog W' = .ok u W') (h : wpList Tryz.prog ops Q rest (a.put o.dst u) w) : wpList Tryz.prog ops Q (o :: rest) a w := by
 refine wpList_plain hg fun K hK => ?_
 have h1 := st_slice (P := Tryz.prog) (K := K) (Q := Q) (t := fun _ => none) (X := False) hg 57 x none (some y) none ho hx rfl (h := some (.int .i64 k)) (by simp [hy]) rfl (hr w) (hK _ _ h)
 rwa [if_pos (by unfold Region.wanted; rw [hg])] at h1
end Go.Proofs.YtnpomigmeieofaaGreatDoor
