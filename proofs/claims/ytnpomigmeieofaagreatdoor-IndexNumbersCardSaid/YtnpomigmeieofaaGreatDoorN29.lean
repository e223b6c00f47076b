import Derived.Test.YtnpomigmeieofaaGreatDoorN28
namespace Go.Proofs.YtnpomigmeieofaaGreatDoor
open Go.RowKit

def ct (xs : List Int) (x : Int) : Nat → Nat
 | 0 => 0
 | k + 1 => ct xs x k + if xs[k]?.getD 0 = x then 1 else 0
theorem ct_le (xs : List Int) (x : Int) (k : Nat) : ct xs x k ≤ k := by
 induction k with
 | zero => exact Nat.le_refl _
 | succ k ih => simp only [ct]; split <;> omega
def ofM (f r : Int) (xs : List Int) (k : Nat) : Men := ⟨f, r, ct xs 1 k, ct xs 2 k, ct xs 3 k, ct xs 4 k, ct xs 5 k, ct xs (-1) k, ct xs (-2) k, ct xs (-3) k, ct xs (-4) k, ct xs (-5) k⟩
theorem ofM_p1 {f r : Int} {xs : List Int} {k : Nat} (h : xs[k]?.getD 0 = 1) : ofM f r xs (k + 1) = ⟨f, r, (ct xs 1 k : Int) + 1, ct xs 2 k, ct xs 3 k, ct xs 4 k, ct xs 5 k, ct xs (-1) k, ct xs (-2) k, ct xs (-3) k, ct xs (-4) k, ct xs (-5) k⟩ := by simp [ofM, ct, h]
theorem ofM_p2 {f r : Int} {xs : List Int} {k : Nat} (h : xs[k]?.getD 0 = 2) : ofM f r xs (k + 1) = ⟨f, r, ct xs 1 k, (ct xs 2 k : Int) + 1, ct xs 3 k, ct xs 4 k, ct xs 5 k, ct xs (-1) k, ct xs (-2) k, ct xs (-3) k, ct xs (-4) k, ct xs (-5) k⟩ := by simp [ofM, ct, h]
theorem ofM_p3 {f r : Int} {xs : List Int} {k : Nat} (h : xs[k]?.getD 0 = 3) : ofM f r xs (k + 1) = ⟨f, r, ct xs 1 k, ct xs 2 k, (ct xs 3 k : Int) + 1, ct xs 4 k, ct xs 5 k, ct xs (-1) k, ct xs (-2) k, ct xs (-3) k, ct xs (-4) k, ct xs (-5) k⟩ := by simp [ofM, ct, h]
theorem ofM_p4 {f r : Int} {xs : List Int} {k : Nat} (h : xs[k]?.getD 0 = 4) : ofM f r xs (k + 1) = ⟨f, r, ct xs 1 k, ct xs 2 k, ct xs 3 k, (ct xs 4 k : Int) + 1, ct xs 5 k, ct xs (-1) k, ct xs (-2) k, ct xs (-3) k, ct xs (-4) k, ct xs (-5) k⟩ := by simp [ofM, ct, h]
theorem ofM_p5 {f r : Int} {xs : List Int} {k : Nat} (h : xs[k]?.getD 0 = 5) : ofM f r xs (k + 1) = ⟨f, r, ct xs 1 k, ct xs 2 k, ct xs 3 k, ct xs 4 k, (ct xs 5 k : Int) + 1, ct xs (-1) k, ct xs (-2) k, ct xs (-3) k, ct xs (-4) k, ct xs (-5) k⟩ := by simp [ofM, ct, h]
theorem ofM_m1 {f r : Int} {xs : List Int} {k : Nat} (h : xs[k]?.getD 0 = (-1)) : ofM f r xs (k + 1) = ⟨f, r, ct xs 1 k, ct xs 2 k, ct xs 3 k, ct xs 4 k, ct xs 5 k, (ct xs (-1) k : Int) + 1, ct xs (-2) k, ct xs (-3) k, ct xs (-4) k, ct xs (-5) k⟩ := by simp [ofM, ct, h]
theorem ofM_m2 {f r : Int} {xs : List Int} {k : Nat} (h : xs[k]?.getD 0 = (-2)) : ofM f r xs (k + 1) = ⟨f, r, ct xs 1 k, ct xs 2 k, ct xs 3 k, ct xs 4 k, ct xs 5 k, ct xs (-1) k, (ct xs (-2) k : Int) + 1, ct xs (-3) k, ct xs (-4) k, ct xs (-5) k⟩ := by simp [ofM, ct, h]
theorem ofM_m3 {f r : Int} {xs : List Int} {k : Nat} (h : xs[k]?.getD 0 = (-3)) : ofM f r xs (k + 1) = ⟨f, r, ct xs 1 k, ct xs 2 k, ct xs 3 k, ct xs 4 k, ct xs 5 k, ct xs (-1) k, ct xs (-2) k, (ct xs (-3) k : Int) + 1, ct xs (-4) k, ct xs (-5) k⟩ := by simp [ofM, ct, h]
theorem ofM_m4 {f r : Int} {xs : List Int} {k : Nat} (h : xs[k]?.getD 0 = (-4)) : ofM f r xs (k + 1) = ⟨f, r, ct xs 1 k, ct xs 2 k, ct xs 3 k, ct xs 4 k, ct xs 5 k, ct xs (-1) k, ct xs (-2) k, ct xs (-3) k, (ct xs (-4) k : Int) + 1, ct xs (-5) k⟩ := by simp [ofM, ct, h]
theorem ofM_m5 {f r : Int} {xs : List Int} {k : Nat} (h : xs[k]?.getD 0 = (-5)) : ofM f r xs (k + 1) = ⟨f, r, ct xs 1 k, ct xs 2 k, ct xs 3 k, ct xs 4 k, ct xs 5 k, ct xs (-1) k, ct xs (-2) k, ct xs (-3) k, ct xs (-4) k, (ct xs (-5) k : Int) + 1⟩ := by simp [ofM, ct, h]
theorem ofM_no {f r : Int} {xs : List Int} {k : Nat} {x : Int} (h : xs[k]?.getD 0 = x) (h2 : x = 0 ∨ 6 ≤ x ∨ x ≤ -6) : ofM f r xs (k + 1) = ofM f r xs k := by
 have e : ∀ y, (-5 ≤ y ∧ y ≤ 5 ∧ y ≠ 0) → ct xs y (k + 1) = ct xs y k := by
  intro y hy
  simp only [ct]
  rw [h, if_neg (by omega)]
  rfl
 simp only [ofM]
 rw [e 1 (by decide), e 2 (by decide), e 3 (by decide), e 4 (by decide), e 5 (by decide), e (-1) (by decide), e (-2) (by decide), e (-3) (by decide), e (-4) (by decide), e (-5) (by decide)]
set_option maxRecDepth 100000 in
set_option maxHeartbeats 6400000 in
theorem idxOf_any (f r ca pa ha fu : Int) (bl : Bool) (p : Option Addr) (c : Nat) (xs : List Int) (hl : xs.length ≤ 1000) (h8 : ∀ x ∈ xs, -128 ≤ x ∧ x ≤ 127) (w : World) (hx0 : Arr .i8 w p xs) :
  Calls Tryz.prog 45 #[.agg (posCs f r p xs.length c bl ca pa ha fu).toArray] w fun e w' => e = .returned (.agg (ofM f r xs xs.length).cs.toArray) ∧ Below w.heap.size w w' := by
 have hA := HasO.new w (.cells (posCs f r p xs.length c bl ca pa ha fu).toArray 40)
 have hZ2 := HasO.new' ((w.alloc (.cells (posCs f r p xs.length c bl ca pa ha fu).toArray 40)).alloc (.cells zeroMen.cs.toArray 26)) (.cells zeroMen.cs.toArray 26) (q := w.heap.size + 2) (by simp)
 have hA5 := (hA.alloc (.cells zeroMen.cs.toArray 26)).alloc (.cells (Men.mk f r 0 0 0 0 0 0 0 0 0 0).cs.toArray 26)
 have hR5 := (HasO.new' (w.alloc (.cells (posCs f r p xs.length c bl ca pa ha fu).toArray 40)) (.cells zeroMen.cs.toArray 26) (q := w.heap.size + 1) (by simp)).alloc (.cells (Men.mk f r 0 0 0 0 0 0 0 0 0 0).cs.toArray 26)
 have hM5 : HasO (((w.alloc (.cells (posCs f r p xs.length c bl ca pa ha fu).toArray 40)).alloc (.cells zeroMen.cs.toArray 26)).alloc (.cells (Men.mk f r 0 0 0 0 0 0 0 0 0 0).cs.toArray 26)) (w.heap.size + 2) (.cells (ofM f r xs 0).cs.toArray 26 (0, 0)) := HasO.new' ((w.alloc (.cells (posCs f r p xs.length c bl ca pa ha fu).toArray 40)).alloc (.cells zeroMen.cs.toArray 26)) (.cells (Men.mk f r 0 0 0 0 0 0 0 0 0 0).cs.toArray 26) (q := w.heap.size + 2) (by simp)
 have hB5 : Below w.heap.size w (((w.alloc (.cells (posCs f r p xs.length c bl ca pa ha fu).toArray 40)).alloc (.cells zeroMen.cs.toArray 26)).alloc (.cells (Men.mk f r 0 0 0 0 0 0 0 0 0 0).cs.toArray 26)) := ((below_box w (.cells (posCs f r p xs.length c bl ca pa ha fu).toArray 40)).alloc (by simp) _).alloc (by simp; omega) _
 have hx5 := hx0.call hB5
 have h0 := hA.cells 0
 have h1 := hA.cells 1
 have hl0 := hA.lt
 have h2 := hA5.cells 2
 have hl5 := hA5.lt
 clear hA
 have hbd : ∀ k, k ≤ xs.length → ∀ x, ct xs x k ≤ 1000 := fun k hk x => Nat.le_trans (ct_le xs x k) (by omega)
 go_enter Tryz.func45, Tryz.ntmps45
 go_wp2_with fail
 show Code.wp _ _ _ _ (((w.alloc (.cells (posCs f r p xs.length c bl ca pa ha fu).toArray 40)).alloc (.cells zeroMen.cs.toArray 26)).alloc (.cells (Men.mk f r 0 0 0 0 0 0 0 0 0 0).cs.toArray 26))
 generalize (((w.alloc (.cells (posCs f r p xs.length c bl ca pa ha fu).toArray 40)).alloc (.cells zeroMen.cs.toArray 26)).alloc (.cells (Men.mk f r 0 0 0 0 0 0 0 0 0 0).cs.toArray 26)) = w5 at *
 clear h0 h1 h2 hl0 hl5 hZ2
 go_loopg [12] 1001 (fun q iv wr => ∃ i : Nat, q + i = 1001 ∧ i ≤ xs.length ∧ iv = .int .i64 i ∧ HasO wr w.heap.size (.cells (posCs f r p xs.length c bl ca pa ha fu).toArray 40 (0, 0)) ∧ HasO wr (w.heap.size + 1) (.cells zeroMen.cs.toArray 26 (0, 0)) ∧ HasO wr (w.heap.size + 2) (.cells (ofM f r xs i).cs.toArray 26 (0, 0)) ∧ Below w.heap.size w wr ∧ Arr .i8 wr p xs)
 case atStart => exact ⟨0, rfl, Nat.zero_le _, rfl, hA5, hR5, hM5, hB5, hx5⟩
 case round =>
  obtain ⟨i, hq, hi, rfl, hAr, hRr, hMr, hBr, hxr⟩ := hrel
  clear hA5 hR5 hM5 hB5 hx5
  have h2 := hAr.cells 2
  have hlA := hAr.lt
  have hlM := hMr.lt
  have hlR := hRr.lt
  have hfM := hMr.frozen
  by_cases hlt : i < xs.length
  ·have hii : (i : Int) < xs.length := by omega
   have hxr0 := hxr
   obtain ⟨g, o, rfl, hgl, hcc⟩ := hxr.at hlt
   have hci := hcc i hlt
   obtain ⟨x, hx⟩ : ∃ x, xs[i]?.getD 0 = x := ⟨_, rfl⟩
   have hx8 : -128 ≤ x ∧ x ≤ 127 := h8 x (by rw [← hx, List.getElem?_eq_getElem hlt]; exact List.getElem_mem hlt)
   rw [hx] at hci
   clear hcc
   have hbi := hbd i (by omega)
   have hMi : ofM f r xs i = ⟨f, r, ct xs 1 i, ct xs 2 i, ct xs 3 i, ct xs 4 i, ct xs 5 i, ct xs (-1) i, ct xs (-2) i, ct xs (-3) i, ct xs (-4) i, ct xs (-5) i⟩ := rfl
   rcases (by omega : x = 1 ∨ x = 2 ∨ x = 3 ∨ x = 4 ∨ x = 5 ∨ x = -1 ∨ x = -2 ∨ x = -3 ∨ x = -4 ∨ x = -5 ∨ (x = 0 ∨ 6 ≤ x ∨ x ≤ -6)) with rfl | rfl | rfl | rfl | rfl | rfl | rfl | rfl | rfl | rfl | hno
   ·have hnx := ofM_p1 (f := f) (r := r) hx
    have hb0 := hbi 1
    clear hMi hbi
    obtain ⟨n, hn⟩ : ∃ n, n = ct xs 1 i := ⟨_, rfl⟩
    have hcell : wr.cell? ⟨w.heap.size + 2, 2, none⟩ = some (.int .i64 (n : Int)) := by rw [hn]; exact hMr.cells 2
    rw [← hn] at hb0
    have hnew := hMr.set_ 2 (.int .i64 ((n : Int) + 1))
    have halt : Alt (w.heap.size + 2) (w.heap.size + 3) wr (wr.setCell ⟨w.heap.size + 2, 2, none⟩ (.int .i64 ((n : Int) + 1))) := Alt.setCell (by simp)
    have hMn : HasO (wr.setCell ⟨w.heap.size + 2, 2, none⟩ (.int .i64 ((n : Int) + 1))) (w.heap.size + 2) (.cells (ofM f r xs (i + 1)).cs.toArray 26 (0, 0)) := by
     rw [hnx, ← hn]; rw [hn]; rw [hn] at hnew; exact hnew
    have hAn := halt.hasO hAr (by omega)
    have hRn := halt.hasO hRr (by omega)
    have hBn := halt.below hBr (by omega) hBr.size
    clear hnew hnx hn
    go_wp2_with fail
    go_roundg (gk - 1)
    case measure => omega
    case rel => exact ⟨i + 1, by omega, by omega, by go_num, hAn, hRn, hMn, hBn, hx0.call hBn⟩
   ·have hnx := ofM_p2 (f := f) (r := r) hx
    have hb0 := hbi 2
    clear hMi hbi
    obtain ⟨n, hn⟩ : ∃ n, n = ct xs 2 i := ⟨_, rfl⟩
    have hcell : wr.cell? ⟨w.heap.size + 2, 3, none⟩ = some (.int .i64 (n : Int)) := by rw [hn]; exact hMr.cells 3
    rw [← hn] at hb0
    have hnew := hMr.set_ 3 (.int .i64 ((n : Int) + 1))
    have halt : Alt (w.heap.size + 2) (w.heap.size + 3) wr (wr.setCell ⟨w.heap.size + 2, 3, none⟩ (.int .i64 ((n : Int) + 1))) := Alt.setCell (by simp)
    have hMn : HasO (wr.setCell ⟨w.heap.size + 2, 3, none⟩ (.int .i64 ((n : Int) + 1))) (w.heap.size + 2) (.cells (ofM f r xs (i + 1)).cs.toArray 26 (0, 0)) := by
     rw [hnx, ← hn]; rw [hn]; rw [hn] at hnew; exact hnew
    have hAn := halt.hasO hAr (by omega)
    have hRn := halt.hasO hRr (by omega)
    have hBn := halt.below hBr (by omega) hBr.size
    clear hnew hnx hn
    go_wp2_with fail
    go_roundg (gk - 1)
    case measure => omega
    case rel => exact ⟨i + 1, by omega, by omega, by go_num, hAn, hRn, hMn, hBn, hx0.call hBn⟩
   ·have hnx := ofM_p3 (f := f) (r := r) hx
    have hb0 := hbi 3
    clear hMi hbi
    obtain ⟨n, hn⟩ : ∃ n, n = ct xs 3 i := ⟨_, rfl⟩
    have hcell : wr.cell? ⟨w.heap.size + 2, 4, none⟩ = some (.int .i64 (n : Int)) := by rw [hn]; exact hMr.cells 4
    rw [← hn] at hb0
    have hnew := hMr.set_ 4 (.int .i64 ((n : Int) + 1))
    have halt : Alt (w.heap.size + 2) (w.heap.size + 3) wr (wr.setCell ⟨w.heap.size + 2, 4, none⟩ (.int .i64 ((n : Int) + 1))) := Alt.setCell (by simp)
    have hMn : HasO (wr.setCell ⟨w.heap.size + 2, 4, none⟩ (.int .i64 ((n : Int) + 1))) (w.heap.size + 2) (.cells (ofM f r xs (i + 1)).cs.toArray 26 (0, 0)) := by
     rw [hnx, ← hn]; rw [hn]; rw [hn] at hnew; exact hnew
    have hAn := halt.hasO hAr (by omega)
    have hRn := halt.hasO hRr (by omega)
    have hBn := halt.below hBr (by omega) hBr.size
    clear hnew hnx hn
    go_wp2_with fail
    go_roundg (gk - 1)
    case measure => omega
    case rel => exact ⟨i + 1, by omega, by omega, by go_num, hAn, hRn, hMn, hBn, hx0.call hBn⟩
   ·have hnx := ofM_p4 (f := f) (r := r) hx
    have hb0 := hbi 4
    clear hMi hbi
    obtain ⟨n, hn⟩ : ∃ n, n = ct xs 4 i := ⟨_, rfl⟩
    have hcell : wr.cell? ⟨w.heap.size + 2, 5, none⟩ = some (.int .i64 (n : Int)) := by rw [hn]; exact hMr.cells 5
    rw [← hn] at hb0
    have hnew := hMr.set_ 5 (.int .i64 ((n : Int) + 1))
    have halt : Alt (w.heap.size + 2) (w.heap.size + 3) wr (wr.setCell ⟨w.heap.size + 2, 5, none⟩ (.int .i64 ((n : Int) + 1))) := Alt.setCell (by simp)
    have hMn : HasO (wr.setCell ⟨w.heap.size + 2, 5, none⟩ (.int .i64 ((n : Int) + 1))) (w.heap.size + 2) (.cells (ofM f r xs (i + 1)).cs.toArray 26 (0, 0)) := by
     rw [hnx, ← hn]; rw [hn]; rw [hn] at hnew; exact hnew
    have hAn := halt.hasO hAr (by omega)
    have hRn := halt.hasO hRr (by omega)
    have hBn := halt.below hBr (by omega) hBr.size
    clear hnew hnx hn
    go_wp2_with fail
    go_roundg (gk - 1)
    case measure => omega
    case rel => exact ⟨i + 1, by omega, by omega, by go_num, hAn, hRn, hMn, hBn, hx0.call hBn⟩
   ·have hnx := ofM_p5 (f := f) (r := r) hx
    have hb0 := hbi 5
    clear hMi hbi
    obtain ⟨n, hn⟩ : ∃ n, n = ct xs 5 i := ⟨_, rfl⟩
    have hcell : wr.cell? ⟨w.heap.size + 2, 6, none⟩ = some (.int .i64 (n : Int)) := by rw [hn]; exact hMr.cells 6
    rw [← hn] at hb0
    have hnew := hMr.set_ 6 (.int .i64 ((n : Int) + 1))
    have halt : Alt (w.heap.size + 2) (w.heap.size + 3) wr (wr.setCell ⟨w.heap.size + 2, 6, none⟩ (.int .i64 ((n : Int) + 1))) := Alt.setCell (by simp)
    have hMn : HasO (wr.setCell ⟨w.heap.size + 2, 6, none⟩ (.int .i64 ((n : Int) + 1))) (w.heap.size + 2) (.cells (ofM f r xs (i + 1)).cs.toArray 26 (0, 0)) := by
     rw [hnx, ← hn]; rw [hn]; rw [hn] at hnew; exact hnew
    have hAn := halt.hasO hAr (by omega)
    have hRn := halt.hasO hRr (by omega)
    have hBn := halt.below hBr (by omega) hBr.size
    clear hnew hnx hn
    go_wp2_with fail
    go_roundg (gk - 1)
    case measure => omega
    case rel => exact ⟨i + 1, by omega, by omega, by go_num, hAn, hRn, hMn, hBn, hx0.call hBn⟩
   ·have hnx := ofM_m1 (f := f) (r := r) hx
    have hb0 := hbi (-1)
    clear hMi hbi
    obtain ⟨n, hn⟩ : ∃ n, n = ct xs (-1) i := ⟨_, rfl⟩
    have hcell : wr.cell? ⟨w.heap.size + 2, 7, none⟩ = some (.int .i64 (n : Int)) := by rw [hn]; exact hMr.cells 7
    rw [← hn] at hb0
    have hnew := hMr.set_ 7 (.int .i64 ((n : Int) + 1))
    have halt : Alt (w.heap.size + 2) (w.heap.size + 3) wr (wr.setCell ⟨w.heap.size + 2, 7, none⟩ (.int .i64 ((n : Int) + 1))) := Alt.setCell (by simp)
    have hMn : HasO (wr.setCell ⟨w.heap.size + 2, 7, none⟩ (.int .i64 ((n : Int) + 1))) (w.heap.size + 2) (.cells (ofM f r xs (i + 1)).cs.toArray 26 (0, 0)) := by
     rw [hnx, ← hn]; rw [hn]; rw [hn] at hnew; exact hnew
    have hAn := halt.hasO hAr (by omega)
    have hRn := halt.hasO hRr (by omega)
    have hBn := halt.below hBr (by omega) hBr.size
    clear hnew hnx hn
    go_wp2_with fail
    go_roundg (gk - 1)
    case measure => omega
    case rel => exact ⟨i + 1, by omega, by omega, by go_num, hAn, hRn, hMn, hBn, hx0.call hBn⟩
   ·have hnx := ofM_m2 (f := f) (r := r) hx
    have hb0 := hbi (-2)
    clear hMi hbi
    obtain ⟨n, hn⟩ : ∃ n, n = ct xs (-2) i := ⟨_, rfl⟩
    have hcell : wr.cell? ⟨w.heap.size + 2, 8, none⟩ = some (.int .i64 (n : Int)) := by rw [hn]; exact hMr.cells 8
    rw [← hn] at hb0
    have hnew := hMr.set_ 8 (.int .i64 ((n : Int) + 1))
    have halt : Alt (w.heap.size + 2) (w.heap.size + 3) wr (wr.setCell ⟨w.heap.size + 2, 8, none⟩ (.int .i64 ((n : Int) + 1))) := Alt.setCell (by simp)
    have hMn : HasO (wr.setCell ⟨w.heap.size + 2, 8, none⟩ (.int .i64 ((n : Int) + 1))) (w.heap.size + 2) (.cells (ofM f r xs (i + 1)).cs.toArray 26 (0, 0)) := by
     rw [hnx, ← hn]; rw [hn]; rw [hn] at hnew; exact hnew
    have hAn := halt.hasO hAr (by omega)
    have hRn := halt.hasO hRr (by omega)
    have hBn := halt.below hBr (by omega) hBr.size
    clear hnew hnx hn
    go_wp2_with fail
    go_roundg (gk - 1)
    case measure => omega
    case rel => exact ⟨i + 1, by omega, by omega, by go_num, hAn, hRn, hMn, hBn, hx0.call hBn⟩
   ·have hnx := ofM_m3 (f := f) (r := r) hx
    have hb0 := hbi (-3)
    clear hMi hbi
    obtain ⟨n, hn⟩ : ∃ n, n = ct xs (-3) i := ⟨_, rfl⟩
    have hcell : wr.cell? ⟨w.heap.size + 2, 9, none⟩ = some (.int .i64 (n : Int)) := by rw [hn]; exact hMr.cells 9
    rw [← hn] at hb0
    have hnew := hMr.set_ 9 (.int .i64 ((n : Int) + 1))
    have halt : Alt (w.heap.size + 2) (w.heap.size + 3) wr (wr.setCell ⟨w.heap.size + 2, 9, none⟩ (.int .i64 ((n : Int) + 1))) := Alt.setCell (by simp)
    have hMn : HasO (wr.setCell ⟨w.heap.size + 2, 9, none⟩ (.int .i64 ((n : Int) + 1))) (w.heap.size + 2) (.cells (ofM f r xs (i + 1)).cs.toArray 26 (0, 0)) := by
     rw [hnx, ← hn]; rw [hn]; rw [hn] at hnew; exact hnew
    have hAn := halt.hasO hAr (by omega)
    have hRn := halt.hasO hRr (by omega)
    have hBn := halt.below hBr (by omega) hBr.size
    clear hnew hnx hn
    go_wp2_with fail
    go_roundg (gk - 1)
    case measure => omega
    case rel => exact ⟨i + 1, by omega, by omega, by go_num, hAn, hRn, hMn, hBn, hx0.call hBn⟩
   ·have hnx := ofM_m4 (f := f) (r := r) hx
    have hb0 := hbi (-4)
    clear hMi hbi
    obtain ⟨n, hn⟩ : ∃ n, n = ct xs (-4) i := ⟨_, rfl⟩
    have hcell : wr.cell? ⟨w.heap.size + 2, 10, none⟩ = some (.int .i64 (n : Int)) := by rw [hn]; exact hMr.cells 10
    rw [← hn] at hb0
    have hnew := hMr.set_ 10 (.int .i64 ((n : Int) + 1))
    have halt : Alt (w.heap.size + 2) (w.heap.size + 3) wr (wr.setCell ⟨w.heap.size + 2, 10, none⟩ (.int .i64 ((n : Int) + 1))) := Alt.setCell (by simp)
    have hMn : HasO (wr.setCell ⟨w.heap.size + 2, 10, none⟩ (.int .i64 ((n : Int) + 1))) (w.heap.size + 2) (.cells (ofM f r xs (i + 1)).cs.toArray 26 (0, 0)) := by
     rw [hnx, ← hn]; rw [hn]; rw [hn] at hnew; exact hnew
    have hAn := halt.hasO hAr (by omega)
    have hRn := halt.hasO hRr (by omega)
    have hBn := halt.below hBr (by omega) hBr.size
    clear hnew hnx hn
    go_wp2_with fail
    go_roundg (gk - 1)
    case measure => omega
    case rel => exact ⟨i + 1, by omega, by omega, by go_num, hAn, hRn, hMn, hBn, hx0.call hBn⟩
   ·have hnx := ofM_m5 (f := f) (r := r) hx
    have hb0 := hbi (-5)
    clear hMi hbi
    obtain ⟨n, hn⟩ : ∃ n, n = ct xs (-5) i := ⟨_, rfl⟩
    have hcell : wr.cell? ⟨w.heap.size + 2, 11, none⟩ = some (.int .i64 (n : Int)) := by rw [hn]; exact hMr.cells 11
    rw [← hn] at hb0
    have hnew := hMr.set_ 11 (.int .i64 ((n : Int) + 1))
    have halt : Alt (w.heap.size + 2) (w.heap.size + 3) wr (wr.setCell ⟨w.heap.size + 2, 11, none⟩ (.int .i64 ((n : Int) + 1))) := Alt.setCell (by simp)
    have hMn : HasO (wr.setCell ⟨w.heap.size + 2, 11, none⟩ (.int .i64 ((n : Int) + 1))) (w.heap.size + 2) (.cells (ofM f r xs (i + 1)).cs.toArray 26 (0, 0)) := by
     rw [hnx, ← hn]; rw [hn]; rw [hn] at hnew; exact hnew
    have hAn := halt.hasO hAr (by omega)
    have hRn := halt.hasO hRr (by omega)
    have hBn := halt.below hBr (by omega) hBr.size
    clear hnew hnx hn
    go_wp2_with fail
    go_roundg (gk - 1)
    case measure => omega
    case rel => exact ⟨i + 1, by omega, by omega, by go_num, hAn, hRn, hMn, hBn, hx0.call hBn⟩
   ·have hnx := ofM_no (f := f) (r := r) hx hno
    rw [← hnx] at hMr
    clear hMi hbi hnx
    rcases hno with hno | hno | hno
    all_goals
     go_wp2_with fail
     go_roundg (gk - 1)
     case measure => omega
     case rel => exact ⟨i + 1, by omega, by omega, by go_num, hAr, hRr, hMr, hBr, hx0.call hBr⟩
  ·have hii : ¬ (i : Int) < xs.length := by omega
   obtain rfl : i = xs.length := by omega
   have hbi := hbd xs.length (Nat.le_refl _)
   obtain ⟨m, hm⟩ : ∃ m, m = ofM f r xs xs.length := ⟨_, rfl⟩
   rw [← hm] at hMr
   have hM := hMr.cells
   replace hm := Lib.hid hm
   go_wp2_with (first | (refine wpList_storeAgg rfl 26 (.tmp 2) (.tmp 48) rfl (w.heap.size + 1) _ rfl rfl 26 _ hRr (by kernel_rfl) rfl (men_one m) ?_; rintro w' rfl) | fail)
   refine bodyPost_ret (results_cell (fn := Tryz.f45) Tryz.results45 rfl (setRow_hasO hRr) (by kernel_rfl)) rfl ?_
   exact ⟨by rw [hm.out], setRow_below hBr (by omega) hBr.size⟩
set_option maxRecDepth 100000 in
set_option maxHeartbeats 6400000 in
theorem refIdxOf_any (f r ca pa ha fu : Int) (bl : Bool) (p : Option Addr) (c : Nat) (xs : List Int) (hl : xs.length ≤ 1000) (h8 : ∀ x ∈ xs, -128 ≤ x ∧ x ≤ 127) (w : World) (hx0 : Arr .i8 w p xs) :
  Calls Tryz.prog 19 #[.agg (posCs f r p xs.length c bl ca pa ha fu).toArray] w fun e w' => e = .returned (.agg (ofM f r xs xs.length).cs.toArray) ∧ Below w.heap.size w w' := by
 have hA := HasO.new w (.cells (posCs f r p xs.length c bl ca pa ha fu).toArray 40)
 have hZ2 := HasO.new' ((w.alloc (.cells (posCs f r p xs.length c bl ca pa ha fu).toArray 40)).alloc (.cells zeroMen.cs.toArray 26)) (.cells zeroMen.cs.toArray 26) (q := w.heap.size + 2) (by simp)
 have hA5 := (hA.alloc (.cells zeroMen.cs.toArray 26)).alloc (.cells (Men.mk f r 0 0 0 0 0 0 0 0 0 0).cs.toArray 26)
 have hR5 := (HasO.new' (w.alloc (.cells (posCs f r p xs.length c bl ca pa ha fu).toArray 40)) (.cells zeroMen.cs.toArray 26) (q := w.heap.size + 1) (by simp)).alloc (.cells (Men.mk f r 0 0 0 0 0 0 0 0 0 0).cs.toArray 26)
 have hM5 : HasO (((w.alloc (.cells (posCs f r p xs.length c bl ca pa ha fu).toArray 40)).alloc (.cells zeroMen.cs.toArray 26)).alloc (.cells (Men.mk f r 0 0 0 0 0 0 0 0 0 0).cs.toArray 26)) (w.heap.size + 2) (.cells (ofM f r xs 0).cs.toArray 26 (0, 0)) := HasO.new' ((w.alloc (.cells (posCs f r p xs.length c bl ca pa ha fu).toArray 40)).alloc (.cells zeroMen.cs.toArray 26)) (.cells (Men.mk f r 0 0 0 0 0 0 0 0 0 0).cs.toArray 26) (q := w.heap.size + 2) (by simp)
 have hB5 : Below w.heap.size w (((w.alloc (.cells (posCs f r p xs.length c bl ca pa ha fu).toArray 40)).alloc (.cells zeroMen.cs.toArray 26)).alloc (.cells (Men.mk f r 0 0 0 0 0 0 0 0 0 0).cs.toArray 26)) := ((below_box w (.cells (posCs f r p xs.length c bl ca pa ha fu).toArray 40)).alloc (by simp) _).alloc (by simp; omega) _
 have hx5 := hx0.call hB5
 have h0 := hA.cells 0
 have h1 := hA.cells 1
 have hl0 := hA.lt
 have h2 := hA5.cells 2
 have hl5 := hA5.lt
 clear hA
 have hbd : ∀ k, k ≤ xs.length → ∀ x, ct xs x k ≤ 1000 := fun k hk x => Nat.le_trans (ct_le xs x k) (by omega)
 go_enter Tryz.func19, Tryz.ntmps19
 go_wp2_with fail
 show Code.wp _ _ _ _ (((w.alloc (.cells (posCs f r p xs.length c bl ca pa ha fu).toArray 40)).alloc (.cells zeroMen.cs.toArray 26)).alloc (.cells (Men.mk f r 0 0 0 0 0 0 0 0 0 0).cs.toArray 26))
 generalize (((w.alloc (.cells (posCs f r p xs.length c bl ca pa ha fu).toArray 40)).alloc (.cells zeroMen.cs.toArray 26)).alloc (.cells (Men.mk f r 0 0 0 0 0 0 0 0 0 0).cs.toArray 26)) = w5 at *
 clear h0 h1 h2 hl0 hl5 hZ2
 go_loopg [4] 1001 (fun q iv wr => ∃ i : Nat, q + i = 1001 ∧ i ≤ xs.length ∧ iv = .int .i64 i ∧ HasO wr w.heap.size (.cells (posCs f r p xs.length c bl ca pa ha fu).toArray 40 (0, 0)) ∧ HasO wr (w.heap.size + 1) (.cells zeroMen.cs.toArray 26 (0, 0)) ∧ HasO wr (w.heap.size + 2) (.cells (ofM f r xs i).cs.toArray 26 (0, 0)) ∧ Below w.heap.size w wr ∧ Arr .i8 wr p xs)
 case atStart => exact ⟨0, rfl, Nat.zero_le _, rfl, hA5, hR5, hM5, hB5, hx5⟩
 case round =>
  obtain ⟨i, hq, hi, rfl, hAr, hRr, hMr, hBr, hxr⟩ := hrel
  clear hA5 hR5 hM5 hB5 hx5
  have h2 := hAr.cells 2
  have hlA := hAr.lt
  have hlM := hMr.lt
  have hlR := hRr.lt
  have hfM := hMr.frozen
  by_cases hlt : i < xs.length
  ·have hii : (i : Int) < xs.length := by omega
   have hxr0 := hxr
   obtain ⟨g, o, rfl, hgl, hcc⟩ := hxr.at hlt
   have hci := hcc i hlt
   obtain ⟨x, hx⟩ : ∃ x, xs[i]?.getD 0 = x := ⟨_, rfl⟩
   have hx8 : -128 ≤ x ∧ x ≤ 127 := h8 x (by rw [← hx, List.getElem?_eq_getElem hlt]; exact List.getElem_mem hlt)
   rw [hx] at hci
   clear hcc
   have hbi := hbd i (by omega)
   have hMi : ofM f r xs i = ⟨f, r, ct xs 1 i, ct xs 2 i, ct xs 3 i, ct xs 4 i, ct xs 5 i, ct xs (-1) i, ct xs (-2) i, ct xs (-3) i, ct xs (-4) i, ct xs (-5) i⟩ := rfl
   rcases (by omega : x = 1 ∨ x = 2 ∨ x = 3 ∨ x = 4 ∨ x = 5 ∨ x = -1 ∨ x = -2 ∨ x = -3 ∨ x = -4 ∨ x = -5 ∨ (x = 0 ∨ 6 ≤ x ∨ x ≤ -6)) with rfl | rfl | rfl | rfl | rfl | rfl | rfl | rfl | rfl | rfl | hno
   ·have hnx := ofM_p1 (f := f) (r := r) hx
    have hb0 := hbi 1
    clear hMi hbi
    obtain ⟨n, hn⟩ : ∃ n, n = ct xs 1 i := ⟨_, rfl⟩
    have hcell : wr.cell? ⟨w.heap.size + 2, 2, none⟩ = some (.int .i64 (n : Int)) := by rw [hn]; exact hMr.cells 2
    rw [← hn] at hb0
    have hnew := hMr.set_ 2 (.int .i64 ((n : Int) + 1))
    have halt : Alt (w.heap.size + 2) (w.heap.size + 3) wr (wr.setCell ⟨w.heap.size + 2, 2, none⟩ (.int .i64 ((n : Int) + 1))) := Alt.setCell (by simp)
    have hMn : HasO (wr.setCell ⟨w.heap.size + 2, 2, none⟩ (.int .i64 ((n : Int) + 1))) (w.heap.size + 2) (.cells (ofM f r xs (i + 1)).cs.toArray 26 (0, 0)) := by
     rw [hnx, ← hn]; rw [hn]; rw [hn] at hnew; exact hnew
    have hAn := halt.hasO hAr (by omega)
    have hRn := halt.hasO hRr (by omega)
    have hBn := halt.below hBr (by omega) hBr.size
    clear hnew hnx hn
    go_wp2_with fail
    go_roundg (gk - 1)
    case measure => omega
    case rel => exact ⟨i + 1, by omega, by omega, by go_num, hAn, hRn, hMn, hBn, hx0.call hBn⟩
   ·have hnx := ofM_p2 (f := f) (r := r) hx
    have hb0 := hbi 2
    clear hMi hbi
    obtain ⟨n, hn⟩ : ∃ n, n = ct xs 2 i := ⟨_, rfl⟩
    have hcell : wr.cell? ⟨w.heap.size + 2, 3, none⟩ = some (.int .i64 (n : Int)) := by rw [hn]; exact hMr.cells 3
    rw [← hn] at hb0
    have hnew := hMr.set_ 3 (.int .i64 ((n : Int) + 1))
    have halt : Alt (w.heap.size + 2) (w.heap.size + 3) wr (wr.setCell ⟨w.heap.size + 2, 3, none⟩ (.int .i64 ((n : Int) + 1))) := Alt.setCell (by simp)
    have hMn : HasO (wr.setCell ⟨w.heap.size + 2, 3, none⟩ (.int .i64 ((n : Int) + 1))) (w.heap.size + 2) (.cells (ofM f r xs (i + 1)).cs.toArray 26 (0, 0)) := by
     rw [hnx, ← hn]; rw [hn]; rw [hn] at hnew; exact hnew
    have hAn := halt.hasO hAr (by omega)
    have hRn := halt.hasO hRr (by omega)
    have hBn := halt.below hBr (by omega) hBr.size
    clear hnew hnx hn
    go_wp2_with fail
    go_roundg (gk - 1)
    case measure => omega
    case rel => exact ⟨i + 1, by omega, by omega, by go_num, hAn, hRn, hMn, hBn, hx0.call hBn⟩
   ·have hnx := ofM_p3 (f := f) (r := r) hx
    have hb0 := hbi 3
    clear hMi hbi
    obtain ⟨n, hn⟩ : ∃ n, n = ct xs 3 i := ⟨_, rfl⟩
    have hcell : wr.cell? ⟨w.heap.size + 2, 4, none⟩ = some (.int .i64 (n : Int)) := by rw [hn]; exact hMr.cells 4
    rw [← hn] at hb0
    have hnew := hMr.set_ 4 (.int .i64 ((n : Int) + 1))
    have halt : Alt (w.heap.size + 2) (w.heap.size + 3) wr (wr.setCell ⟨w.heap.size + 2, 4, none⟩ (.int .i64 ((n : Int) + 1))) := Alt.setCell (by simp)
    have hMn : HasO (wr.setCell ⟨w.heap.size + 2, 4, none⟩ (.int .i64 ((n : Int) + 1))) (w.heap.size + 2) (.cells (ofM f r xs (i + 1)).cs.toArray 26 (0, 0)) := by
     rw [hnx, ← hn]; rw [hn]; rw [hn] at hnew; exact hnew
    have hAn := halt.hasO hAr (by omega)
    have hRn := halt.hasO hRr (by omega)
    have hBn := halt.below hBr (by omega) hBr.size
    clear hnew hnx hn
    go_wp2_with fail
    go_roundg (gk - 1)
    case measure => omega
    case rel => exact ⟨i + 1, by omega, by omega, by go_num, hAn, hRn, hMn, hBn, hx0.call hBn⟩
   ·have hnx := ofM_p4 (f := f) (r := r) hx
    have hb0 := hbi 4
    clear hMi hbi
    obtain ⟨n, hn⟩ : ∃ n, n = ct xs 4 i := ⟨_, rfl⟩
    have hcell : wr.cell? ⟨w.heap.size + 2, 5, none⟩ = some (.int .i64 (n : Int)) := by rw [hn]; exact hMr.cells 5
    rw [← hn] at hb0
    have hnew := hMr.set_ 5 (.int .i64 ((n : Int) + 1))
    have halt : Alt (w.heap.size + 2) (w.heap.size + 3) wr (wr.setCell ⟨w.heap.size + 2, 5, none⟩ (.int .i64 ((n : Int) + 1))) := Alt.setCell (by simp)
    have hMn : HasO (wr.setCell ⟨w.heap.size + 2, 5, none⟩ (.int .i64 ((n : Int) + 1))) (w.heap.size + 2) (.cells (ofM f r xs (i + 1)).cs.toArray 26 (0, 0)) := by
     rw [hnx, ← hn]; rw [hn]; rw [hn] at hnew; exact hnew
    have hAn := halt.hasO hAr (by omega)
    have hRn := halt.hasO hRr (by omega)
    have hBn := halt.below hBr (by omega) hBr.size
    clear hnew hnx hn
    go_wp2_with fail
    go_roundg (gk - 1)
    case measure => omega
    case rel => exact ⟨i + 1, by omega, by omega, by go_num, hAn, hRn, hMn, hBn, hx0.call hBn⟩
   ·have hnx := ofM_p5 (f := f) (r := r) hx
    have hb0 := hbi 5
    clear hMi hbi
    obtain ⟨n, hn⟩ : ∃ n, n = ct xs 5 i := ⟨_, rfl⟩
    have hcell : wr.cell? ⟨w.heap.size + 2, 6, none⟩ = some (.int .i64 (n : Int)) := by rw [hn]; exact hMr.cells 6
    rw [← hn] at hb0
    have hnew := hMr.set_ 6 (.int .i64 ((n : Int) + 1))
    have halt : Alt (w.heap.size + 2) (w.heap.size + 3) wr (wr.setCell ⟨w.heap.size + 2, 6, none⟩ (.int .i64 ((n : Int) + 1))) := Alt.setCell (by simp)
    have hMn : HasO (wr.setCell ⟨w.heap.size + 2, 6, none⟩ (.int .i64 ((n : Int) + 1))) (w.heap.size + 2) (.cells (ofM f r xs (i + 1)).cs.toArray 26 (0, 0)) := by
     rw [hnx, ← hn]; rw [hn]; rw [hn] at hnew; exact hnew
    have hAn := halt.hasO hAr (by omega)
    have hRn := halt.hasO hRr (by omega)
    have hBn := halt.below hBr (by omega) hBr.size
    clear hnew hnx hn
    go_wp2_with fail
    go_roundg (gk - 1)
    case measure => omega
    case rel => exact ⟨i + 1, by omega, by omega, by go_num, hAn, hRn, hMn, hBn, hx0.call hBn⟩
   ·have hnx := ofM_m1 (f := f) (r := r) hx
    have hb0 := hbi (-1)
    clear hMi hbi
    obtain ⟨n, hn⟩ : ∃ n, n = ct xs (-1) i := ⟨_, rfl⟩
    have hcell : wr.cell? ⟨w.heap.size + 2, 7, none⟩ = some (.int .i64 (n : Int)) := by rw [hn]; exact hMr.cells 7
    rw [← hn] at hb0
    have hnew := hMr.set_ 7 (.int .i64 ((n : Int) + 1))
    have halt : Alt (w.heap.size + 2) (w.heap.size + 3) wr (wr.setCell ⟨w.heap.size + 2, 7, none⟩ (.int .i64 ((n : Int) + 1))) := Alt.setCell (by simp)
    have hMn : HasO (wr.setCell ⟨w.heap.size + 2, 7, none⟩ (.int .i64 ((n : Int) + 1))) (w.heap.size + 2) (.cells (ofM f r xs (i + 1)).cs.toArray 26 (0, 0)) := by
     rw [hnx, ← hn]; rw [hn]; rw [hn] at hnew; exact hnew
    have hAn := halt.hasO hAr (by omega)
    have hRn := halt.hasO hRr (by omega)
    have hBn := halt.below hBr (by omega) hBr.size
    clear hnew hnx hn
    go_wp2_with fail
    go_roundg (gk - 1)
    case measure => omega
    case rel => exact ⟨i + 1, by omega, by omega, by go_num, hAn, hRn, hMn, hBn, hx0.call hBn⟩
   ·have hnx := ofM_m2 (f := f) (r := r) hx
    have hb0 := hbi (-2)
    clear hMi hbi
    obtain ⟨n, hn⟩ : ∃ n, n = ct xs (-2) i := ⟨_, rfl⟩
    have hcell : wr.cell? ⟨w.heap.size + 2, 8, none⟩ = some (.int .i64 (n : Int)) := by rw [hn]; exact hMr.cells 8
    rw [← hn] at hb0
    have hnew := hMr.set_ 8 (.int .i64 ((n : Int) + 1))
    have halt : Alt (w.heap.size + 2) (w.heap.size + 3) wr (wr.setCell ⟨w.heap.size + 2, 8, none⟩ (.int .i64 ((n : Int) + 1))) := Alt.setCell (by simp)
    have hMn : HasO (wr.setCell ⟨w.heap.size + 2, 8, none⟩ (.int .i64 ((n : Int) + 1))) (w.heap.size + 2) (.cells (ofM f r xs (i + 1)).cs.toArray 26 (0, 0)) := by
     rw [hnx, ← hn]; rw [hn]; rw [hn] at hnew; exact hnew
    have hAn := halt.hasO hAr (by omega)
    have hRn := halt.hasO hRr (by omega)
    have hBn := halt.below hBr (by omega) hBr.size
    clear hnew hnx hn
    go_wp2_with fail
    go_roundg (gk - 1)
    case measure => omega
    case rel => exact ⟨i + 1, by omega, by omega, by go_num, hAn, hRn, hMn, hBn, hx0.call hBn⟩
   ·have hnx := ofM_m3 (f := f) (r := r) hx
    have hb0 := hbi (-3)
    clear hMi hbi
    obtain ⟨n, hn⟩ : ∃ n, n = ct xs (-3) i := ⟨_, rfl⟩
    have hcell : wr.cell? ⟨w.heap.size + 2, 9, none⟩ = some (.int .i64 (n : Int)) := by rw [hn]; exact hMr.cells 9
    rw [← hn] at hb0
    have hnew := hMr.set_ 9 (.int .i64 ((n : Int) + 1))
    have halt : Alt (w.heap.size + 2) (w.heap.size + 3) wr (wr.setCell ⟨w.heap.size + 2, 9, none⟩ (.int .i64 ((n : Int) + 1))) := Alt.setCell (by simp)
    have hMn : HasO (wr.setCell ⟨w.heap.size + 2, 9, none⟩ (.int .i64 ((n : Int) + 1))) (w.heap.size + 2) (.cells (ofM f r xs (i + 1)).cs.toArray 26 (0, 0)) := by
     rw [hnx, ← hn]; rw [hn]; rw [hn] at hnew; exact hnew
    have hAn := halt.hasO hAr (by omega)
    have hRn := halt.hasO hRr (by omega)
    have hBn := halt.below hBr (by omega) hBr.size
    clear hnew hnx hn
    go_wp2_with fail
    go_roundg (gk - 1)
    case measure => omega
    case rel => exact ⟨i + 1, by omega, by omega, by go_num, hAn, hRn, hMn, hBn, hx0.call hBn⟩
   ·have hnx := ofM_m4 (f := f) (r := r) hx
    have hb0 := hbi (-4)
    clear hMi hbi
    obtain ⟨n, hn⟩ : ∃ n, n = ct xs (-4) i := ⟨_, rfl⟩
    have hcell : wr.cell? ⟨w.heap.size + 2, 10, none⟩ = some (.int .i64 (n : Int)) := by rw [hn]; exact hMr.cells 10
    rw [← hn] at hb0
    have hnew := hMr.set_ 10 (.int .i64 ((n : Int) + 1))
    have halt : Alt (w.heap.size + 2) (w.heap.size + 3) wr (wr.setCell ⟨w.heap.size + 2, 10, none⟩ (.int .i64 ((n : Int) + 1))) := Alt.setCell (by simp)
    have hMn : HasO (wr.setCell ⟨w.heap.size + 2, 10, none⟩ (.int .i64 ((n : Int) + 1))) (w.heap.size + 2) (.cells (ofM f r xs (i + 1)).cs.toArray 26 (0, 0)) := by
     rw [hnx, ← hn]; rw [hn]; rw [hn] at hnew; exact hnew
    have hAn := halt.hasO hAr (by omega)
    have hRn := halt.hasO hRr (by omega)
    have hBn := halt.below hBr (by omega) hBr.size
    clear hnew hnx hn
    go_wp2_with fail
    go_roundg (gk - 1)
    case measure => omega
    case rel => exact ⟨i + 1, by omega, by omega, by go_num, hAn, hRn, hMn, hBn, hx0.call hBn⟩
   ·have hnx := ofM_m5 (f := f) (r := r) hx
    have hb0 := hbi (-5)
    clear hMi hbi
    obtain ⟨n, hn⟩ : ∃ n, n = ct xs (-5) i := ⟨_, rfl⟩
    have hcell : wr.cell? ⟨w.heap.size + 2, 11, none⟩ = some (.int .i64 (n : Int)) := by rw [hn]; exact hMr.cells 11
    rw [← hn] at hb0
    have hnew := hMr.set_ 11 (.int .i64 ((n : Int) + 1))
    have halt : Alt (w.heap.size + 2) (w.heap.size + 3) wr (wr.setCell ⟨w.heap.size + 2, 11, none⟩ (.int .i64 ((n : Int) + 1))) := Alt.setCell (by simp)
    have hMn : HasO (wr.setCell ⟨w.heap.size + 2, 11, none⟩ (.int .i64 ((n : Int) + 1))) (w.heap.size + 2) (.cells (ofM f r xs (i + 1)).cs.toArray 26 (0, 0)) := by
     rw [hnx, ← hn]; rw [hn]; rw [hn] at hnew; exact hnew
    have hAn := halt.hasO hAr (by omega)
    have hRn := halt.hasO hRr (by omega)
    have hBn := halt.below hBr (by omega) hBr.size
    clear hnew hnx hn
    go_wp2_with fail
    go_roundg (gk - 1)
    case measure => omega
    case rel => exact ⟨i + 1, by omega, by omega, by go_num, hAn, hRn, hMn, hBn, hx0.call hBn⟩
   ·have hnx := ofM_no (f := f) (r := r) hx hno
    rw [← hnx] at hMr
    clear hMi hbi hnx
    rcases hno with hno | hno | hno
    all_goals
     go_wp2_with fail
     go_roundg (gk - 1)
     case measure => omega
     case rel => exact ⟨i + 1, by omega, by omega, by go_num, hAr, hRr, hMr, hBr, hx0.call hBr⟩
  ·have hii : ¬ (i : Int) < xs.length := by omega
   obtain rfl : i = xs.length := by omega
   have hbi := hbd xs.length (Nat.le_refl _)
   obtain ⟨m, hm⟩ : ∃ m, m = ofM f r xs xs.length := ⟨_, rfl⟩
   rw [← hm] at hMr
   have hM := hMr.cells
   replace hm := Lib.hid hm
   go_wp2_with (first | (refine wpList_storeAgg rfl 26 (.tmp 2) (.tmp 51) rfl (w.heap.size + 1) _ rfl rfl 26 _ hRr (by kernel_rfl) rfl (men_one m) ?_; rintro w' rfl) | fail)
   refine bodyPost_ret (results_cell (fn := Tryz.f19) Tryz.results19 rfl (setRow_hasO hRr) (by kernel_rfl)) rfl ?_
   exact ⟨by rw [hm.out], setRow_below hBr (by omega) hBr.size⟩
end Go.Proofs.YtnpomigmeieofaaGreatDoor
