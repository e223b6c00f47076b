import Derived.Test.YtefmplccbkmalaaGreatDoorF47
set_option maxHeartbeats 12800000
namespace Go.Proofs.YtefmplccbkmalaaGreatDoor
open Go.RowKit Go.Sort Go.BigFrame

theorem pos1 (W : World) : Calls Tryz.prog 25 #[.string ⟨#[51, 120, 51, 32, 107, 50, 47, 51, 47, 50, 75, 32, 119, 32, 45, 32, 45, 32, 48, 32, 49]⟩] W fun e w' => (∃ p c, e = .returned (.agg (posCs 3 3 p kP1.xs.length c false 0 (-1) 0 1).toArray) ∧ kP1.xs.length ≤ c ∧ Arr .i8 w' p kP1.xs) ∧ RowKit.Below W.heap.size W w' := by
 have h := posn_any [51, 120, 51, 32, 107, 50, 47, 51, 47, 50, 75, 32, 119, 32, 45, 32, 45, 32, 48, 32, 49] [107, 50, 47, 51, 47, 50, 75] [[107, 50], [51], [50, 75]] 3 3 0 1 false W (by decide) (by decide +kernel) (by decide) (by decide +kernel) rfl (by decide) (by decide) (by decide +kernel) (by decide) (by decide) (by decide +kernel)
 rw [show brdL [[107, 50], [51], [50, 75]] 3 = kP1.xs from by decide +kernel] at h
 exact h
theorem pos2 (W : World) : Calls Tryz.prog 25 #[.string ⟨#[51, 120, 51, 32, 107, 50, 47, 51, 47, 50, 75, 32, 98, 32, 45, 32, 45, 32, 49, 32, 49]⟩] W fun e w' => (∃ p c, e = .returned (.agg (posCs 3 3 p kP2.xs.length c true 0 (-1) 1 1).toArray) ∧ kP2.xs.length ≤ c ∧ Arr .i8 w' p kP2.xs) ∧ RowKit.Below W.heap.size W w' := by
 have h := posn_any [51, 120, 51, 32, 107, 50, 47, 51, 47, 50, 75, 32, 98, 32, 45, 32, 45, 32, 49, 32, 49] [107, 50, 47, 51, 47, 50, 75] [[107, 50], [51], [50, 75]] 3 3 1 1 true W (by decide) (by decide +kernel) (by decide) (by decide +kernel) rfl (by decide) (by decide) (by decide +kernel) (by decide) (by decide) (by decide +kernel)
 rw [show brdL [[107, 50], [51], [50, 75]] 3 = kP2.xs from by decide +kernel] at h
 exact h
theorem pos3 (W : World) : Calls Tryz.prog 25 #[.string ⟨#[51, 120, 51, 32, 107, 50, 47, 51, 47, 50, 75, 32, 98, 32, 45, 32, 45, 32, 48, 32, 49]⟩] W fun e w' => (∃ p c, e = .returned (.agg (posCs 3 3 p kP3.xs.length c true 0 (-1) 0 1).toArray) ∧ kP3.xs.length ≤ c ∧ Arr .i8 w' p kP3.xs) ∧ RowKit.Below W.heap.size W w' := by
 have h := posn_any [51, 120, 51, 32, 107, 50, 47, 51, 47, 50, 75, 32, 98, 32, 45, 32, 45, 32, 48, 32, 49] [107, 50, 47, 51, 47, 50, 75] [[107, 50], [51], [50, 75]] 3 3 0 1 true W (by decide) (by decide +kernel) (by decide) (by decide +kernel) rfl (by decide) (by decide) (by decide +kernel) (by decide) (by decide) (by decide +kernel)
 rw [show brdL [[107, 50], [51], [50, 75]] 3 = kP3.xs from by decide +kernel] at h
 exact h
theorem pos4 (W : World) : Calls Tryz.prog 25 #[.string ⟨#[51, 120, 54, 32, 107, 50, 47, 51, 47, 49, 80, 49, 47, 51, 47, 51, 47, 50, 75, 32, 98, 32, 45, 32, 45, 32, 48, 32, 49]⟩] W fun e w' => (∃ p c, e = .returned (.agg (posCs 3 6 p kP4.xs.length c true 0 (-1) 0 1).toArray) ∧ kP4.xs.length ≤ c ∧ Arr .i8 w' p kP4.xs) ∧ RowKit.Below W.heap.size W w' := by
 have h := posn_any [51, 120, 54, 32, 107, 50, 47, 51, 47, 49, 80, 49, 47, 51, 47, 51, 47, 50, 75, 32, 98, 32, 45, 32, 45, 32, 48, 32, 49] [107, 50, 47, 51, 47, 49, 80, 49, 47, 51, 47, 51, 47, 50, 75] [[107, 50], [51], [49, 80, 49], [51], [51], [50, 75]] 3 6 0 1 true W (by decide) (by decide +kernel) (by decide) (by decide +kernel) rfl (by decide) (by decide) (by decide +kernel) (by decide) (by decide) (by decide +kernel)
 rw [show brdL [[107, 50], [51], [49, 80, 49], [51], [51], [50, 75]] 6 = kP4.xs from by decide +kernel] at h
 exact h
theorem pos5 (W : World) : Calls Tryz.prog 25 #[.string ⟨#[56, 120, 56, 32, 52, 107, 51, 47, 56, 47, 56, 47, 56, 47, 56, 47, 56, 47, 56, 47, 50, 75, 82, 51, 82, 32, 98, 32, 45, 32, 45, 32, 52, 32, 57]⟩] W fun e w' => (∃ p c, e = .returned (.agg (posCs 8 8 p kP5.xs.length c true 0 (-1) 4 9).toArray) ∧ kP5.xs.length ≤ c ∧ Arr .i8 w' p kP5.xs) ∧ RowKit.Below W.heap.size W w' := by
 have h := posn_any [56, 120, 56, 32, 52, 107, 51, 47, 56, 47, 56, 47, 56, 47, 56, 47, 56, 47, 56, 47, 50, 75, 82, 51, 82, 32, 98, 32, 45, 32, 45, 32, 52, 32, 57] [52, 107, 51, 47, 56, 47, 56, 47, 56, 47, 56, 47, 56, 47, 56, 47, 50, 75, 82, 51, 82] [[52, 107, 51], [56], [56], [56], [56], [56], [56], [50, 75, 82, 51, 82]] 8 8 4 9 true W (by decide) (by decide +kernel) (by decide) (by decide +kernel) rfl (by decide) (by decide) (by decide +kernel) (by decide) (by decide) (by decide +kernel)
 rw [show brdL [[52, 107, 51], [56], [56], [56], [56], [56], [56], [50, 75, 82, 51, 82]] 8 = kP5.xs from by decide +kernel] at h
 exact h

def kbF (nn : Int) (X : Nat → Value) : Array Value := #[X 0, X 1, X 2, X 3, X 4, X 5, X 6, X 7, X 8, X 9, X 10, .int .i64 nn, X 12, X 13, X 14, X 15, X 16, X 17, X 18, X 19, X 20, X 21, X 22, X 23, X 24, X 25, X 26, X 27, X 28, X 29, X 30, X 31, X 32, X 33, X 34, X 35, X 36, X 37, X 38, X 39, X 40, X 41, X 42, X 43, X 44, X 45, X 46, X 47, X 48, X 49, X 50, X 51, X 52, X 53, X 54, X 55, X 56, X 57, X 58, X 59, X 60, X 61, X 62, X 63, X 64, X 65, X 66, X 67, X 68, X 69, X 70, X 71, X 72, X 73, X 74, X 75, X 76, X 77, X 78, X 79, X 80, X 81, X 82, X 83, X 84, X 85, X 86, X 87, X 88, X 89, X 90, X 91, X 92, X 93, X 94, X 95, X 96, X 97, X 98, X 99, X 100, X 101, X 102, X 103, X 104, X 105, X 106, X 107, X 108, X 109, X 110, X 111, X 112, X 113, X 114, X 115, X 116, X 117, X 118, X 119, X 120, X 121, X 122, X 123, X 124, X 125, X 126, X 127, X 128, X 129, X 130, X 131, X 132, X 133, X 134, X 135, X 136, X 137, X 138, X 139, X 140, X 141, X 142, X 143, X 144, X 145, X 146, X 147, X 148, X 149, X 150, X 151]
def kbT (T : Array Value) (nn : Int) : Prop := T.size = 152 ∧ ofA T 11 = .int .i64 nn
set_option maxRecDepth 100000 in
theorem kbT.fr {T : Array Value} {nn : Int} (h : kbT T nn) : ∃ X, T = kbF nn X := by
 obtain ⟨hs, h11⟩ := h
 have h := kaL T hs
 rw [h11] at h
 exact ⟨ofA T, h⟩
set_option maxRecDepth 100000 in
theorem kn12 (w : World) (hg : GlobU w) (T : Array Value) (hT : kbT T 2) (W : World) (hB : RowKit.Below w.heap.size w W)
  (cd : Code) (hcd : Tryz.f9.body.map (sufC 12) = some cd) : cd.wp Tryz.prog (bodyPost Tryz.prog Tryz.f9 fun e w' => e = .returned (.bool true) ∧ RowKit.Below w.heap.size w w') { tmps := T, defers := [] } W := by
 obtain rfl := Option.some.inj ((show Tryz.f9.body.map (sufC 12) = some _ from rfl).symm.trans hcd)
 clear hcd
 simp only [sufC]
 obtain ⟨X, rfl⟩ := hT.fr
 clear hT
 unfold kbF
 obtain ⟨Rs, hRs⟩ : ∃ Rs : Ending → World → Prop, Rs = fun e w' => e = .returned (.bool true) ∧ RowKit.Below w.heap.size w w' := ⟨_, rfl⟩
 rw [← hRs]
 replace hRs := Lib.hid hRs
 have hp5 := pos5 W
 go_wp2_with fail
 refine hp5.mono ?_
 rintro e W2 ⟨⟨p, c, rfl, hc, hx⟩, hb2⟩
 have hB2 := below_call hB hB.size hb2
 have hgW : w.heap.size ≤ W.heap.size := hB.size
 have hbx := below_box W2 (.cells (posCs 8 8 p kP5.xs.length c true 0 (-1) 4 9).toArray 26)
 have hX := HasO.new W2 (.cells (posCs 8 8 p kP5.xs.length c true 0 (-1) 4 9).toArray 26)
 have hx3 := hx.call hbx
 have hB3 := below_call hB2 hB2.size hbx
 have hs3 : (W2.alloc (.cells (posCs 8 8 p kP5.xs.length c true 0 (-1) 4 9).toArray 26)).heap.size = W2.heap.size + 1 := by simp
 clear hp5 hB hb2 hbx hx
 go_upto_region 27 with fail
 change Code.wp _ _ _ _ (W2.alloc (.cells (posCs 8 8 p kP5.xs.length c true 0 (-1) 4 9).toArray 26))
 generalize W2.alloc (.cells (posCs 8 8 p kP5.xs.length c true 0 (-1) 4 9).toArray 26) = W3 at *
 have hmv := move_any p kP5.xs.length c true 0 (-1) 4 9 W3
 have c0 := hX.cells
 have l0 := hX.lt
 have hap : ∀ b o, p = some ⟨b, o, none⟩ → b < W3.heap.size := fun b o e => by
  rcases hx3 with h | ⟨b', o', e', h, _⟩
  ·exact absurd h (by decide)
  ·rw [e] at e'; injection e' with e'; injection e' with e1 e2; omega
 rename_i k0 hk0
 replace hk0 := Lib.hid hk0
 go_wp2_with fail
 refine hmv.mono ?_
 rintro e W4 ⟨rfl, hb4⟩
 have hB4 := below_call hB3 hB3.size hb4
 have hX4 := hX.call hb4
 have hx4 := hx3.call hb4
 have hq : W2.heap.size < W4.heap.size := by have := hX4.lt; omega
 have h34 : W3.heap.size ≤ W4.heap.size := hb4.size
 have hbr := below_box W4 (.cells (⟨⟨4, 2, 0⟩, 0, -1, 0, -1⟩ : Ret).cs.toArray 42)
 have hr := HasO.new W4 (.cells (⟨⟨4, 2, 0⟩, 0, -1, 0, -1⟩ : Ret).cs.toArray 42)
 clear hmv c0 l0 hX hx3 hB3 hb4
 go_wp2_with fail
 refine hk0.out _ _ ?_
 rw [hRs.out]
 refine kn14 W2.heap.size W4.heap.size p c hc w hg _ ?_ _ ⟨hB4.size, by omega⟩ (fun b o e => by have := hap b o e; omega) ⟨below_call hB4 hB4.size hbr, hX4.call hbr, hr, hx4.call hbr⟩ _ rfl
 exact ⟨rfl, rfl, rfl, rfl⟩
def kdF (v : Value) (nn : Int) (X : Nat → Value) : Array Value := #[X 0, X 1, X 2, v, X 4, X 5, X 6, X 7, X 8, X 9, X 10, .int .i64 nn, X 12, X 13, X 14, X 15, X 16, X 17, X 18, X 19, X 20, X 21, X 22, X 23, X 24, X 25, X 26, X 27, X 28, X 29, X 30, X 31, X 32, X 33, X 34, X 35, X 36, X 37, X 38, X 39, X 40, X 41, X 42, X 43, X 44, X 45, X 46, X 47, X 48, X 49, X 50, X 51, X 52, X 53, X 54, X 55, X 56, X 57, X 58, X 59, X 60, X 61, X 62, X 63, X 64, X 65, X 66, X 67, X 68, X 69, X 70, X 71, X 72, X 73, X 74, X 75, X 76, X 77, X 78, X 79, X 80, X 81, X 82, X 83, X 84, X 85, X 86, X 87, X 88, X 89, X 90, X 91, X 92, X 93, X 94, X 95, X 96, X 97, X 98, X 99, X 100, X 101, X 102, X 103, X 104, X 105, X 106, X 107, X 108, X 109, X 110, X 111, X 112, X 113, X 114, X 115, X 116, X 117, X 118, X 119, X 120, X 121, X 122, X 123, X 124, X 125, X 126, X 127, X 128, X 129, X 130, X 131, X 132, X 133, X 134, X 135, X 136, X 137, X 138, X 139, X 140, X 141, X 142, X 143, X 144, X 145, X 146, X 147, X 148, X 149, X 150, X 151]
def kdT (T : Array Value) (v : Value) (nn : Int) : Prop := T.size = 152 ∧ ofA T 3 = v ∧ ofA T 11 = .int .i64 nn
set_option maxRecDepth 100000 in
theorem kdT.fr {T : Array Value} {v : Value} {nn : Int} (h : kdT T v nn) : ∃ X, T = kdF v nn X := by
 obtain ⟨hs, h3, h11⟩ := h
 have h := kaL T hs
 rw [h3, h11] at h
 exact ⟨ofA T, h⟩
theorem knB_eq (r : Ret) : knB r = ((r.pa == 10) && ((r.at_ == 7) && ((r.cp == -1) && (r.mv.tg == 10)))) := rfl
set_option maxRecDepth 100000 in
theorem kn11 (w : World) (hg : GlobU w) (L : List Ret) (hL : L.length = 25) (hc2 : L.countP knB = 2) (p : Option Addr) (c : Nat) (T : Array Value) (hT : kdT T (.slice p 25 c) 0) (W : World) (hB : RowKit.Below w.heap.size w W) (hR : RArr W p L)
  (cd : Code) (hcd : Tryz.f9.body.map (sufC 11) = some cd) : cd.wp Tryz.prog (bodyPost Tryz.prog Tryz.f9 fun e w' => e = .returned (.bool true) ∧ RowKit.Below w.heap.size w w') { tmps := T, defers := [] } W := by
 obtain rfl := Option.some.inj ((show Tryz.f9.body.map (sufC 11) = some _ from rfl).symm.trans hcd)
 clear hcd
 simp only [sufC]
 obtain ⟨X, rfl⟩ := hT.fr
 clear hT
 unfold kdF
 obtain ⟨Rs, hRs⟩ : ∃ Rs : Ending → World → Prop, Rs = fun e w' => e = .returned (.bool true) ∧ RowKit.Below w.heap.size w w' := ⟨_, rfl⟩
 rw [← hRs]
 replace hRs := Lib.hid hRs
 obtain ⟨g, rfl, _, _⟩ := hR.at (j := 0) (by omega)
 go_upto_region 20 with fail
 rename_i k1 hk1 k0 hk0
 replace hk1 := Lib.hid hk1
 go_wp2_with fail
 go_loopg [11, 100] 27 (fun q nv iv wr => ∃ (k : Nat) (N : Int), q + k = 27 ∧ k ≤ 25 ∧ iv = .int .i64 k ∧ nv = .int .i64 N ∧ Hid (((L.take k).countP knB : Int) = N) ∧ RowKit.Below W.heap.size W wr)
 case atStart => exact ⟨0, 0, by omega, Nat.zero_le _, rfl, rfl, Lib.hid rfl, Below.refl _ _⟩
 case round =>
  obtain ⟨k, N, hq, hk, rfl, rfl, hN, hBr⟩ := hrel
  by_cases hlt : k < 25
  ·have hki : (k : Int) < 25 := by omega
   have hkL : k < L.length := by omega
   obtain ⟨g', e, hg', hx⟩ := (hR.call hBr).at (j := k) hkL
   injection e with e
   injection e with e e2
   subst e
   clear e2
   obtain ⟨r, hr⟩ : ∃ r, r = L[k]?.getD zeroRet := ⟨_, rfl⟩
   rw [← hr] at hx
   have hnx : ((L.take (k + 1)).countP knB : Int) = ((L.take k).countP knB : Int) + (if knB r then 1 else 0) := by
    rw [List.take_succ_eq_append_getElem hkL, List.countP_append, hr, List.getElem?_eq_getElem hkL, Option.getD_some]
    simp only [List.countP_cons, List.countP_nil]
    split <;> simp
   have hNb : 0 ≤ N ∧ N ≤ 25 := by
    have h1 := List.countP_le_length (p := knB) (l := L.take k)
    rw [List.length_take] at h1
    have := hN.out
    omega
   replace hr := Lib.hid hr
   go_upto_region 23 with (first | (refine wpList_loadA rfl 42 (.tmp 102) rfl rfl r.cs (by kernel_rfl) hx ?_) | fail)
   change Code.wp _ _ _ _ (wr.alloc (.cells r.cs.toArray 42))
   have hB3 := below_call hBr hBr.size (below_box wr (.cells r.cs.toArray 42))
   have hX := HasO.new wr (.cells r.cs.toArray 42)
   generalize wr.alloc (.cells r.cs.toArray 42) = w3 at *
   have c1 : ∀ j, w3.cell? ⟨wr.heap.size, j, none⟩ = (#[.int .i64 r.mv.fr, .int .i64 r.mv.tg, .int .i8 r.mv.pr, .int .i8 r.cp, .int .i64 r.at_, .int .u8 r.ca, .int .i64 r.pa] : Array Value)[j]? := hX.cells
   have l1 := hX.lt
   clear hx hX hBr
   have hkb := knB_eq r
   rcases z1 : (r.pa == 10) with _ | _
   ·have hn2 : Hid (((L.take (k + 1)).countP knB : Int) = N) := Lib.hid (by rw [hnx, (by rw [hkb, z1]; rfl : knB r = false), hN.out]; simp)
    clear hnx
    go_wp2_with fail
    go_roundg (gk - 1)
    case measure => omega
    case rel => exact ⟨k + 1, N, by omega, by omega, by go_num, rfl, hn2, hB3⟩
   ·rcases z2 : (r.at_ == 7) with _ | _
    ·have hn2 : Hid (((L.take (k + 1)).countP knB : Int) = N) := Lib.hid (by rw [hnx, (by rw [hkb, z1, z2]; rfl : knB r = false), hN.out]; simp)
     clear hnx
     go_wp2_with fail
     go_roundg (gk - 1)
     case measure => omega
     case rel => exact ⟨k + 1, N, by omega, by omega, by go_num, rfl, hn2, hB3⟩
    ·rcases z3 : (r.cp == -1) with _ | _
     ·have hn2 : Hid (((L.take (k + 1)).countP knB : Int) = N) := Lib.hid (by rw [hnx, (by rw [hkb, z1, z2, z3]; rfl : knB r = false), hN.out]; simp)
      clear hnx
      go_wp2_with fail
      go_roundg (gk - 1)
      case measure => omega
      case rel => exact ⟨k + 1, N, by omega, by omega, by go_num, rfl, hn2, hB3⟩
     ·rcases z4 : (r.mv.tg == 10) with _ | _
      ·have hn2 : Hid (((L.take (k + 1)).countP knB : Int) = N) := Lib.hid (by rw [hnx, (by rw [hkb, z1, z2, z3, z4]; rfl : knB r = false), hN.out]; simp)
       clear hnx
       go_wp2_with fail
       go_roundg (gk - 1)
       case measure => omega
       case rel => exact ⟨k + 1, N, by omega, by omega, by go_num, rfl, hn2, hB3⟩
      ·have hn2 : Hid (((L.take (k + 1)).countP knB : Int) = N + 1) := Lib.hid (by rw [hnx, hkb, z1, z2, z3, z4, hN.out]; rfl)
       clear hnx
       go_wp2_with fail
       go_roundg (gk - 1)
       case measure => omega
       case rel => exact ⟨k + 1, N + 1, by omega, by omega, by go_num, by go_num, hn2, hB3⟩
  ·obtain rfl : k = 25 := by omega
   have hN2 : N = 2 := by
    have h := hN.out
    rw [List.take_of_length_le (Nat.le_of_eq hL), hc2] at h
    omega
   subst hN2
   go_wp2_with fail
   refine hk1.out _ _ ?_
   rw [hRs.out]
   refine kn12 w hg _ ?_ _ (below_call hB hB.size hBr) _ rfl
   exact ⟨rfl, rfl⟩
def keF (v1 : Value) (v3 : Value) (v7 : Value) (X : Nat → Value) : Array Value := #[X 0, v1, .int .i64 0, v3, .int .i64 0, X 5, X 6, v7, X 8, X 9, X 10, X 11, X 12, X 13, X 14, X 15, X 16, X 17, X 18, X 19, X 20, X 21, X 22, X 23, X 24, X 25, X 26, X 27, X 28, X 29, X 30, X 31, X 32, X 33, X 34, X 35, X 36, X 37, X 38, X 39, X 40, X 41, X 42, X 43, X 44, X 45, X 46, X 47, X 48, X 49, X 50, X 51, X 52, X 53, X 54, X 55, X 56, X 57, X 58, X 59, X 60, X 61, X 62, X 63, X 64, X 65, X 66, X 67, X 68, X 69, X 70, X 71, X 72, X 73, X 74, X 75, X 76, X 77, X 78, X 79, X 80, X 81, X 82, X 83, X 84, X 85, X 86, X 87, X 88, X 89, X 90, X 91, X 92, X 93, X 94, X 95, X 96, X 97, X 98, X 99, X 100, X 101, X 102, X 103, X 104, X 105, X 106, X 107, X 108, X 109, X 110, X 111, X 112, X 113, X 114, X 115, X 116, X 117, X 118, X 119, X 120, X 121, X 122, X 123, X 124, X 125, X 126, X 127, X 128, X 129, X 130, X 131, X 132, X 133, X 134, X 135, X 136, X 137, X 138, X 139, X 140, X 141, X 142, X 143, X 144, X 145, X 146, X 147, X 148, X 149, X 150, X 151]
def keT (T : Array Value) (v1 : Value) (v3 : Value) (v7 : Value) : Prop := T.size = 152 ∧ ofA T 1 = v1 ∧ ofA T 2 = .int .i64 0 ∧ ofA T 3 = v3 ∧ ofA T 4 = .int .i64 0 ∧ ofA T 7 = v7
set_option maxRecDepth 100000 in
theorem keT.fr {T : Array Value} {v1 : Value} {v3 : Value} {v7 : Value} (h : keT T v1 v3 v7) : ∃ X, T = keF v1 v3 v7 X := by
 obtain ⟨hs, h1, h2, h3, h4, h7⟩ := h
 have h := kaL T hs
 rw [h1, h2, h3, h4, h7] at h
 exact ⟨ofA T, h⟩

def kfF (v7 : Value) (X : Nat → Value) : Array Value := #[X 0, X 1, X 2, X 3, X 4, X 5, X 6, v7, X 8, X 9, X 10, X 11, X 12, X 13, X 14, X 15, X 16, X 17, X 18, X 19, X 20, X 21, X 22, X 23, X 24, X 25, X 26, X 27, X 28, X 29, X 30, X 31, X 32, X 33, X 34, X 35, X 36, X 37, X 38, X 39, X 40, X 41, X 42, X 43, X 44, X 45, X 46, X 47, X 48, X 49, X 50, X 51, X 52, X 53, X 54, X 55, X 56, X 57, X 58, X 59, X 60, X 61, X 62, X 63, X 64, X 65, X 66, X 67, X 68, X 69, X 70, X 71, X 72, X 73, X 74, X 75, X 76, X 77, X 78, X 79, X 80, X 81, X 82, X 83, X 84, X 85, X 86, X 87, X 88, X 89, X 90, X 91, X 92, X 93, X 94, X 95, X 96, X 97, X 98, X 99, X 100, X 101, X 102, X 103, X 104, X 105, X 106, X 107, X 108, X 109, X 110, X 111, X 112, X 113, X 114, X 115, X 116, X 117, X 118, X 119, X 120, X 121, X 122, X 123, X 124, X 125, X 126, X 127, X 128, X 129, X 130, X 131, X 132, X 133, X 134, X 135, X 136, X 137, X 138, X 139, X 140, X 141, X 142, X 143, X 144, X 145, X 146, X 147, X 148, X 149, X 150, X 151]
def kfT (T : Array Value) (v7 : Value) : Prop := T.size = 152 ∧ ofA T 7 = v7
set_option maxRecDepth 100000 in
theorem kfT.fr {T : Array Value} {v7 : Value} (h : kfT T v7) : ∃ X, T = kfF v7 X := by
 obtain ⟨hs, h7⟩ := h
 have h := kaL T hs
 rw [h7] at h
 exact ⟨ofA T, h⟩
theorem mvs1 (W : World) (p : Option Addr) (c : Nat) (hc : kP1.xs.length ≤ c) (hg : GlobU W) (ht : TzOk W) (hx : Arr .i8 W p kP1.xs) : Calls Tryz.prog 11 #[.agg (posCs 3 3 p kP1.xs.length c false 0 (-1) 0 1).toArray] W fun e w' => (∃ p' c', e = .returned (.tuple #[.slice p' 0 c', .int .i64 0]) ∧ RArr w' p' (([] : List Ret))) ∧ RowKit.Below W.heap.size W w' := by
 have h := moves_good 3 3 kP1.xs false 0 (-1) 0 1 p c kv1 (by decide) hc W hg ht hx
 refine Calls.mono h ?_
 rintro e w' ⟨v, rfl, ho, hb⟩
 have hm : movW ⟨(3 : Nat), (3 : Nat), kP1.xs, false, ((0 : Nat) : Int), -1, 0, 1⟩ = ([] : List Ret) := kn1
 rw [hm] at ho
 obtain ⟨p', c', rfl, hr⟩ := own_rarr ho
 have hl : (([] : List Ret)).length = 0 := rfl
 rw [hl]
 exact ⟨⟨p', c', rfl, hr⟩, hb⟩
theorem mvs2 (W : World) (p : Option Addr) (c : Nat) (hc : kP2.xs.length ≤ c) (hg : GlobU W) (ht : TzOk W) (hx : Arr .i8 W p kP2.xs) : Calls Tryz.prog 11 #[.agg (posCs 3 3 p kP2.xs.length c true 0 (-1) 1 1).toArray] W fun e w' => (∃ p' c', e = .returned (.tuple #[.slice p' 2 c', .int .i64 0]) ∧ RArr w' p' (([⟨⟨1, 2, 0⟩, 0, -1, 0, -1⟩, ⟨⟨5, 2, 0⟩, 0, -1, 0, -1⟩] : List Ret))) ∧ RowKit.Below W.heap.size W w' := by
 have h := moves_good 3 3 kP2.xs true 0 (-1) 1 1 p c kv2 (by decide) hc W hg ht hx
 refine Calls.mono h ?_
 rintro e w' ⟨v, rfl, ho, hb⟩
 have hm : movW ⟨(3 : Nat), (3 : Nat), kP2.xs, true, ((0 : Nat) : Int), -1, 1, 1⟩ = ([⟨⟨1, 2, 0⟩, 0, -1, 0, -1⟩, ⟨⟨5, 2, 0⟩, 0, -1, 0, -1⟩] : List Ret) := kn2
 rw [hm] at ho
 obtain ⟨p', c', rfl, hr⟩ := own_rarr ho
 have hl : (([⟨⟨1, 2, 0⟩, 0, -1, 0, -1⟩, ⟨⟨5, 2, 0⟩, 0, -1, 0, -1⟩] : List Ret)).length = 2 := rfl
 rw [hl]
 exact ⟨⟨p', c', rfl, hr⟩, hb⟩
theorem mvs3 (W : World) (p : Option Addr) (c : Nat) (hc : kP3.xs.length ≤ c) (hg : GlobU W) (ht : TzOk W) (hx : Arr .i8 W p kP3.xs) : Calls Tryz.prog 11 #[.agg (posCs 3 3 p kP3.xs.length c true 0 (-1) 0 1).toArray] W fun e w' => (∃ p' c', e = .returned (.tuple #[.slice p' 8 c', .int .i64 0]) ∧ RArr w' p' (wntL 8)) ∧ RowKit.Below W.heap.size W w' := by
 have h := moves_good 3 3 kP3.xs true 0 (-1) 0 1 p c kv3 (by decide) hc W hg ht hx
 refine Calls.mono h ?_
 rintro e w' ⟨v, rfl, ho, hb⟩
 have hm : movW ⟨(3 : Nat), (3 : Nat), kP3.xs, true, ((0 : Nat) : Int), -1, 0, 1⟩ = wntL 8 := kn3
 rw [hm] at ho
 obtain ⟨p', c', rfl, hr⟩ := own_rarr ho
 have hl : (wntL 8).length = 8 := (by decide)
 rw [hl]
 exact ⟨⟨p', c', rfl, hr⟩, hb⟩
theorem mvs4 (W : World) (p : Option Addr) (c : Nat) (hc : kP4.xs.length ≤ c) (hg : GlobU W) (ht : TzOk W) (hx : Arr .i8 W p kP4.xs) : Calls Tryz.prog 11 #[.agg (posCs 3 6 p kP4.xs.length c true 0 (-1) 0 1).toArray] W fun e w' => (∃ p' c', e = .returned (.tuple #[.slice p' 25 c', .int .i64 0]) ∧ RArr w' p' (movW kP4)) ∧ RowKit.Below W.heap.size W w' := by
 have h := moves_good 3 6 kP4.xs true 0 (-1) 0 1 p c kv4 (by decide) hc W hg ht hx
 refine Calls.mono h ?_
 rintro e w' ⟨v, rfl, ho, hb⟩
 have hm : movW ⟨(3 : Nat), (6 : Nat), kP4.xs, true, ((0 : Nat) : Int), -1, 0, 1⟩ = movW kP4 := rfl
 rw [hm] at ho
 obtain ⟨p', c', rfl, hr⟩ := own_rarr ho
 have hl : (movW kP4).length = 25 := kn4.1
 rw [hl]
 exact ⟨⟨p', c', rfl, hr⟩, hb⟩
set_option maxRecDepth 100000 in
theorem kn9 (w : World) (hg : GlobU w) (p1 p3 p7 : Option Addr) (c1 c3 c7 : Nat) (T : Array Value) (hT : keT T (.slice p1 8 c1) (.slice p3 25 c3) (.slice p7 8 c7)) (W : World) (hB : RowKit.Below w.heap.size w W) (hR1 : RArr W p1 (wntL 8)) (hR3 : RArr W p3 (movW kP4)) (hR7 : RArr W p7 (wntL 8))
  (cd : Code) (hcd : Tryz.f9.body.map (sufC 9) = some cd) : cd.wp Tryz.prog (bodyPost Tryz.prog Tryz.f9 fun e w' => e = .returned (.bool true) ∧ RowKit.Below w.heap.size w w') { tmps := T, defers := [] } W := by
 obtain rfl := Option.some.inj ((show Tryz.f9.body.map (sufC 9) = some _ from rfl).symm.trans hcd)
 clear hcd
 simp only [sufC]
 obtain ⟨X, rfl⟩ := hT.fr
 clear hT
 unfold keF
 obtain ⟨Rs, hRs⟩ : ∃ Rs : Ending → World → Prop, Rs = fun e w' => e = .returned (.bool true) ∧ RowKit.Below w.heap.size w w' := ⟨_, rfl⟩
 rw [← hRs]
 replace hRs := Lib.hid hRs
 have hsm := same14_any p1 p7 c1 c7 (wntL 8) (wntL 8) (by decide) W hR1 hR7
 rw [show (wntL 8).length = 8 from by decide, show decide (wntL 8 = wntL 8) = true from by simp] at hsm
 obtain ⟨L4, hL4⟩ : ∃ L4, L4 = movW kP4 := ⟨_, rfl⟩
 have hk4 := kn4
 rw [← hL4] at hR3 hk4
 replace hL4 := True.intro
 go_wp2_with fail
 refine hsm.mono ?_
 rintro e W2 ⟨rfl, hb2⟩
 clear hsm
 go_upto_region 19 with fail
 rename_i k0 hk0
 replace hk0 := Lib.hid hk0
 go_wp2_with fail
 refine hk0.out _ _ ?_
 rw [hRs.out]
 refine kn11 w hg L4 hk4.1 hk4.2 p3 c3 _ ?_ W2 (below_call hB hB.size hb2) (hR3.call hb2) _ rfl
 exact ⟨rfl, rfl, rfl⟩
set_option maxRecDepth 100000 in
theorem kn7 (w : World) (hg : GlobU w) (ht : TzOk w) (p7 : Option Addr) (c7 : Nat) (T : Array Value) (hT : kfT T (.slice p7 8 c7)) (W : World) (hB : RowKit.Below w.heap.size w W) (hR7 : RArr W p7 (wntL 8))
  (cd : Code) (hcd : Tryz.f9.body.map (sufC 7) = some cd) : cd.wp Tryz.prog (bodyPost Tryz.prog Tryz.f9 fun e w' => e = .returned (.bool true) ∧ RowKit.Below w.heap.size w w') { tmps := T, defers := [] } W := by
 obtain rfl := Option.some.inj ((show Tryz.f9.body.map (sufC 7) = some _ from rfl).symm.trans hcd)
 clear hcd
 simp only [sufC]
 obtain ⟨X, rfl⟩ := hT.fr
 clear hT
 unfold kfF
 obtain ⟨Rs, hRs⟩ : ∃ Rs : Ending → World → Prop, Rs = fun e w' => e = .returned (.bool true) ∧ RowKit.Below w.heap.size w w' := ⟨_, rfl⟩
 rw [← hRs]
 replace hRs := Lib.hid hRs
 obtain ⟨LW, hLW⟩ : ∃ LW, LW = wntL 8 := ⟨_, rfl⟩
 obtain ⟨L4, hL4⟩ : ∃ L4, L4 = movW kP4 := ⟨_, rfl⟩
 have hm3 := mvs3
 have hm4 := mvs4
 rw [← hLW] at hR7 hm3
 rw [← hL4] at hm4
 replace hLW := Lib.hid hLW
 replace hL4 := Lib.hid hL4
 go_upto_region 15 with fail
 rename_i k0 hk0
 have hp3 := pos3 W
 have hp4 := fun W => pos4 W
 go_wp2_with fail
 refine hp3.mono ?_
 rintro e W2 ⟨⟨p, c, rfl, hc, hx⟩, hb2⟩
 have hB2 := below_call hB hB.size hb2
 have hR2 := hR7.call hb2
 have hmm := hm3 W2 p c hc (hg.call hB2) (ht.call hB2) hx
 clear hp3 hB hR7 hb2 hm3
 go_wp2_with fail
 refine hmm.mono ?_
 rintro e W3 ⟨⟨p1, c1, rfl, hR1⟩, hb3⟩
 have hB3 := below_call hB2 hB2.size hb3
 have hR3 := hR2.call hb3
 clear hmm hB2 hR2 hb3 hx
 go_upto_region 16 with fail
 rename_i k1 hk1
 replace hk1 := Lib.hid hk1
 go_wp2_with fail
 refine (hp4 W3).mono ?_
 rintro e W4 ⟨⟨p', c', rfl, hc', hx'⟩, hb4⟩
 have hB4 := below_call hB3 hB3.size hb4
 have hR4 := hR3.call hb4
 have hR14 := hR1.call hb4
 have hmm := hm4 W4 p' c' hc' (hg.call hB4) (ht.call hB4) hx'
 clear hp4 hB3 hR3 hR1 hb4 hm4
 go_wp2_with fail
 refine hmm.mono ?_
 rintro e W5 ⟨⟨p3, c3, rfl, hR35⟩, hb5⟩
 have hB5 := below_call hB4 hB4.size hb5
 have hR5 := hR4.call hb5
 have hR15 := hR14.call hb5
 clear hmm hB4 hR4 hR14 hb5 hx'
 go_wp2_with fail
 refine hk1.out _ _ ?_
 rw [hRs.out]
 rw [hLW.out] at hR5 hR15
 rw [hL4.out] at hR35
 refine kn9 w hg p1 p3 p7 c1 c3 c7 _ ?_ W5 hB5 hR15 hR35 hR5 _ rfl
 exact ⟨rfl, rfl, rfl, rfl, rfl, rfl⟩
end Go.Proofs.YtefmplccbkmalaaGreatDoor
