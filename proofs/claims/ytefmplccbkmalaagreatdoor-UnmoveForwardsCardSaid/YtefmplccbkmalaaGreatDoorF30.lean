import Derived.Test.YtefmplccbkmalaaGreatDoorF16
import Derived.Test.YtefmplccbkmalaaGreatDoorF29
set_option maxHeartbeats 12800000
namespace Go.Proofs.YtefmplccbkmalaaGreatDoor
open Go.RowKit Go.Sort Go.BigFrame

set_option maxRecDepth 100000 in
theorem bgL (T : Array Value) (h : T.size = 82) : T = #[ofA T 0, ofA T 1, ofA T 2, ofA T 3, ofA T 4, ofA T 5, ofA T 6, ofA T 7, ofA T 8, ofA T 9, ofA T 10, ofA T 11, ofA T 12, ofA T 13, ofA T 14, ofA T 15, ofA T 16, ofA T 17, ofA T 18, ofA T 19, ofA T 20, ofA T 21, ofA T 22, ofA T 23, ofA T 24, ofA T 25, ofA T 26, ofA T 27, ofA T 28, ofA T 29, ofA T 30, ofA T 31, ofA T 32, ofA T 33, ofA T 34, ofA T 35, ofA T 36, ofA T 37, ofA T 38, ofA T 39, ofA T 40, ofA T 41, ofA T 42, ofA T 43, ofA T 44, ofA T 45, ofA T 46, ofA T 47, ofA T 48, ofA T 49, ofA T 50, ofA T 51, ofA T 52, ofA T 53, ofA T 54, ofA T 55, ofA T 56, ofA T 57, ofA T 58, ofA T 59, ofA T 60, ofA T 61, ofA T 62, ofA T 63, ofA T 64, ofA T 65, ofA T 66, ofA T 67, ofA T 68, ofA T 69, ofA T 70, ofA T 71, ofA T 72, ofA T 73, ofA T 74, ofA T 75, ofA T 76, ofA T 77, ofA T 78, ofA T 79, ofA T 80, ofA T 81] := by
 have := arr_lit T
 rw [h] at this
 exact this
def bgF (q0 : Nat) (v : Value) (u : Int) (K : Nat) (X : Nat → Value) : Array Value := #[X 0, X 1, X 2, .pointer (some ⟨q0, 0, none⟩), X 4, v, .int .i64 u, .int .i64 K, X 8, X 9, X 10, X 11, X 12, X 13, X 14, X 15, X 16, X 17, X 18, X 19, X 20, X 21, X 22, X 23, X 24, X 25, X 26, X 27, X 28, X 29, X 30, X 31, X 32, X 33, X 34, X 35, X 36, X 37, X 38, X 39, X 40, X 41, X 42, X 43, X 44, X 45, X 46, X 47, X 48, X 49, X 50, X 51, X 52, X 53, X 54, X 55, X 56, X 57, X 58, X 59, X 60, X 61, X 62, X 63, X 64, X 65, X 66, X 67, X 68, X 69, X 70, X 71, X 72, X 73, X 74, X 75, X 76, X 77, X 78, X 79, X 80, X 81]
def bgT (T : Array Value) (q0 : Nat) (v : Value) (u : Int) (K : Nat) : Prop := T.size = 82 ∧ ofA T 3 = .pointer (some ⟨q0, 0, none⟩) ∧ ofA T 5 = v ∧ ofA T 6 = .int .i64 u ∧ ofA T 7 = .int .i64 K
set_option maxRecDepth 100000 in
theorem bgT.fr {T : Array Value} {q0 : Nat} {v : Value} {u : Int} {K : Nat} (h : bgT T q0 v u K) : ∃ X, T = bgF q0 v u K X := by
 obtain ⟨hs, h3, h5, h6, h7⟩ := h
 have h := bgL T hs
 rw [h3, h5, h6, h7] at h
 exact ⟨ofA T, h⟩

def bhB (F K : Nat) (u : Int) (xs : List Int) (bl : Bool) (f : Nat) : Bool := (xs[K * F + f]?.getD 0 == 0) && ((xs[(((K * F + f : Nat) : Int) - u).toNat]?.getD 0 == 0) && (xs[(((K * F + f : Nat) : Int) + u).toNat]?.getD 0 == pcI 1 (!bl)))
def bhL (F K : Nat) (u : Int) (xs : List Int) (bl : Bool) : Nat → List Int
 | 0 => [-1]
 | k + 1 => if bhB F K u xs bl k then bhL F K u xs bl k ++ [((K * F + k : Nat) : Int)] else bhL F K u xs bl k
theorem bhL_len (F K : Nat) (u : Int) (xs : List Int) (bl : Bool) (k : Nat) : (bhL F K u xs bl k).length ≤ k + 1 := by
 induction k with
 | zero => simp [bhL]
 | succ k ih =>
  simp only [bhL]
  split
  ·simp; omega
  ·omega
def behL (F R : Nat) (xs : List Int) (bl : Bool) (ha : Int) : List Int := if R < 6 ∨ ha ≠ 0 then [-1] else bhL F (if bl then 2 else R - 3) (if bl then (F : Int) else -F) xs bl F
theorem below_trans5 {B : Nat} {W w1 w2 : World} (h : RowKit.Below B W w1) (hB : B ≤ W.heap.size) (hb : RowKit.Below w1.heap.size w1 w2) : RowKit.Below B W w2 := below_call h (Nat.le_trans hB h.size) hb
set_option maxRecDepth 100000 in
theorem behLoop (F R K : Nat) (u : Int) (xs : List Int) (bl : Bool) (ca pa ha fu : Int) (g o cc q0 base : Nat) (v : Value) (T : Array Value) (hT : bgT T q0 v u K) (Rs : Ending → World → Prop)
  (hF : 3 ≤ F ∧ F ≤ 8) (hK : 2 ≤ K ∧ K + 3 ≤ R) (hR : R ≤ 8) (hlen : xs.length = F * R) (hu : u = F ∨ u = -(F : Int)) (w W : World) (hB : RowKit.Below base w W) (hbw : base ≤ W.heap.size) (hq0 : q0 < base) (hP : HasO W q0 (.cells (posCs F R (some ⟨g, o, none⟩) xs.length cc bl ca pa ha fu).toArray 26 (0, 0))) (hx : Arr .i8 W (some ⟨g, o, none⟩) xs) (hgo : g < base)
  (hv : W.ownsRow base 3 1 v (bhL F K u xs bl 0).length ((bhL F K u xs bl 0).map (.int .i64)))
  (hok : ∀ v' w', RowKit.Below base w w' → w'.ownsRow base 3 1 v' (bhL F K u xs bl F).length ((bhL F K u xs bl F).map (.int .i64)) → Rs (.returned v') w')
  (cd : Code) (hcd : Tryz.f143.body.map (sufC 5) = some cd) : cd.wp Tryz.prog (bodyPost Tryz.prog Tryz.f143 Rs) { tmps := T, defers := [] } W := by
 obtain rfl := Option.some.inj ((show Tryz.f143.body.map (sufC 5) = some _ from rfl).symm.trans hcd)
 clear hcd
 simp only [sufC]
 obtain ⟨X, rfl⟩ := hT.fr
 clear hT
 unfold bgF
 obtain ⟨i3, hi3, hz3, hs3, hy3⟩ := info_parts Tryz.info3
 have c0 := hP.cells
 have l0 := hP.lt
 go_upto_region 7 with fail
 rename_i k hk k2 hk2
 replace hk := Lib.hid hk
 dsimp only
 go_wp2_with fail
 have hnx0 : ∀ k, bhL F K u xs bl (k + 1) = if bhB F K u xs bl k then bhL F K u xs bl k ++ [((K * F + k : Nat) : Int)] else bhL F K u xs bl k := fun _ => rfl
 have hcd : ∀ k, bhB F K u xs bl k = ((xs[K * F + k]?.getD 0 == 0) && ((xs[(((K * F + k : Nat) : Int) - u).toNat]?.getD 0 == 0) && (xs[(((K * F + k : Nat) : Int) + u).toNat]?.getD 0 == pcI 1 (!bl)))) := fun _ => rfl
 have hll := bhL_len F K u xs bl
 generalize bhL F K u xs bl = LL at *
 generalize bhB F K u xs bl = BB at *
 have hpf : Below base W W := Below.refl _ _
 go_loopg [5, 36] 9 (fun q sv iv wr => ∃ i : Nat, q + i = 9 ∧ i ≤ F ∧ iv = .int .i64 i ∧ wr.ownsRow base 3 1 sv (LL i).length ((LL i).map (.int .i64)) ∧ RowKit.Below base W wr)
 case atStart => exact ⟨0, by omega, Nat.zero_le _, rfl, hv, Below.refl _ _⟩
 case round =>
  obtain ⟨i, hq, hi, rfl, hown, hbr⟩ := hrel
  by_cases hlt : i < F
  ·have hKF : K * F + 3 * F ≤ F * R := by
    have h1 := Nat.mul_le_mul_right F hK.2
    rw [Nat.add_mul, Nat.mul_comm R F] at h1
    exact h1
   have hKF2 : 2 * F ≤ K * F := Nat.mul_le_mul_right F hK.1
   obtain ⟨A, hA⟩ : ∃ A, A = K * F + i := ⟨_, rfl⟩
   obtain ⟨B1, hB1⟩ : ∃ B1 : Nat, (A : Int) - u = B1 := ⟨((A : Int) - u).toNat, by rcases hu with rfl | rfl <;> omega⟩
   obtain ⟨B2, hB2⟩ : ∃ B2 : Nat, (A : Int) + u = B2 := ⟨((A : Int) + u).toNat, by rcases hu with rfl | rfl <;> omega⟩
   have hl64 : F * R ≤ 64 := Nat.mul_le_mul hF.2 hR
   have hAl : A < xs.length ∧ B1 < xs.length ∧ B2 < xs.length := by
    rw [hlen]
    refine ⟨by omega, ?_, ?_⟩ <;> rcases hu with rfl | rfl <;> omega
   have w1 : wrap64 ((A : Int) - u) = B1 := by rw [hB1, IntWalk.wrap64_in _ (by omega)]
   have w2 : wrap64 ((A : Int) + u) = B2 := by rw [hB2, IntWalk.wrap64_in _ (by omega)]
   have hcdi := hcd i
   have hnx := hnx0 i
   rw [← hA, hB1, hB2, Int.toNat_natCast, Int.toNat_natCast] at hcdi
   rw [← hA] at hnx
   have hKi : (K : Int) * F + i = A := by rw [hA, Int.natCast_add, Int.natCast_mul]
   have hxc : ∀ j, j < xs.length → wr.cell? ⟨g, o + j, none⟩ = some (.int .i8 (xs[j]?.getD 0)) := fun j hj => by
    obtain ⟨g', o', e3, h5⟩ := arr_at hx hj
    injection e3 with e3
    injection e3 with e3 e4
    subst e3 e4
    rw [hbr.cell (p := ⟨g, o + j, none⟩) hgo]
    exact h5
   have c1 := hxc A hAl.1
   have c2 := hxc B1 hAl.2.1
   have c3 := hxc B2 hAl.2.2
   have hlL := hll i
   generalize hy1y : xs[A]?.getD 0 = y1 at *
   generalize hy2y : xs[B1]?.getD 0 = y2 at *
   generalize hy3y : xs[B2]?.getD 0 = y3 at *
   have hPr := hP.below hbr hq0
   clear hxc hnx0 hcd hll hx hP c0 l0
   replace hnx := Lib.hid hnx
   replace hcdi := Lib.hid hcdi
   replace hKi := Lib.hid hKi
   replace hA := Lib.hid hA
   replace hlen := Lib.hid hlen
   replace hy1y := Lib.hid hy1y
   replace hy2y := Lib.hid hy2y
   replace hy3y := Lib.hid hy3y
   replace hB1 := Lib.hid hB1
   replace hB2 := Lib.hid hB2
   replace w1 := Lib.hid w1
   replace w2 := Lib.hid w2
   have i1 : (A : Int) < xs.length := by omega
   have i2 : (B1 : Int) < xs.length := by omega
   have i3' : (B2 : Int) < xs.length := by omega
   have c0 := hPr.cells
   have l0 := hPr.lt
   go_upto_region 11 with fail
   rw [hKi.out]
   clear c0 l0
   have p0 : ∀ d os j, (grow (redrawn wr d) os).cell? ⟨q0, j, none⟩ = (posCs F R (some ⟨g, o, none⟩) xs.length cc bl ca pa ha fu).toArray[j]? := row_gr hPr
   have n1 := cell_regrown c1
   have n2 := cell_regrown c2
   have n3 := cell_regrown c3
   have t1 := call_eq (w := wr) (fun W => of92_any 1 (!bl) (by decide) W)
   rcases z1 : (y1 == 0) with _ | _
   ·refine wp_region_all (by kernel_rfl) (by kernel_rfl) ?_
    repeat (go_big_quiet_step (first | with_reducible exact t1 _ _ | fail))
    refine wpQuiet_nil ?_
    intro w5 hb5
    clear p0 n1 n2 n3
    have hLn : Hid (LL (i + 1) = LL i) := Lib.hid (by rw [hnx.out, hcdi.out, z1]; rfl)
    go_wp2_with fail
    go_roundg (gk - 1)
    case measure => omega
    case rel => exact ⟨i + 1, by omega, by omega, by go_num, by rw [hLn.out]; exact own_call hown hb5, below_trans5 hbr hbw hb5⟩
   ·rcases z2 : (y2 == 0) with _ | _
    ·refine wp_region_all (by kernel_rfl) (by kernel_rfl) ?_
     iterate 12 (go_big_quiet_step (first | with_reducible exact t1 _ _ | fail))
     first | rw [w1.out] | rw [hB1.out]
     repeat (go_big_quiet_step (first | with_reducible exact t1 _ _ | fail))
     refine wpQuiet_nil ?_
     intro w5 hb5
     clear p0 n1 n2 n3
     have hLn : Hid (LL (i + 1) = LL i) := Lib.hid (by rw [hnx.out, hcdi.out, z1, z2]; rfl)
     go_wp2_with fail
     go_roundg (gk - 1)
     case measure => omega
     case rel => exact ⟨i + 1, by omega, by omega, by go_num, by rw [hLn.out]; exact own_call hown hb5, below_trans5 hbr hbw hb5⟩
    ·rcases z3 : (y3 == pcI 1 (!bl)) with _ | _
     ·refine wp_region_all (by kernel_rfl) (by kernel_rfl) ?_
      iterate 12 (go_big_quiet_step (first | with_reducible exact t1 _ _ | fail))
      first | rw [w1.out] | rw [hB1.out]
      iterate 10 (go_big_quiet_step (first | with_reducible exact t1 _ _ | fail))
      first | rw [w2.out] | rw [hB2.out]
      repeat (go_big_quiet_step (first | with_reducible exact t1 _ _ | fail))
      refine wpQuiet_nil ?_
      intro w5 hb5
      clear p0 n1 n2 n3
      have hLn : Hid (LL (i + 1) = LL i) := Lib.hid (by rw [hnx.out, hcdi.out, z1, z2, z3]; rfl)
      go_wp2_with fail
      go_roundg (gk - 1)
      case measure => omega
      case rel => exact ⟨i + 1, by omega, by omega, by go_num, by rw [hLn.out]; exact own_call hown hb5, below_trans5 hbr hbw hb5⟩
     ·refine wp_region_all (by kernel_rfl) (by kernel_rfl) ?_
      iterate 12 (go_big_quiet_step (first | with_reducible exact t1 _ _ | fail))
      first | rw [w1.out] | rw [hB1.out]
      iterate 10 (go_big_quiet_step (first | with_reducible exact t1 _ _ | fail))
      first | rw [w2.out] | rw [hB2.out]
      repeat (go_big_quiet_step (first | with_reducible exact t1 _ _ | fail))
      refine wpQuiet_nil ?_
      intro w5 hb5
      clear p0 n1 n2 n3
      have hLn : Hid (LL (i + 1) = LL i ++ [(A : Int)]) := Lib.hid (by rw [hnx.out, hcdi.out, z1, z2, z3]; rfl)
      have hown5 := own_call hown hb5
      have hbr5 := below_trans5 hbr hbw hb5
      have hbs5 := Nat.le_trans hbw hbr5.size
      go_wp2_with (at_builtin; refine wpList_push_at rfl (.tmp 76) (.tmp 78) 136 rfl base 3 i3 (.int .i64 0) 8 Tryz.underlying136 hi3 hz3 hs3 hy3 rfl _ (LL i).length ((LL i).map (.int .i64)) rfl hown5 1 [.int .i64 (A : Int)] rfl (by intro u hu; simp at hu; subst hu; rfl) _ rfl rfl (by omega) hbs5 ?_)
      intro v' w9 hown9 hg9 _
      have hb9 := (hbr5.alloc hbs5 (.cells #[.int .i64 (A : Int)] 3)).grown hg9 (Nat.le_trans hbs5 (by simp)) (fun j e => (hown5.lt j e).1)
      replace hown9 : w9.ownsRow base 3 1 v' (LL (i + 1)).length ((LL (i + 1)).map (.int .i64)) := by rw [hLn.out]; simpa using hown9
      clear hown hg9 hown5
      go_wp2_with fail
      go_roundg (gk - 1)
      case measure => omega
      case rel => exact ⟨i + 1, by omega, by omega, by go_num, hown9, hb9⟩
  ·obtain rfl : i = F := by omega
   go_wp2_with fail
   refine hk.out _ _ ?_
   go_wp2_with fail
   exact hok _ _ (hB.trans hbr) hown
set_option maxRecDepth 100000 in
theorem behind_any (F R : Nat) (xs : List Int) (bl : Bool) (ca pa ha fu : Int) (s : Value) (pp : Option Addr) (cc : Nat) (hF : 3 ≤ F ∧ F ≤ 8) (hR : 3 ≤ R ∧ R ≤ 8) (hlen : xs.length = F * R) (w : World) (hx : Arr .i8 w pp xs) :
  Calls Tryz.prog 143 #[s, .agg (posCs F R pp xs.length cc bl ca pa ha fu).toArray] w fun e w' => (∃ v, e = .returned v ∧ w'.ownsRow w.heap.size 3 1 v (behL F R xs bl ha).length ((behL F R xs bl ha).map (.int .i64))) ∧ RowKit.Below w.heap.size w w' := by
 have h9 : 9 ≤ F * R := Nat.mul_le_mul hF.1 hR.1
 obtain ⟨g, o, rfl, hgw⟩ := arr_at hx (j := 0) (by omega)
 have hgo0 : g < w.heap.size := block_lt_of_cell hgw
 obtain ⟨W1, hW1⟩ : ∃ W1, W1 = w.alloc (.cells (posCs F R (some ⟨g, o, none⟩) xs.length cc bl ca pa ha fu).toArray 26) := ⟨_, rfl⟩
 have hB : RowKit.Below w.heap.size w W1 := by subst hW1; exact below_box w _
 have hP : HasO W1 w.heap.size (.cells (posCs F R (some ⟨g, o, none⟩) xs.length cc bl ca pa ha fu).toArray 26 (0, 0)) := by subst hW1; exact HasO.new w _
 have hb0 : w.heap.size ≤ W1.heap.size := hB.size
 have l1 := hP.lt
 have hown := own_new W1 W1.heap.size 3 [.int .i64 (-1)] (Nat.le_refl _) (by simp [maxLen])
 have hB2 := below_box W1 (.cells (#[.int .i64 (-1)] : Array Value) 3)
 have hP2 := hP.call hB2
 have hx2 := (hx.call hB).call hB2
 have hgo : g < W1.heap.size := by omega
 have hbe : behL F R xs bl ha = if R < 6 ∨ ha ≠ 0 then [-1] else bhL F (if bl then 2 else R - 3) (if bl then (F : Int) else -F) xs bl F := rfl
 generalize behL F R xs bl ha = BL at *
 replace hlen := Lib.hid hlen
 replace hW1 := Lib.hid hW1
 clear h9 hgw
 go_enter Tryz.func143, Tryz.ntmps143
 go_upto_region 1 with fail
 change Code.wp Tryz.prog _ _ _ (w.alloc (.cells (posCs F R (some ⟨g, o, none⟩) xs.length cc bl ca pa ha fu).toArray 26))
 rw [← hW1.out]
 go_upto_region 2 with fail
 generalize W1.alloc (.cells (#[.int .i64 (-1)] : Array Value) 3) = W2 at *
 have hbs : W1.heap.size ≤ W2.heap.size := hB2.size
 have c0 := hP2.cells
 have l0 := hP2.lt
 by_cases h6 : (R : Int) < 6
 ·rw [if_pos (.inl (by omega))] at hbe
  replace hbe := Lib.hid hbe
  go_wp2_with fail
  go_ret
  refine ⟨⟨_, rfl, ?_⟩, below_call hB hB.size hB2⟩
  rw [hbe.out]
  exact own_mono hown hb0
 ·by_cases h0 : ha = 0
  rotate_left
  ·have z : (ha != 0) = true := by simpa using h0
   rw [if_pos (.inr h0)] at hbe
   replace hbe := Lib.hid hbe
   go_wp2_with fail
   go_ret
   refine ⟨⟨_, rfl, ?_⟩, below_call hB hB.size hB2⟩
   rw [hbe.out]
   exact own_mono hown hb0
  ·have z : (ha != 0) = false := by simpa using h0
   rw [if_neg (by omega)] at hbe
   replace h0 := Lib.hid h0
   go_upto_region 5 with fail
   rename_i k hk k2 hk2
   replace hk := Lib.hid hk
   have c0 : ∀ j, W2.cell? ⟨w.heap.size, j, none⟩ = (posCs F R (some ⟨g, o, none⟩) xs.length cc bl ca pa ha fu).toArray[j]? := hP2.cells
   cases bl
   ·simp only [Bool.false_eq_true, if_false] at hbe
    have hr3 : (R : Int) - 3 = ((R - 3 : Nat) : Int) := by omega
    replace hbe := Lib.hid hbe
    replace hr3 := Lib.hid hr3
    go_upto_region 6 with fail
    have p0 : ∀ d os j, (grow (redrawn W2 d) os).cell? ⟨w.heap.size, j, none⟩ = (posCs F R (some ⟨g, o, none⟩) xs.length cc false ca pa ha fu).toArray[j]? := row_gr hP2
    clear c0 l0
    refine wp_region_all (by kernel_rfl) (by kernel_rfl) ?_
    repeat (go_big_quiet_step (fail))
    refine wpQuiet_nil ?_
    intro W3 hb3
    have hP3 := hP2.call hb3
    have hx3 := hx2.call hb3
    have hown3 := own_call hown hb3
    have hB3 := below_call hB2 hB2.size hb3
    have hbs3 := Nat.le_trans hbs hb3.size
    clear p0
    go_wp2_with fail
    refine hk.out _ _ ?_
    refine behLoop F R (R - 3) (-(F : Int)) xs false ca pa ha fu g o cc w.heap.size W1.heap.size _ _ ?_ _ hF ⟨by omega, by omega⟩ hR.2 hlen.out (.inr rfl) W1 W3 hB3 hbs3 l1 hP3 hx3 hgo hown3 (fun v' w' h1 h2 => ?_) _ ?_
    ·exact ⟨rfl, rfl, rfl, rfl, by rw [← hr3.out]; rfl⟩
    ·refine ⟨⟨v', rfl, ?_⟩, below_call hB hB.size h1⟩
     rw [hbe.out]
     exact own_mono h2 hb0
    ·exact rfl
   ·simp only [if_true] at hbe
    replace hbe := Lib.hid hbe
    go_wp2_with fail
    refine hk.out _ _ ?_
    refine behLoop F R 2 (F : Int) xs true ca pa ha fu g o cc w.heap.size W1.heap.size _ _ ?_ _ hF ⟨by omega, by omega⟩ hR.2 hlen.out (.inl rfl) W1 W2 hB2 hbs l1 hP2 hx2 hgo hown (fun v' w' h1 h2 => ?_) _ ?_
    ·exact ⟨rfl, rfl, rfl, rfl, rfl⟩
    ·refine ⟨⟨v', rfl, ?_⟩, below_call hB hB.size h1⟩
     rw [hbe.out]
     exact own_mono h2 hb0
    ·exact rfl
end Go.Proofs.YtefmplccbkmalaaGreatDoor
namespace Go.Proofs.YtefmplccbkmalaaGreatDoor
open Go.RowKit

theorem sq_split {F R b : Nat} {x y : Int} (hF : 3 ≤ F ∧ F ≤ 8) (hb : b < F * R) : (onB F R x y = true ∧ x + y * F = b) ↔ (x = (b % F : Nat) ∧ y = (b / F : Nat)) := by
 constructor
 ·rintro ⟨h1, h2⟩
  obtain ⟨a1, a2, a3, a4⟩ := onB_fact h1
  obtain ⟨m, rfl⟩ : ∃ m : Nat, x = m := ⟨x.toNat, by omega⟩
  obtain ⟨n, rfl⟩ : ∃ n : Nat, y = n := ⟨y.toNat, by omega⟩
  have h3 : m + n * F = b := by
   have : ((m + n * F : Nat) : Int) = b := by simpa using h2
   omega
  subst h3
  have h4 : (m + n * F) % F = m := by rw [Nat.add_mul_mod_self_right]; exact Nat.mod_eq_of_lt (by omega)
  have h5 : (m + n * F) / F = n := by rw [Nat.add_mul_div_right _ _ (by omega), Nat.div_eq_of_lt (by omega)]; omega
  rw [h4, h5]
  exact ⟨rfl, rfl⟩
 ·rintro ⟨rfl, rfl⟩
  have h1 := Nat.mod_lt b (show 0 < F by omega)
  have h2 : b / F < R := Nat.div_lt_of_lt_mul hb
  have h3 := Nat.mod_add_div b F
  refine ⟨?_, ?_⟩
  ·have : ∀ x y : Nat, x < F → y < R → onB F R (x : Int) (y : Int) = true := by intro x y h1 h2; unfold onB; simp; omega
   exact this _ _ h1 h2
  ·rw [Nat.mul_comm] at h3
   rw [← Int.natCast_mul, ← Int.natCast_add, h3]
theorem split_d {F R a b : Nat} {dx dy : Int} (hF : 3 ≤ F ∧ F ≤ 8) (hb : b < F * R) : (onB F R (((a % F : Nat) : Int) + dx) (((a / F : Nat) : Int) + dy) = true ∧ (((a % F : Nat) : Int) + dx) + (((a / F : Nat) : Int) + dy) * F = b) ↔ (dF F a b = dx ∧ dR F a b = dy) := by
 rw [sq_split hF hb]
 unfold dF dR
 generalize ((a % F : Nat) : Int) = f, ((a / F : Nat) : Int) = r, ((b % F : Nat) : Int) = f', ((b / F : Nat) : Int) = r'
 omega
theorem leapW_bit {F R a b : Nat} (st : List (Int × Int)) (hF : 3 ≤ F ∧ F ≤ 8) (hb : b < F * R) : ∀ n, (leapW F R a st n).testBit b = true ↔ ∃ j, j < n ∧ dF F a b = (st[j]?.getD (0, 0)).1 ∧ dR F a b = (st[j]?.getD (0, 0)).2 := by
 intro n
 induction n with
 | zero => simp [leapW]
 | succ n ih =>
  have key := split_d (a := a) (dx := (st[n]?.getD (0, 0)).1) (dy := (st[n]?.getD (0, 0)).2) hF hb
  have hs : (∃ j, j < n + 1 ∧ dF F a b = (st[j]?.getD (0, 0)).1 ∧ dR F a b = (st[j]?.getD (0, 0)).2) ↔ ((∃ j, j < n ∧ dF F a b = (st[j]?.getD (0, 0)).1 ∧ dR F a b = (st[j]?.getD (0, 0)).2) ∨ (dF F a b = (st[n]?.getD (0, 0)).1 ∧ dR F a b = (st[n]?.getD (0, 0)).2)) := by
   constructor
   ·rintro ⟨j, hj, h⟩
    rcases (by omega : j < n ∨ j = n) with h1 | rfl
    ·exact .inl ⟨j, h1, h⟩
    ·exact .inr h
   ·rintro (⟨j, hj, h⟩ | h)
    ·exact ⟨j, by omega, h⟩
    ·exact ⟨n, by omega, h⟩
  rw [hs, ← ih, ← key]
  simp only [leapW]
  split
  ·rename_i h
   obtain ⟨m, hm, hl⟩ := at_lt h
   rw [hm, Int.toNat_natCast, Nat.testBit_or, Nat.testBit_two_pow, Bool.or_eq_true, decide_eq_true_eq]
   constructor
   ·rintro (h1 | h1)
    ·exact .inl h1
    ·exact .inr ⟨h, by rw [h1]⟩
   ·rintro (h1 | h1)
    ·exact .inl h1
    ·exact .inr (by have := h1.2; omega)
  ·rename_i h
   exact ⟨fun h1 => .inl h1, fun h1 => h1.elim id (fun h2 => absurd h2.1 h)⟩
theorem leapW_any {F R a b : Nat} (st : List (Int × Int)) (hF : 3 ≤ F ∧ F ≤ 8) (hb : b < F * R) : (leapW F R a st st.length).testBit b = st.any (fun s => dF F a b == s.1 && dR F a b == s.2) := by
 rw [Bool.eq_iff_iff, leapW_bit st hF hb, List.any_eq_true]
 constructor
 ·rintro ⟨j, hj, h1, h2⟩
  rw [List.getElem?_eq_getElem hj, Option.getD_some] at h1 h2
  exact ⟨st[j], List.getElem_mem hj, by simp [← h1, ← h2]⟩
 ·rintro ⟨s, hs, h⟩
  obtain ⟨j, hj, rfl⟩ := List.getElem_of_mem hs
  refine ⟨j, hj, ?_⟩
  rw [List.getElem?_eq_getElem hj, Option.getD_some]
  simpa using h
theorem dF_small {F a b : Nat} (hF : 3 ≤ F ∧ F ≤ 8) : -8 < dF F a b ∧ dF F a b < 8 := by
 have h1 := Nat.mod_lt a (show 0 < F by omega)
 have h2 := Nat.mod_lt b (show 0 < F by omega)
 unfold dF
 generalize a % F = x, b % F = y at *
 omega
theorem dR_small {F R a b : Nat} (hR : 3 ≤ R ∧ R ≤ 8) (ha : a < F * R) (hb : b < F * R) : -8 < dR F a b ∧ dR F a b < 8 := by
 have h1 : a / F < R := Nat.div_lt_of_lt_mul ha
 have h2 : b / F < R := Nat.div_lt_of_lt_mul hb
 unfold dR
 generalize a / F = x, b / F = y at *
 omega
theorem fin15 {p : Int → Int → Prop} (h : ∀ i, i < 15 → ∀ j, j < 15 → p ((i : Nat) - 7 : Int) ((j : Nat) - 7 : Int)) (x y : Int) (hx : -8 < x ∧ x < 8) (hy : -8 < y ∧ y < 8) : p x y := by
 have := h (x + 7).toNat (by omega) (y + 7).toNat (by omega)
 rw [show (((x + 7).toNat : Nat) : Int) - 7 = x by omega, show (((y + 7).toNat : Nat) : Int) - 7 = y by omega] at this
 exact this
theorem knight_fin (x y : Int) (hx : -8 < x ∧ x < 8) (hy : -8 < y ∧ y < 8) : leapsL.any (fun s => x == s.1 && y == s.2) = (x * x + y * y == 5) :=
 fin15 (p := fun x y => leapsL.any (fun s => x == s.1 && y == s.2) = (x * x + y * y == 5)) (by decide +kernel) x y hx hy
theorem king_fin (x y : Int) (hx : -8 < x ∧ x < 8) (hy : -8 < y ∧ y < 8) : (diagL.any (fun s => x == s.1 && y == s.2) || strL.any (fun s => x == s.1 && y == s.2)) = (max (kindI x) (kindI y) == 1) :=
 fin15 (p := fun x y => (diagL.any (fun s => x == s.1 && y == s.2) || strL.any (fun s => x == s.1 && y == s.2)) = (max (kindI x) (kindI y) == 1)) (by decide +kernel) x y hx hy
theorem pawn_fin (bl : Bool) (x y : Int) (hx : -8 < x ∧ x < 8) (hy : -8 < y ∧ y < 8) : (pwnL bl).any (fun s => x == s.1 && y == s.2) = ((y == sdI bl) && ((x == 1) || (-x == 1))) := by
 cases bl
 ·exact fin15 (p := fun x y => (pwnL false).any (fun s => x == s.1 && y == s.2) = ((y == sdI false) && ((x == 1) || (-x == 1)))) (by decide +kernel) x y hx hy
 ·exact fin15 (p := fun x y => (pwnL true).any (fun s => x == s.1 && y == s.2) = ((y == sdI true) && ((x == 1) || (-x == 1)))) (by decide +kernel) x y hx hy
theorem pawnL_mem {F : Nat} {bl : Bool} {a b : Nat} : ∀ n, b < n → elI (pawnL F bl a n) b = pawnHit F bl a b := by
 have hout : ∀ n, n ≤ b → elI (pawnL F bl a n) b = false := by
  intro n
  induction n with
  | zero => intro _; rfl
  | succ n ih =>
   intro h
   have ih := ih (by omega)
   simp only [pawnL]
   split
   ·unfold elI at ih ⊢
    rw [List.any_append, ih]
    simp; omega
   ·exact ih
 intro n
 induction n with
 | zero => intro h; omega
 | succ n ih =>
  intro h
  simp only [pawnL]
  rcases (by omega : b < n ∨ b = n) with h1 | rfl
  ·have ih := ih h1
   split
   ·unfold elI at ih ⊢
    rw [List.any_append, ih]
    have : ((n : Int) == (b : Int)) = false := by simp; omega
    simp [this]
   ·exact ih
  ·have h2 := hout b (Nat.le_refl _)
   split
   ·rename_i h3
    unfold elI at h2 ⊢
    rw [List.any_append, h2, h3]; simp
   ·rename_i h3
    rw [h2]; simp at h3; rw [h3]
theorem slideR_bit {oc b : Nat} : ∀ (L : List Int) (S : Nat), (∀ x ∈ L, 0 ≤ x) → ((slideR oc L S).testBit b = true ↔ (S.testBit b = true ∨ ∃ i, i < L.length ∧ L[i]?.getD 0 = b ∧ ∀ j, j < i → oc.testBit (L[j]?.getD 0).toNat = false)) := by
 intro L
 induction L with
 | nil => intro S _; simp [slideR]
 | cons x r ih =>
  intro S hL
  have hx := hL x (by simp)
  obtain ⟨n, rfl⟩ : ∃ n : Nat, x = n := ⟨x.toNat, by omega⟩
  have h1 : (S ||| 2 ^ n).testBit b = true ↔ (S.testBit b = true ∨ n = b) := by
   rw [Nat.testBit_or, Nat.testBit_two_pow, Bool.or_eq_true, decide_eq_true_eq]
  simp only [slideR, Int.toNat_natCast]
  split
  ·rename_i ho
   rw [h1]
   constructor
   ·rintro (h | h)
    ·exact .inl h
    ·exact .inr ⟨0, by simp, by simp [h], fun j hj => by omega⟩
   ·rintro (h | ⟨i, hi, h2, h3⟩)
    ·exact .inl h
    ·cases i with
     | zero => right; simp at h2; omega
     | succ i => have := h3 0 (by omega); simp [ho] at this
  ·rename_i ho
   rw [ih _ (fun y hy => hL y (by simp [hy])), h1]
   constructor
   ·rintro ((h | h) | ⟨i, hi, h2, h3⟩)
    ·exact .inl h
    ·exact .inr ⟨0, by simp, by simp [h], fun j hj => by omega⟩
    ·refine .inr ⟨i + 1, by simp; omega, by simpa using h2, fun j hj => ?_⟩
     cases j with
     | zero => simpa using ho
     | succ j => simpa using h3 j (by omega)
   ·rintro (h | ⟨i, hi, h2, h3⟩)
    ·exact .inl (.inl h)
    ·cases i with
     | zero => left; right; simp at h2; omega
     | succ i => exact .inr ⟨i, by simp at hi; omega, by simpa using h2, fun j hj => by simpa using h3 (j + 1) (by omega)⟩
theorem ray_free {oc b : Nat} (L : List Int) (hL : ∀ x ∈ L, 0 ≤ x ∧ x < 64) : (∃ i, i < L.length ∧ L[i]?.getD 0 = (b : Int) ∧ ∀ j, j < i → oc.testBit (L[j]?.getD 0).toNat = false) ↔ (elI L b = true ∧ freeL (btwL L b) oc = true) := by
 have hfree : ∀ i, i ≤ L.length → (freeL (L.take i) oc = true ↔ ∀ j, j < i → oc.testBit (L[j]?.getD 0).toNat = false) := by
  intro i hi
  unfold freeL
  rw [List.all_eq_true]
  constructor
  ·intro h j hj
   have hjl : j < L.length := by omega
   have h1 := hL L[j] (List.getElem_mem hjl)
   have := h L[j] (by rw [List.mem_take_iff_getElem]; exact ⟨j, by omega, rfl⟩)
   rw [List.getElem?_eq_getElem hjl, Option.getD_some]
   unfold hasS at this
   simpa [h1.1, h1.2] using this
  ·intro h x hx
   rw [List.mem_take_iff_getElem] at hx
   obtain ⟨j, hj, rfl⟩ := hx
   have hjl : j < L.length := by omega
   have := h j (by omega)
   rw [List.getElem?_eq_getElem hjl, Option.getD_some] at this
   unfold hasS
   simp [this]
 constructor
 ·rintro ⟨i, hi, h1, h2⟩
  rw [List.getElem?_eq_getElem hi, Option.getD_some] at h1
  have hel : elI L b = true := by unfold elI; rw [List.any_eq_true]; exact ⟨L[i], List.getElem_mem hi, by simp [h1]⟩
  refine ⟨hel, ?_⟩
  -- the first place
  have hex : ∃ m, m ≤ i ∧ (∃ hm : m < L.length, L[m] = (b : Int)) ∧ elI (L.take m) b = false := by
   clear h2
   induction i using Nat.strongRecOn with
   | _ i ih =>
    by_cases hf : elI (L.take i) b = false
    ·exact ⟨i, Nat.le_refl _, ⟨hi, h1⟩, hf⟩
    ·simp only [Bool.not_eq_false] at hf
     unfold elI at hf
     rw [List.any_eq_true] at hf
     obtain ⟨x, hx, hxb⟩ := hf
     rw [List.mem_take_iff_getElem] at hx
     obtain ⟨j, hj, rfl⟩ := hx
     obtain ⟨m, hm, h3⟩ := ih j (by omega) (by omega) (by simpa using hxb)
     exact ⟨m, by omega, h3⟩
  obtain ⟨m, hmi, ⟨hm, h3⟩, h4⟩ := hex
  rw [btwL_at h4 hm h3, hfree m (by omega)]
  exact fun j hj => h2 j (by omega)
 ·rintro ⟨h1, h2⟩
  have hex : ∃ m, (∃ hm : m < L.length, L[m] = (b : Int)) ∧ elI (L.take m) b = false := by
   unfold elI at h1
   rw [List.any_eq_true] at h1
   obtain ⟨x, hx, hxb⟩ := h1
   obtain ⟨i, hi, rfl⟩ := List.getElem_of_mem hx
   have hxb : L[i] = (b : Int) := by simpa using hxb
   clear hx
   induction i using Nat.strongRecOn with
   | _ i ih =>
    by_cases hf : elI (L.take i) b = false
    ·exact ⟨i, ⟨hi, hxb⟩, hf⟩
    ·simp only [Bool.not_eq_false] at hf
     unfold elI at hf
     rw [List.any_eq_true] at hf
     obtain ⟨x, hx, hxb2⟩ := hf
     rw [List.mem_take_iff_getElem] at hx
     obtain ⟨j, hj, rfl⟩ := hx
     exact ih j (by omega) (by omega) (by simpa using hxb2) (by simpa using hxb2)
  obtain ⟨m, ⟨hm, h3⟩, h4⟩ := hex
  rw [btwL_at h4 hm h3, hfree m (by omega)] at h2
  exact ⟨m, hm, by rw [List.getElem?_eq_getElem hm]; exact h3, h2⟩
theorem ray_at {F R a b : Nat} {dx dy : Int} {i : Nat} (hF : 3 ≤ F ∧ F ≤ 8) (hb : b < F * R) (hi : i < (rayL F R a dx dy 8 1).length) (h : (rayL F R a dx dy 8 1)[i]?.getD 0 = b) : dF F a b = ((i : Int) + 1) * dx ∧ dR F a b = ((i : Int) + 1) * dy := by
 obtain ⟨h1, h2⟩ := rayL_get (F := F) (R := R) (a := a) (dx := dx) (dy := dy) 8 1 i hi
 rw [h] at h1
 unfold rayN at h1 h2
 have hno := numI_on (F := F) (R := R) (a := ((a % F : Nat) : Int) + ((1 + i : Nat) : Int) * dx) (b := ((a / F : Nat) : Int) + ((1 + i : Nat) : Int) * dy)
 rcases hv : onB F R (((a % F : Nat) : Int) + ((1 + i : Nat) : Int) * dx) (((a / F : Nat) : Int) + ((1 + i : Nat) : Int) * dy) with _ | _
 ·have := hno.1.2 hv; omega
 ·have h3 := hno.2 hv
  rw [← h1] at h3
  have := (split_d hF hb).1 ⟨hv, h3.symm⟩
  rw [show ((1 + i : Nat) : Int) = (i : Int) + 1 by omega] at this
  exact this
theorem ray_to {F R a b n : Nat} {dx dy : Int} (hF : 3 ≤ F ∧ F ≤ 8) (hb : b < F * R) (hn : 1 ≤ n ∧ n ≤ 7) (hx : dF F a b = (n : Int) * dx) (hy : dR F a b = (n : Int) * dy) (hon : ∀ k : Nat, 1 ≤ k → k ≤ n → onB F R (((a % F : Nat) : Int) + (k : Int) * dx) (((a / F : Nat) : Int) + (k : Int) * dy) = true) :
  n - 1 < (rayL F R a dx dy 8 1).length ∧ (rayL F R a dx dy 8 1)[n - 1]?.getD 0 = b := by
 have hl : n ≤ (rayL F R a dx dy 8 1).length := by
  rcases Nat.lt_or_ge (rayL F R a dx dy 8 1).length n with h | h
  ·have h1 := rayL_end (F := F) (R := R) (a := a) (dx := dx) (dy := dy) 8 1 (by omega)
   unfold rayN at h1
   have h2 := hon (1 + (rayL F R a dx dy 8 1).length) (by omega) (by omega)
   have h3 := numI_on.1.1 h1
   rw [h2] at h3; cases h3
  ·exact h
 refine ⟨by omega, ?_⟩
 rw [(rayL_get (F := F) (R := R) (a := a) (dx := dx) (dy := dy) 8 1 (n - 1) (by omega)).1]
 unfold rayN
 rw [show 1 + (n - 1) = n by omega, numI_on.2 (hon n hn.1 (Nat.le_refl _))]
 exact ((split_d hF hb).2 ⟨hx, hy⟩).2
theorem on_between {F R : Nat} {f r dx dy : Int} {n k : Nat} (h0 : 0 ≤ f ∧ f < F ∧ 0 ≤ r ∧ r < R) (h1 : onB F R (f + (n : Int) * dx) (r + (n : Int) * dy) = true) (hk : k ≤ n) (hdx : dx = -1 ∨ dx = 0 ∨ dx = 1) (hdy : dy = -1 ∨ dy = 0 ∨ dy = 1) : onB F R (f + (k : Int) * dx) (r + (k : Int) * dy) = true := by
 obtain ⟨a1, a2, a3, a4⟩ := onB_fact h1
 unfold onB
 rcases hdx with rfl | rfl | rfl <;> rcases hdy with rfl | rfl | rfl <;> simp at a1 a2 a3 a4 ⊢ <;> omega
theorem ray_line {F R a b : Nat} {dx dy : Int} (hF : 3 ≤ F ∧ F ≤ 8) (hR : 3 ≤ R ∧ R ≤ 8) (ha : a < F * R) (hb : b < F * R) (hdx : dx = -1 ∨ dx = 0 ∨ dx = 1) (hdy : dy = -1 ∨ dy = 0 ∨ dy = 1) (hn : ¬ (dx = 0 ∧ dy = 0)) :
  elI (rayL F R a dx dy 8 1) b = (lineB a b (dF F a b) (dR F a b) && ((sgnI (dF F a b) == dx) && (sgnI (dR F a b) == dy))) := by
 rw [Bool.eq_iff_iff]
 have hxs := dF_small (F := F) (a := a) (b := b) hF
 have hys := dR_small hR ha hb
 constructor
 ·intro h
  unfold elI at h
  rw [List.any_eq_true] at h
  obtain ⟨x, hx, hxb⟩ := h
  obtain ⟨i, hi, rfl⟩ := List.getElem_of_mem hx
  obtain ⟨h1, h2⟩ := ray_at (b := b) hF hb hi (by rw [List.getElem?_eq_getElem hi, Option.getD_some]; simpa using hxb)
  have hab : a ≠ b := by
   rintro rfl
   have e1 : dF F a a = 0 := by unfold dF; omega
   have e2 : dR F a a = 0 := by unfold dR; omega
   rw [e1] at h1
   rw [e2] at h2
   rcases hdx with rfl | rfl | rfl <;> rcases hdy with rfl | rfl | rfl <;> simp at h1 h2 hn <;> omega
  generalize dF F a b = df at *
  generalize dR F a b = dr at *
  unfold lineB sgnI
  rcases hdx with rfl | rfl | rfl <;> rcases hdy with rfl | rfl | rfl <;> simp at h1 h2 hn ⊢ <;> refine ⟨⟨hab, by omega⟩, ?_⟩ <;> (subst h1 h2) <;> omega
 ·intro h
  simp only [Bool.and_eq_true, beq_iff_eq] at h
  obtain ⟨h1, h2, h3⟩ := h
  obtain ⟨n, hn1, hx, hy⟩ : ∃ n : Nat, (1 ≤ n ∧ n ≤ 7) ∧ dF F a b = (n : Int) * dx ∧ dR F a b = (n : Int) * dy := by
   generalize dF F a b = df at *
   generalize dR F a b = dr at *
   refine ⟨max df.natAbs dr.natAbs, ?_, ?_, ?_⟩
   all_goals
    unfold lineB at h1
    unfold sgnI at h2 h3
    simp at h1
    rcases hdx with rfl | rfl | rfl <;> rcases hdy with rfl | rfl | rfl <;> simp at hn <;> split at h2 <;> split at h3 <;> (try split at h2) <;> (try split at h3) <;> first | omega | (exfalso; omega)
  have hon := ((split_d (a := a) (R := R) hF hb).2 ⟨hx, hy⟩).1
  have hfa := (sq_bd hF hR ha)
  obtain ⟨h4, h5⟩ := ray_to hF hb hn1 hx hy (fun k _ hk => on_between ⟨Int.natCast_nonneg _, by omega, Int.natCast_nonneg _, by omega⟩ hon hk hdx hdy)
  unfold elI
  rw [List.any_eq_true]
  rw [List.getElem?_eq_getElem h4, Option.getD_some] at h5
  exact ⟨_, List.getElem_mem h4, by simp [h5]⟩
end Go.Proofs.YtefmplccbkmalaaGreatDoor
