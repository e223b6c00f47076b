import Derived.Test.YtddkhnnpeonbgaaGreatDoorH02
import Derived.Test.YtddkhnnpeonbgaaGreatDoorH05
import Derived.Shelf.Abstract
import Derived.Shelf.RegionOpen
namespace Go.Proofs.YtddkhnnpeonbgaaGreatDoor
open Go.RowKit

theorem choose_val {n k j : Nat} (hn : n ≤ 64) (hk : k ≤ 4) (hkn : ¬ n < k) (hj : j < k) : wrap64 ((wrap64 ((ch (n - k + j) j : Int) * ((n : Int) - k + (j + 1)))).tdiv (j + 1)) = (ch (n - k + (j + 1)) (j + 1) : Int) := by
 have hc := choose_step hn hk (by omega) hj
 have hb := choose_bd hn hk (by omega) hj
 have hl := ch_le (n := n - k + (j + 1)) (k := j + 1) (by omega) (by omega)
 have e1 : ((ch (n - k + j) j : Int) * ((n : Int) - k + (j + 1))) = ((ch (n - k + j) j * (n - k + (j + 1)) : Nat) : Int) := by
  rw [show (n : Int) - k + (j + 1) = ((n - k + (j + 1) : Nat) : Int) by omega, ← Int.natCast_mul]
 have e2 : wrap64 ((ch (n - k + j) j * (n - k + (j + 1)) : Nat) : Int) = ((ch (n - k + j) j * (n - k + (j + 1)) : Nat) : Int) := IntWalk.wrap64_in _ (by omega)
 rw [e1, e2, show (j : Int) + 1 = ((j + 1 : Nat) : Int) by omega, ← Int.ofNat_tdiv, hc]
 exact IntWalk.wrap64_in _ (by omega)

theorem choose_any (n k : Nat) (hn : n ≤ 64) (hk : k ≤ 4) (w : World) : Calls Tryz.prog 46 #[.int .i64 n, .int .i64 k] w fun e w' => e = .returned (.int .i64 (ch n k)) ∧ w = w' := by
 by_cases hkn : n < k
 ·have hz := Lib.hid (ch_zero hk hkn)
  go_enter Tryz.func46, Tryz.ntmps46
  go_wp2_with fail
  go_ret
  exact ⟨by rw [hz.out]; rfl, rfl⟩
 ·go_enter Tryz.func46, Tryz.ntmps46
  go_wp2_with fail
  go_loopg [5, 6] k (fun q o i wr => ∃ j : Nat, q + j = k ∧ o = .int .i64 (ch (n - k + j) j) ∧ i = .int .i64 ((j : Int) + 1) ∧ wr = w)
  case atStart => exact ⟨0, by omega, rfl, rfl, rfl⟩
  case round =>
   obtain ⟨j, hg, rfl, rfl, rfl⟩ := hrel
   by_cases hj : j < k
   ·have h1 : (j : Int) + 1 ≤ k := by omega
    have hv := Lib.hid (choose_val hn hk hkn hj)
    go_wp2_with fail
    go_roundg (gk - 1)
    case measure => omega
    case rel => exact ⟨j + 1, by omega, by rw [hv.out], by go_num, rfl⟩
   ·obtain rfl : j = k := by omega
    have h1 : (j : Int) + 1 > j := by omega
    go_wp2_with fail
    go_ret
    exact ⟨by rw [show n - j + j = n by omega]; rfl, rfl⟩

theorem group_any (m : Men) (j : Nat) (hj : j < 10) (w : World) : Calls Tryz.prog 47 #[.agg m.cs.toArray, .int .i64 j] w fun e w' => e = .returned (.int .i64 (m.grp j)) ∧ Below w.heap.size w w' := by
 by_cases h : j < 5
 ·have hc := men_cell_w m w 0 h
  have hc : (w.alloc (.cells m.cs.toArray 41)).cell? ⟨w.heap.size, 2 + j, none⟩ = some (.int .i64 (m.sw j)) := by
   rw [World.cell?_alloc_at _ _ _ _ rfl]; have := m.cs_w h; simpa using this
  have he : m.grp j = m.sw j := by simp [Men.grp, h]
  replace he := Lib.hid he
  have h1 : (j : Int) < 5 := by omega
  go_enter Tryz.func47, Tryz.ntmps47
  go_wp2_with fail
  go_ret
  exact ⟨by rw [he.out]; rfl, below_box _ _⟩
 ·have hc : (w.alloc (.cells m.cs.toArray 41)).cell? ⟨w.heap.size, 7 + (j - 5), none⟩ = some (.int .i64 (m.sb (j - 5))) := by
   rw [World.cell?_alloc_at _ _ _ _ rfl]; have := m.cs_b (k := j - 5) (by omega); simpa using this
  have he : m.grp j = m.sb (j - 5) := by simp [Men.grp, h]
  replace he := Lib.hid he
  have h1 : ¬ (j : Int) < 5 := by omega
  have h2 : (j : Int) - 5 < 5 := by omega
  go_enter Tryz.func47, Tryz.ntmps47
  go_wp2_with fail
  go_ret
  exact ⟨by rw [he.out]; rfl, below_box _ _⟩

theorem refCount_any (m : Men) (w : World) (hm : Hid (validB m = true)) : Calls Tryz.prog 25 #[.agg m.cs.toArray] w fun e w' => e = .returned (.int .i64 (countN m)) ∧ Below w.heap.size w w' := by
 obtain ⟨hsq, hq1, hq2⟩ := validB_sq hm.out
 have hM0 : HasO (w.alloc (.cells m.cs.toArray 41)) w.heap.size (.cells m.cs.toArray 41 (0, 0)) := HasO.new _ _
 have e1 : wrap64 (m.f * m.r) = (m.sq : Int) := by rw [hsq]; exact IntWalk.wrap64_in _ (by omega)
 have e2 : wrap64 (2 * (m.sq : Int) * (m.sq : Int)) = (m.prod 0 : Int) := by
  have := prod_bd hm.out (k := 0) (by omega)
  rw [show (2 * (m.sq : Int) * (m.sq : Int)) = (m.prod 0 : Int) from by simp [Men.prod]]
  exact IntWalk.wrap64_in _ (by omega)
 replace hsq := Lib.hid hsq
 go_enter Tryz.func25, Tryz.ntmps25
 go_wp2_with fail
 rw [e1, e2]
 clear e1 e2
 have hb0 := below_box w (.cells m.cs.toArray 41)
 go_loopg [4, 5] 10 (fun q n i wr => ∃ k, q + k = 10 ∧ n = .int .i64 (m.prod k) ∧ i = .int .i64 k ∧ Below w.heap.size w wr ∧ HasO wr w.heap.size (.cells m.cs.toArray 41 (0, 0)))
 case atStart => exact ⟨0, rfl, rfl, rfl, hb0, hM0⟩
 case round =>
  clear hM0 hb0
  obtain ⟨k, hg, rfl, rfl, hb, hM⟩ := hrel
  by_cases hk : k < 10
  ·have hkk : (k : Int) < 10 := by omega
   have hc := hM.cells
   have hgb := grp_bd (validB_ok hm.out) hk
   have hp := prod_bd hm.out (k := k) (by omega)
   have hp1 := prod_bd hm.out (k := k + 1) (by omega)
   have e3 : wrap64 ((m.prod k : Int) * (ch m.sq (m.grp k).toNat : Int)) = (m.prod (k + 1) : Int) := by
    rw [show ((m.prod k : Int) * (ch m.sq (m.grp k).toNat : Int)) = (m.prod (k + 1) : Int) from by simp [Men.prod]]
    exact IntWalk.wrap64_in _ (by omega)
   have e4 : m.grp k = ((m.grp k).toNat : Int) := by omega
   replace e3 := Lib.hid e3
   replace e4 := Lib.hid e4
   go_wp2_with fail
   refine (group_any m k hk _).mono ?_
   rintro e w1 ⟨rfl, hb1⟩
   go_wp2_with fail
   rw [e4.out]
   refine (choose_any m.sq _ hq2 (by omega) _).mono ?_
   rintro e w2 ⟨rfl, rfl⟩
   go_wp2_with fail
   rw [e3.out]
   go_roundg (gk - 1)
   case measure => omega
   case rel => exact ⟨k + 1, by omega, rfl, by go_num, below_call hb hb.size hb1, hM.call hb1⟩
  ·obtain rfl : k = 10 := by omega
   go_wp2_with fail
   go_ret
   exact ⟨rfl, hb⟩

theorem hasO_w {w : World} {B : Nat} {m : Men} (h : HasO w B (.cells m.cs.toArray 41 (0, 0))) {k : Nat} (hk : k < 5) : w.cell? ⟨B, 2 + k, none⟩ = some (.int .i64 (m.sw k)) := by
 rw [h.cells]; have := m.cs_w hk; simpa using this
theorem hasO_b {w : World} {B : Nat} {m : Men} (h : HasO w B (.cells m.cs.toArray 41 (0, 0))) {k : Nat} (hk : k < 5) : w.cell? ⟨B, 7 + k, none⟩ = some (.int .i64 (m.sb k)) := by
 rw [h.cells]; have := m.cs_b hk; simpa using this

theorem pieces_any (m : Men) (w : World) (hm : menOk m = true) : Calls Tryz.prog 44 #[.agg m.cs.toArray] w fun e w' => e = .returned (.int .i64 (m.upto 5)) ∧ Below w.heap.size w w' := by
 have hM0 : HasO (w.alloc (.cells m.cs.toArray 41)) w.heap.size (.cells m.cs.toArray 41 (0, 0)) := HasO.new _ _
 have hb0 := below_box w (.cells m.cs.toArray 41)
 replace hm := Lib.hid hm
 go_enter Tryz.func44, Tryz.ntmps44
 go_wp2_with fail
 go_loopg [3, 4] 5 (fun q n i wr => ∃ k, q + k = 5 ∧ n = .int .i64 (m.upto k) ∧ i = .int .i64 k ∧ Below w.heap.size w wr ∧ HasO wr w.heap.size (.cells m.cs.toArray 41 (0, 0)))
 case atStart => exact ⟨0, rfl, rfl, rfl, hb0, hM0⟩
 case round =>
  clear hM0 hb0
  obtain ⟨k, hg, rfl, rfl, hb, hM⟩ := hrel
  by_cases hk : k < 5
  ·have hkk : (k : Int) < 5 := by omega
   have hc1 := hasO_w hM hk
   have hc2 := hasO_b hM hk
   have h1 := upto_bd hm.out (k := k) (by omega)
   have h2 := menOk_at hm.out hk
   have e1 : m.upto k + m.sw k + m.sb k = m.upto (k + 1) := by simp only [Men.upto]; omega
   replace e1 := Lib.hid e1
   go_wp2_with fail
   go_quiet (fail)
   go_wp2_with fail
   rw [e1.out]
   go_roundg (gk - 1)
   case measure => omega
   case rel => exact ⟨k + 1, by omega, rfl, by go_num, below_drewN hb _, hM.drewN _⟩
  ·obtain rfl : k = 5 := by omega
   go_wp2_with fail
   go_ret
   exact ⟨rfl, hb⟩

theorem refValid_any (m : Men) (w : World) : Calls Tryz.prog 18 #[.agg m.cs.toArray] w fun e w' => e = .returned (.bool (validB m)) ∧ Below w.heap.size w w' := by
 have hM0 : HasO (w.alloc (.cells m.cs.toArray 41)) w.heap.size (.cells m.cs.toArray 41 (0, 0)) := HasO.new _ _
 have hb0 := below_box w (.cells m.cs.toArray 41)
 go_enter Tryz.func18, Tryz.ntmps18
 rcases hs : sizeB m.f m.r with _ | _
 ·go_wp2_with fail
  refine (size_any _ _ _).mono ?_
  rintro e w1 ⟨rfl, hb1⟩
  have hb := below_call hb0 hb0.size hb1
  clear hb1 hb0 hM0
  go_wp2_with fail
  go_ret
  exact ⟨ret_bool (by simp [validB, hs]), hb⟩
 ·go_wp2_with fail
  refine (size_any _ _ _).mono ?_
  rintro e w1 ⟨rfl, hb1⟩
  have hb1' := below_call hb0 hb0.size hb1
  have hM1 := hM0.call hb1
  clear hb1 hb0 hM0
  go_wp2_with fail
  replace hs := Lib.hid hs
  go_loopg [3] 5 (fun q i wr => ∃ k, q + k = 5 ∧ i = .int .i64 k ∧ Below w.heap.size w wr ∧ HasO wr w.heap.size (.cells m.cs.toArray 41 (0, 0)) ∧ Hid (∀ j, j < k → m.okAt j = true))
  case atStart => exact ⟨0, rfl, rfl, hb1', hM1, Lib.hid (fun j h => by omega)⟩
  case round =>
   clear hM1 hb1'
   obtain ⟨k, hg, rfl, hb, hM, hok⟩ := hrel
   by_cases hk : k < 5
   ·have hkk : (k : Int) < 5 := by omega
    have hc1 := hasO_w hM hk
    have hc2 := hasO_b hM hk
    rcases hbk : m.okAt k with _ | _
    ·have hb2 := Lib.hid (validB_bad hk hbk)
     replace hbk := Lib.hid hbk
     by_cases h1 : m.sw k < 0
     ·go_wp2_with fail
      go_ret
      exact ⟨ret_bool hb2.out.symm, hb⟩
     by_cases h2 : 4 < m.sw k
     ·go_wp2_with fail
      go_ret
      exact ⟨ret_bool hb2.out.symm, hb⟩
     by_cases h3 : m.sb k < 0
     ·go_wp2_with fail
      go_ret
      exact ⟨ret_bool hb2.out.symm, hb⟩
     by_cases h4 : 4 < m.sb k
     ·go_wp2_with fail
      go_ret
      exact ⟨ret_bool hb2.out.symm, hb⟩
     exfalso
     have := hbk.out
     simp [Men.okAt] at this
     omega
    ·have h2 := okAt_bounds hbk
     replace hbk := Lib.hid hbk
     go_wp2_with fail
     go_roundg (gk - 1)
     case measure => omega
     case rel => exact ⟨k + 1, by omega, by go_num, hb, hM, Lib.hid (fun j hj => by
      by_cases hjk : j < k
      ·exact hok.out j hjk
      ·obtain rfl : j = k := by omega
       exact hbk.out)⟩
   ·obtain rfl : k = 5 := by omega
    have hm : menOk m = true := (menOk_iff m).2 (fun j hj => hok.out j hj)
    replace hm := Lib.hid hm
    have hc := hM.cells
    have hu := upto_bd hm.out (k := 5) (by omega)
    go_wp2_with fail
    refine (pieces_any m _ hm.out).mono ?_
    rintro e w2 ⟨rfl, hb2⟩
    have hb := below_call hb hb.size hb2
    have hc := (hM.call hb2).cells
    clear hb2 hM
    by_cases h4 : m.upto 5 ≤ 4
    ·by_cases h5 : m.w0 = 0
     ·have h5' : (m.w0 == 0) = true := by simp [h5]
      replace h5 := Lib.hid h5
      go_wp2_with fail
      go_ret
      exact ⟨ret_bool (by simp [validB, hs.out, hm.out, h4, pawnB, h5.out]), hb⟩
     ·have h5' : (m.w0 == 0) = false := by simp [h5]
      by_cases h6 : m.b0 = 0
      ·have h6' : (m.b0 == 0) = true := by simp [h6]
       replace h6 := Lib.hid h6
       go_wp2_with fail
       go_ret
       exact ⟨ret_bool (by simp [validB, hs.out, hm.out, h4, pawnB, h5, h6.out]), hb⟩
      ·have h6' : (m.b0 == 0) = false := by simp [h6]
       go_wp2_with fail
       go_ret
       exact ⟨ret_bool (by simp [validB, hs.out, hm.out, h4, pawnB, h5, h6]), hb⟩
    ·go_wp2_with fail
     go_ret
     exact ⟨ret_bool (by have h4' : decide (m.upto 5 ≤ 4) = false := decide_eq_false (by omega); simp [validB, h4']), hb⟩
end Go.Proofs.YtddkhnnpeonbgaaGreatDoor
namespace Go.Proofs.YtddkhnnpeonbgaaGreatDoor
open Go.RowKit

abbrev five5 (g : Nat → Int) : List Value := [.int .i64 (g 0), .int .i64 (g 1), .int .i64 (g 2), .int .i64 (g 3), .int .i64 (g 4)]

theorem side_any2 (g : Nat → Int) (hg : ∀ j, j < 5 → 0 ≤ g j ∧ g j ≤ 4) (w : World) : Calls Tryz.prog 119 #[.agg (five5 g).toArray] w fun e w' => e = .returned (.string (str (sideL g))) ∧ Below w.heap.size w w' := by
 have hb0 := below_box w (.cells (five5 g).toArray 39)
 have hM0 : HasO (w.alloc (.cells (five5 g).toArray 39)) w.heap.size (.cells (five5 g).toArray 39 (0, 0)) := HasO.new _ _
 replace hg := Lib.hid hg
 go_enter Tryz.func119, Tryz.ntmps119
 go_wp2_with fail
 go_loopg [3, 4] 5 (fun q s i wr => ∃ j, q + j = 5 ∧ s = .string (str (sideN g j)) ∧ i = .int .i64 (4 - (j : Int)) ∧ Below w.heap.size w wr ∧ HasO wr w.heap.size (.cells (five5 g).toArray 39 (0, 0)))
 case atStart => exact ⟨0, rfl, rfl, rfl, hb0, hM0⟩
 case round =>
  clear hM0 hb0
  obtain ⟨j, hq, rfl, rfl, hb, hM⟩ := hrel
  obtain ⟨g1, hg1⟩ : ∃ x, x = gk := ⟨_, rfl⟩
  subst hg1
  by_cases hj : j < 5
  ·have hjj : (j : Int) < 5 := by omega
   have hc := hM.cells (4 - j)
   have hv : (five5 g).toArray[4 - j]? = some (.int .i64 (g (4 - j))) := by rcases five hj with rfl | rfl | rfl | rfl | rfl <;> rfl
   rw [hv] at hc
   go_wp2_with fail
   go_loopg [3, 5] 4 (fun q s i wr => ∃ k : Nat, q + k = 4 ∧ s = .string (str (sideN g j ++ List.replicate k (pnL[4 - j]?.getD 0))) ∧ i = .int .i64 (k : Int) ∧ (k : Int) ≤ g (4 - j) ∧ Below w.heap.size w wr ∧ HasO wr w.heap.size (.cells (five5 g).toArray 39 (0, 0)))
   case atStart => exact ⟨0, rfl, by simp, rfl, (hg.out _ (by omega)).1, hb, hM⟩
   case round =>
    clear hb hM hc
    obtain ⟨k, hq2, rfl, rfl, hkg, hb, hM⟩ := hrel
    have hc := hM.cells (4 - j)
    rw [hv] at hc
    have hgb := hg.out (4 - j) (by omega)
    by_cases hk : (k : Int) < g (4 - j)
    ·have hl : (str (sideN g j ++ List.replicate k (pnL[4 - j]?.getD 0))).size ≤ 100 := by
      have := sideN_len hg.out (j := j) (by omega)
      rw [str_size]; simp; omega
     have hst := Lib.hid (sideN_step (sideN g j) k (i := 4 - j) (by omega))
     go_wp2_with fail
     go_roundg (gk - 1)
     case measure => omega
     case rel => exact ⟨k + 1, by omega, by rw [hst.out], by go_num, by omega, hb, hM⟩
    ·go_wp2_with fail
     have e : sideN g j ++ List.replicate k (pnL[4 - j]?.getD 0) = sideN g (j + 1) := by
      rw [show k = (g (4 - j)).toNat by omega]; rfl
     go_roundg (g1 - 1)
     case measure => omega
     case rel => exact ⟨j + 1, by omega, by rw [e], by go_num, hb, hM⟩
  ·obtain rfl : j = 5 := by omega
   go_wp2_with fail
   go_ret
   exact ⟨rfl, hb⟩
end Go.Proofs.YtddkhnnpeonbgaaGreatDoor
namespace Go.Proofs.YtddkhnnpeonbgaaGreatDoor
open Go.RowKit

def g5 (a b c d e : Int) (j : Nat) : Int := match j with | 0 => a | 1 => b | 2 => c | 3 => d | _ => e
theorem g5_sw (m : Men) : g5 m.w0 m.w1 m.w2 m.w3 m.w4 = m.sw := rfl
theorem g5_sb (m : Men) : g5 m.b0 m.b1 m.b2 m.b3 m.b4 = m.sb := rfl

theorem side5 (a b c d e : Int) (hg : Hid (∀ j, j < 5 → 0 ≤ g5 a b c d e j ∧ g5 a b c d e j ≤ 4)) (w : World) : Calls Tryz.prog 119 #[.agg #[.int .i64 a, .int .i64 b, .int .i64 c, .int .i64 d, .int .i64 e]] w fun e' w' => e' = .returned (.string (str (sideL (g5 a b c d e)))) ∧ Below w.heap.size w w' :=
 side_any2 (g5 a b c d e) hg.out w

def Men12 (w : World) (B : Nat) (m : Men) : Prop :=
 w.cell? ⟨B, 0, none⟩ = some (.int .i64 m.f) ∧ w.cell? ⟨B, 1, none⟩ = some (.int .i64 m.r) ∧
 w.cell? ⟨B, 2, none⟩ = some (.int .i64 m.w0) ∧ w.cell? ⟨B, 3, none⟩ = some (.int .i64 m.w1) ∧ w.cell? ⟨B, 4, none⟩ = some (.int .i64 m.w2) ∧ w.cell? ⟨B, 5, none⟩ = some (.int .i64 m.w3) ∧ w.cell? ⟨B, 6, none⟩ = some (.int .i64 m.w4) ∧
 w.cell? ⟨B, 7, none⟩ = some (.int .i64 m.b0) ∧ w.cell? ⟨B, 8, none⟩ = some (.int .i64 m.b1) ∧ w.cell? ⟨B, 9, none⟩ = some (.int .i64 m.b2) ∧ w.cell? ⟨B, 10, none⟩ = some (.int .i64 m.b3) ∧ w.cell? ⟨B, 11, none⟩ = some (.int .i64 m.b4)

def Loc (w0 : World) (B : Nat) (o : Obj) (W : World) : Prop := Below w0.heap.size w0 W ∧ HasO W B o
theorem Loc.call {w0 W w' : World} {B : Nat} {o : Obj} (h : Loc w0 B o W) (hb : Below W.heap.size W w') : Loc w0 B o w' := ⟨below_call h.1 h.1.size hb, h.2.call hb⟩
theorem Loc.drew {w0 W : World} {B : Nat} {o : Obj} (h : Loc w0 B o W) : Loc w0 B o W.drew := ⟨h.1.drew, h.2⟩
theorem Loc.drewN {w0 W : World} {B : Nat} {o : Obj} (h : Loc w0 B o W) (n : Nat) : Loc w0 B o (W.drewN n) := ⟨below_drewN h.1 n, h.2⟩
theorem Loc.alloc {w0 W : World} {B : Nat} {o : Obj} (h : Loc w0 B o W) (o' : Obj) : Loc w0 B o (W.alloc o') := ⟨h.1.alloc h.1.size o', h.2.alloc o'⟩
theorem Loc.new (w : World) (o : Obj) : Loc w w.heap.size o (w.alloc o) := ⟨below_box w o, HasO.new w o⟩

theorem men12_of {w : World} {B : Nat} {m : Men} (h : HasO w B (.cells m.cs.toArray 41 (0, 0))) : Men12 w B m :=
 ⟨h.cells 0, h.cells 1, h.cells 2, h.cells 3, h.cells 4, h.cells 5, h.cells 6, h.cells 7, h.cells 8, h.cells 9, h.cells 10, h.cells 11⟩

theorem load_bytes {W : World} {q : Nat} {cs : Array Value} {t : TypeId} (ns : List Int) (h : HasO W q (.cells cs t (0, 0))) (hc : cs = (ns.map (Value.int .u8)).toArray) (P : Program) : (loadCells ⟨q, 0, none⟩ ns.length).run P W = .ok (ns.map (Value.int .u8)).toArray W := by
 subst hc
 have := run_loadCells_list (P := P) (w := W) ⟨q, 0, none⟩ (ns.map (Value.int .u8)) (fun j v hv => by
  rw [Addr.add_lit, Nat.zero_add, h.cells j]; simpa using hv)
 simpa using this
theorem foldl_str (ns : List Int) : ns.foldl (fun r n => r.push (UInt8.ofNat n.toNat)) ByteArray.empty = str (ns.map fun n => UInt8.ofNat n.toNat) := by
 have h : ∀ (ns : List Int) (a : List UInt8), ns.foldl (fun r n => r.push (UInt8.ofNat n.toNat)) (str a) = str (a ++ ns.map fun n => UInt8.ofNat n.toNat) := by
  intro ns
  induction ns with
  | nil => intro a; simp
  | cons n ns ih =>
   intro a
   have e : (str a).push (UInt8.ofNat n.toNat) = str (a ++ [UInt8.ofNat n.toNat]) := by simp [str, ByteArray.push]
   simp only [List.foldl_cons, e, ih, List.map_cons, List.append_assoc, List.singleton_append]
 exact h ns []
theorem conv_bytes {W : World} {q : Nat} {cs : Array Value} {t : TypeId} (ns : List Int) (h : HasO W q (.cells cs t (0, 0))) (hc : cs = (ns.map (Value.int .u8)).toArray) (n c : Nat) (hn : n = ns.length) :
  (convert 22 9 (.slice (some ⟨q, 0, none⟩) n c)).run Tryz.prog W = .ok (.string (str (ns.map fun n => UInt8.ofNat n.toNat))) W := by
 subst hn
 rw [run_convert_bytes_string W 22 9 5 _ _ _ Tryz.underlying22 Tryz.underlying5 Tryz.underlying9, run_bytesToString W _ _ _ ns (load_bytes ns h hc _), foldl_str]

theorem u8_in {n : Int} (h0 : 0 ≤ n) (h1 : n < 256) : IntKind.u8.wrap n = n := by
 have e : ((2 : Int) ^ IntKind.u8.bits) = 256 := by decide
 have e2 : IntKind.u8.signed = false := rfl
 simp [IntKind.wrap, e, e2]
 omega
theorem conv4 {W : World} {q : Nat} {x y z t : Int} (h : HasO W q (.cells #[.int .u8 x, .int .u8 y, .int .u8 z, .int .u8 t] 5 (0, 0))) :
  (convert 22 9 (.slice (some ⟨q, 0, none⟩) 4 4)).run Tryz.prog W = .ok (.string (str [UInt8.ofNat x.toNat, UInt8.ofNat y.toNat, UInt8.ofNat z.toNat, UInt8.ofNat t.toNat])) W :=
 conv_bytes [x, y, z, t] h rfl _ _ rfl
abbrev textHd (m : Men) : List Value := [.int .u8 (48 + m.f), .int .u8 120, .int .u8 (48 + m.r), .int .u8 32]
def refTextW (m : Men) (B : Nat) : Nat → Value → World → Prop
 | 0, v, _ => v = .pointer (some ⟨B, 0, none⟩)
 | 1, v, _ => v = .pointer (some ⟨B, 0, none⟩)
 | 2, v, _ => v = .int .i64 m.f
 | 3, v, _ => v = .int .i64 (48 + m.f)
 | 4, v, _ => v = .int .u8 (48 + m.f)
 | 5, v, _ => v = .pointer (some ⟨B, 0, none⟩)
 | 6, v, _ => v = .pointer (some ⟨B, 1, none⟩)
 | 7, v, _ => v = .int .i64 m.r
 | 8, v, _ => v = .int .i64 (48 + m.r)
 | 9, v, _ => v = .int .u8 (48 + m.r)
 | 10, v, w => ∃ q, v = .slice (some ⟨q, 0, none⟩) 4 4 ∧ HasO w q (.cells (textHd m).toArray 5 (0, 0))
 | 11, v, _ => v = .string (str [UInt8.ofNat (48 + m.f).toNat, 120, UInt8.ofNat (48 + m.r).toNat, 32])
 | 12, v, _ => v = .pointer (some ⟨B, 2, none⟩)
 | 13, v, _ => v = .agg #[.int .i64 m.w0, .int .i64 m.w1, .int .i64 m.w2, .int .i64 m.w3, .int .i64 m.w4]
 | 14, v, _ => v = .string (str (sideL m.sw))
 | 15, v, _ => v = .string (str [UInt8.ofNat (48 + m.f).toNat, 120, UInt8.ofNat (48 + m.r).toNat, 32] ++ str (sideL m.sw))
 | 16, v, _ => v = .pointer (some ⟨B, 7, none⟩)
 | 17, v, _ => v = .agg #[.int .i64 m.b0, .int .i64 m.b1, .int .i64 m.b2, .int .i64 m.b3, .int .i64 m.b4]
 | 18, v, _ => v = .string (str (sideL m.sb))
 | 19, v, _ => v = .string (str [UInt8.ofNat (48 + m.f).toNat, 120, UInt8.ofNat (48 + m.r).toNat, 32] ++ str (sideL m.sw) ++ str (sideL m.sb))
 | 20, v, _ => v = .string (str [UInt8.ofNat (48 + m.f).toNat, 120, UInt8.ofNat (48 + m.r).toNat, 32] ++ str (sideL m.sw) ++ str (sideL m.sb))
 | _, _, _ => True

set_option maxRecDepth 100000 in
set_option maxHeartbeats 800000 in
theorem refText_any (m : Men) (w : World) (hm : Hid (validB m = true)) : Calls Tryz.prog 90 #[.agg m.cs.toArray] w fun e w' => e = .returned (.string (str (textL m))) ∧ Below w.heap.size w w' := by
 have hg1 : Hid (∀ j, j < 5 → 0 ≤ g5 m.w0 m.w1 m.w2 m.w3 m.w4 j ∧ g5 m.w0 m.w1 m.w2 m.w3 m.w4 j ≤ 4) := fun j hj => by
  have := menOk_at (validB_ok hm.out) hj; rw [g5_sw]; omega
 have hg2 : Hid (∀ j, j < 5 → 0 ≤ g5 m.b0 m.b1 m.b2 m.b3 m.b4 j ∧ g5 m.b0 m.b1 m.b2 m.b3 m.b4 j ≤ 4) := fun j hj => by
  have := menOk_at (validB_ok hm.out) hj; rw [g5_sb]; omega
 have hs := validB_size hm.out
 have hz1 : (str (sideL m.sw)).size ≤ 21 := by
  have := sideN_len (j := 5) hg1.out (Nat.le_refl _); rw [str_size]; exact this
 have hz2 : (str (sideL m.sb)).size ≤ 21 := by
  have := sideN_len (j := 5) hg2.out (Nat.le_refl _); rw [str_size]; exact this
 have hz4 : ∀ a b c d, (str [a, b, c, d]).size = 4 := fun a b c d => by rw [str_size]; rfl
 have hall := Loc.new w (.cells m.cs.toArray 41)
 go_enter Tryz.func90, Tryz.ntmps90
 go_wp2_with fail
 generalize w.alloc (.cells m.cs.toArray 41) = wq at *
 refine wp_region_ag (by kernel_rfl) (by kernel_rfl) (fun f => { tmps := #[.agg m.cs.toArray, .pointer (some ⟨w.heap.size, 0, none⟩), f 20, f 0, f 1, f 2, f 3, f 4, f 5, f 6, f 7, f 8, f 9, f 10, f 11, f 12, f 13, f 14, f 15, f 16, f 17, f 18, f 19], defers := [] })
  (fun i => if i = 20 then .string { data := #[] } else undef) rfl ?hfr (Loc w w.heap.size (.cells m.cs.toArray 41)) (fun a b => Below a.heap.size a b) (refTextW m w.heap.size) ?hstab hall.drew ?hstep ?hend
 case hfr =>
  intro i hi f u
  have hi : i < 21 := hi
  rcases (by omega : i = 0 ∨ i = 1 ∨ i = 2 ∨ i = 3 ∨ i = 4 ∨ i = 5 ∨ i = 6 ∨ i = 7 ∨ i = 8 ∨ i = 9 ∨ i = 10 ∨ i = 11 ∨ i = 12 ∨ i = 13 ∨ i = 14 ∨ i = 15 ∨ i = 16 ∨ i = 17 ∨ i = 18 ∨ i = 19 ∨ i = 20) with rfl | rfl | rfl | rfl | rfl | rfl | rfl | rfl | rfl | rfl | rfl | rfl | rfl | rfl | rfl | rfl | rfl | rfl | rfl | rfl | rfl <;> rfl
 case hstab =>
  intro i v w1 w2 hC hle h
  by_cases e : i = 10
  ·subst e
   obtain ⟨q, h1, h2⟩ := h
   exact ⟨q, h1, h2.call hle⟩
  ·unfold refTextW at h ⊢
   split at h <;> first | exact h | (exfalso; exact e rfl) | simp_all
 case hend =>
  intro f w1 hC hW
  have h20 : f 20 = _ := hW 20 (by decide)
  rw [h20]
  go_wp2_with fail
  go_ret
  refine ⟨ret_v ?_, hC.1⟩
  show Value.string _ = _
  rw [str_append, str_append, textL, List.append_assoc, Int.toNat_add (by omega) (by omega), Int.toNat_add (by omega) (by omega)]
  rfl
 case hstep =>
  have e1 : IntKind.i64.wrap (48 + m.f) = 48 + m.f := IntWalk.i64_in _ (by omega)
  have e2 : IntKind.i64.wrap (48 + m.r) = 48 + m.r := IntWalk.i64_in _ (by omega)
  have e3 : IntKind.u8.wrap (48 + m.f) = 48 + m.f := u8_in (by omega) (by omega)
  have e4 : IntKind.u8.wrap (48 + m.r) = 48 + m.r := u8_in (by omega) (by omega)
  have hb15 : ¬ 9223372036854775807 < 4 + (str (sideL m.sw)).size := by omega
  have hb19 : ¬ 9223372036854775807 < 4 + (str (sideL m.sw)).size + (str (sideL m.sb)).size := by omega
  intro i o f w1 ho hi hC hpre K hK
  obtain ⟨c0, c1, c2, c3, c4, c5, c6, c7, c8, c9, c10, c11⟩ := men12_of hC.2
  have hi : i < 21 := hi
  rcases (by omega : i = 0 ∨ i = 1 ∨ i = 2 ∨ i = 3 ∨ i = 4 ∨ i = 5 ∨ i = 6 ∨ i = 7 ∨ i = 8 ∨ i = 9 ∨ i = 10 ∨ i = 11 ∨ i = 12 ∨ i = 13 ∨ i = 14 ∨ i = 15 ∨ i = 16 ∨ i = 17 ∨ i = 18 ∨ i = 19 ∨ i = 20) with rfl | rfl | rfl | rfl | rfl | rfl | rfl | rfl | rfl | rfl | rfl | rfl | rfl | rfl | rfl | rfl | rfl | rfl | rfl | rfl | rfl
  all_goals (injection ho with ho; subst ho; simp [refTextW, Region.binds] at hpre)
  case' inr.inr.inr.inr.inr.inr.inr.inr.inr.inr.inr.inl => obtain ⟨q, hq1, hq2⟩ := hpre; have hcv := conv4 hq2; simp only [hq1] at hK
  all_goals (try simp only [hpre] at hK)
  all_goals go_simp
  all_goals (first | exact hK _ _ hC (Below.refl _ _) rfl | skip)
  case inr.inr.inr.inr.inr.inr.inr.inr.inr.inr.inl => exact hK _ _ (hC.alloc _) (below_box _ _) ⟨_, rfl, HasO.new _ _⟩
  case inr.inr.inr.inr.inr.inr.inr.inr.inr.inr.inr.inr.inr.inr.inl =>
   refine (side5 _ _ _ _ _ hg1 _).mono ?_
   rintro e w' ⟨rfl, hb⟩
   exact hK _ _ (hC.call hb) hb rfl
  case inr.inr.inr.inr.inr.inr.inr.inr.inr.inr.inr.inr.inr.inr.inr.inr.inr.inr.inl =>
   refine (side5 _ _ _ _ _ hg2 _).mono ?_
   rintro e w' ⟨rfl, hb⟩
   exact hK _ _ (hC.call hb) hb rfl
end Go.Proofs.YtddkhnnpeonbgaaGreatDoor
namespace Go.Proofs.YtddkhnnpeonbgaaGreatDoor
open Go.RowKit
attribute [local go_sem] Oper.semAt_some

def BackRd (bx g o cap : Nat) (xs : List Int) (W : World) : Prop :=
 W.cell? ⟨bx, 0, none⟩ = some (.slice (some ⟨g, o, none⟩) xs.length cap) ∧ ∀ i x, xs[i]? = some x → W.cell? ⟨g, o + i, none⟩ = some (.int .i64 x)

theorem back_seq (bx g o cap : Nat) (xs : List Int) (hx : xs.length ≤ 1000000) :
  SeqI Tryz.prog 149 #[.pointer (some ⟨bx, 0, none⟩)] xs.length (fun k => #[.int .i64 ((xs.length : Int) - 1 - k), .int .i64 (xs[xs.length - 1 - k]?.getD 0)]) (BackRd bx g o cap xs) (fun _ _ => False) (fun _ => False) := by
 intro n l J Jx W0 hst hstx hRd hsz hszx h0 hy
 have hJ0 := h0 W0.heap.size W0 (Below.refl _ _) (Nat.le_refl _) rfl
 obtain ⟨hr1, hr2⟩ := hRd _ _ _ hJ0
 refine callsIn_of_wp Tryz.func149 rfl trivial ?_ rfl
 simp only [Tryz.ntmps149, List.size_toArray, List.length_cons, List.length_nil, Nat.reduceAdd, Nat.reduceSub, Array.replicate_succ, Array.replicate_zero, List.push_toArray, List.append_toArray, List.nil_append, List.cons_append]
 gi_wp2
 gi_loopw [3] (fun i wr => ∃ k : Nat, k ≤ xs.length ∧ i = .int .i64 ((xs.length : Int) - 1 - k) ∧ J W0.heap.size k wr) (fun i wr => (intOf i + 1).toNat)
 case atStart => exact ⟨0, by omega, by simp, hJ0⟩
 case round =>
  clear hr1 hr2
  obtain ⟨k, hk, rfl, hJ⟩ := hrel
  obtain ⟨hr1, hr2⟩ := hRd _ _ _ hJ
  by_cases hlt : k < xs.length
  ·have hc := hr2 (xs.length - 1 - k) (xs[xs.length - 1 - k]?.getD 0) (by rw [List.getElem?_eq_getElem (by omega)]; rfl)
   have h1 : (0 : Int) ≤ (xs.length : Int) - 1 - k := by omega
   clear hr2
   obtain ⟨fn, tmps, assign, body, hy1, hR⟩ := hy W0.heap.size k wr (Nat.le_refl _) hlt hJ (fun q h1 h2 => by omega)
   gi_wp2
   refine ⟨fun h => by simp [Fence.wide] at h, (roundIn_any hR).mono ?_⟩
   rintro e W' (⟨rfl, hJ', _⟩ | ⟨rfl, hJx⟩)
   ·gi_wp2
    go_roundw
    case rel => exact ⟨k + 1, by omega, by go_num, hJ'⟩
    case measure => simp [intOf]; omega
   ·gi_wp2
    refine bodyPost_ret (results_none rfl _ _ _) rfl ?_
    exact ⟨W0.heap.size, Nat.le_refl _, .inl ⟨⟨_, rfl⟩, .inr ⟨k, hlt, hJx⟩⟩⟩
  ·obtain rfl : k = xs.length := by omega
   gi_wp2
   go_end0
   exact ⟨W0.heap.size, Nat.le_refl _, .inl ⟨⟨_, rfl⟩, .inl hJ⟩⟩
end Go.Proofs.YtddkhnnpeonbgaaGreatDoor
