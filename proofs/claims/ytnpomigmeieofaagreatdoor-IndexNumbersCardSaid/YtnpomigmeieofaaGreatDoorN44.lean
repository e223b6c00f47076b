import Derived.Test.YtnpomigmeieofaaGreatDoorN35
import Derived.Test.YtnpomigmeieofaaGreatDoorN43
import Derived.Deep.CutRange
namespace Go.Proofs.YtnpomigmeieofaaGreatDoor
open Go.RowKit
attribute [local go_sem] Oper.semAt_some

set_option maxRecDepth 100000 in
set_option maxHeartbeats 6400000 in
theorem posOut_any (m : Men) (tot n : Nat) (hcnt : cntE m = ((tot : Int), 0)) (hn : tot ≤ n) (w : World) :
  Calls Tryz.prog 21 #[.agg m.cs.toArray, .int .i64 (n : Nat)] w fun e w' => e = .returned (.tuple #[.agg (posCs 0 0 none 0 0 false 0 0 0 0).toArray, .int .i64 3]) ∧ Below w.heap.size w w' := by
 have hM := ((HasO.new w (.cells m.cs.toArray 26)).alloc (.cells #[.int .i64 (n : Nat)] 3)).alloc (.cells (posCs 0 0 none 0 0 false 0 0 0 0).toArray 40)
 have hN := (HasO.new' (w.alloc (.cells m.cs.toArray 26)) (.cells #[.int .i64 (n : Nat)] 3) (q := w.heap.size + 1) (by simp)).alloc (.cells (posCs 0 0 none 0 0 false 0 0 0 0).toArray 40)
 have hR := HasO.new' ((w.alloc (.cells m.cs.toArray 26)).alloc (.cells #[.int .i64 (n : Nat)] 3)) (.cells (posCs 0 0 none 0 0 false 0 0 0 0).toArray 40) (q := w.heap.size + 2) (by simp)
 have hB := ((below_box w (.cells m.cs.toArray 26)).alloc (by simp) (.cells #[.int .i64 (n : Nat)] 3)).alloc (by simp; omega) (.cells (posCs 0 0 none 0 0 false 0 0 0 0).toArray 40)
 have hct := fun W => Count_any m W
 rw [hcnt] at hct
 have hn1 : (n : Int) ≥ tot := by omega
 clear hcnt hn
 refine (callsIn_wide (n := 3)).1 ?_
 refine callsIn_of_wp_marks Tryz.func21 rfl trivial ?_ rfl
 simp only [Tryz.ntmps21, List.size_toArray, List.length_cons, List.length_nil, Nat.reduceAdd, Nat.reduceSub, Array.replicate_succ, Array.replicate_zero, List.push_toArray, List.append_toArray, List.nil_append, List.cons_append]
 rw [wpIn_wide]
 go_upto_region 1 with fail
 show Code.wp _ _ _ _ (((w.alloc (.cells m.cs.toArray 26)).alloc (.cells #[.int .i64 (n : Nat)] 3)).alloc (.cells (posCs 0 0 none 0 0 false 0 0 0 0).toArray 40))
 generalize ((w.alloc (.cells m.cs.toArray 26)).alloc (.cells #[.int .i64 (n : Nat)] 3)).alloc (.cells (posCs 0 0 none 0 0 false 0 0 0 0).toArray 40) = w1 at *
 obtain ⟨q0, hq0⟩ : ∃ q, q = w.heap.size := ⟨_, rfl⟩
 rw [← hq0] at hM hN hR ⊢
 replace hq0 := Lib.hid hq0
 go_wp2_with (first | (refine wpList_loadO rfl 26 (.tmp 2) rfl q0 _ 26 rfl hM (by kernel_rfl) ?_) | fail)
 refine (hct w1).mono ?_
 rintro e w2 ⟨rfl, hb2⟩
 replace hN := hN.call hb2
 replace hR := hR.call hb2
 replace hB := below_call hB hB.size hb2
 clear hct hb2 hM
 have hc3 := hN.cells 0
 have hl3 := hN.lt
 have hn0 : ¬ (n : Int) < 0 := by omega
 go_wp2_with (first | (refine wpList_storeAgg rfl 40 (.tmp 4) (.tmp 35) rfl (q0 + 2) _ rfl rfl 40 _ hR (by kernel_rfl) rfl (by kernel_rfl) ?_; rintro w9 rfl) | fail)
 refine leave0 _ (results_ct (fn := Tryz.f21) Tryz.results21 rfl (setRow_hasO hR) (by kernel_rfl) (by kernel_rfl) rfl) ⟨rfl, setRow_below hB (by have := hq0.out; omega) hB.size⟩
end Go.Proofs.YtnpomigmeieofaaGreatDoor
namespace Go.Proofs.YtnpomigmeieofaaGreatDoor
open Go.RowKit

def upK (k i : Nat) : Nat := if k < i then k else 0
theorem upK_now (k : Nat) : upK k (k + 1) = k := if_pos (Nat.lt_succ_self k)
theorem upK_no {k i : Nat} (h : i ≠ k) : upK k (i + 1) = upK k i := by
 unfold upK
 by_cases h2 : k < i
 ·rw [if_pos h2, if_pos (by omega)]
 ·rw [if_neg h2, if_neg (by omega)]
theorem upK_all {k i : Nat} (h : k < i) : upK k i = k := if_pos h
theorem refGPiece_any (j : Nat) (hj : j < 10) (w : World) : Calls Tryz.prog 107 #[.int .i64 j] w fun e w' => e = .returned (.int .i8 (grpPiece j)) ∧ w = w' := by
 rcases ten hj with rfl | rfl | rfl | rfl | rfl | rfl | rfl | rfl | rfl | rfl
 all_goals
  go_enter Tryz.func107, Tryz.ntmps107
  go_wp2_with fail
  go_ret
  exact ⟨rfl, rfl⟩
set_option maxRecDepth 100000 in
set_option maxHeartbeats 6400000 in
theorem refRaw_any (f r ca pa ha fu : Int) (bl : Bool) (p : Option Addr) (c : Nat) (xs : List Int) (hl : xs.length ≤ 64) (h8 : ∀ x ∈ xs, -128 ≤ x ∧ x ≤ 127) (hvb : validB (ofM f r xs xs.length) = true) (hsq : xs.length = (ofM f r xs xs.length).sq)
  (kw kb : Nat) (hkw : kgI xs false = kw) (hkb : kgI xs true = kb) (w : World) (hx : Arr .i8 w p xs) :
  Calls Tryz.prog 50 #[.agg (posCs f r p xs.length c bl ca pa ha fu).toArray] w fun e w' => e = .returned (.int .i64 (numN xs bl : Nat)) ∧ Below w.heap.size w w' := by
 obtain ⟨_, hkl1, hk1⟩ := king_idx hkw
 obtain ⟨_, hkl2, hk2⟩ := king_idx hkb
 have hA := HasO.new w (.cells (posCs f r p xs.length c bl ca pa ha fu).toArray 40)
 have hB := below_box w (.cells (posCs f r p xs.length c bl ca pa ha fu).toArray 40)
 have hx1 := hx.call hB
 have hof := fun W hx => refIdxOf_any f r ca pa ha fu bl p c xs (by omega) h8 W hx
 have hgrp := fun j (hj : j < 10) => ofM_grp (f := f) (r := r) (xs := xs) (k := xs.length) hj
 have hnum : numN xs bl = gN xs xs.length (((if bl then 1 else 0) * xs.length + kw) * xs.length + kb) 10 := by unfold numN; rw [hkw, hkb, Int.toNat_natCast, Int.toNat_natCast]
 have hfin := gN_lt (f := f) (r := r) (xs := xs) (n0 := ((if bl then 1 else 0) * xs.length + kw) * xs.length + kb) hvb hsq (num0_lt bl hkl1 hkl2)
 rw [hnum]
 obtain ⟨nb, hnb⟩ : ∃ nb : Nat, nb = if bl then 1 else 0 := ⟨_, rfl⟩
 have hnb1 : nb ≤ 1 := by rw [hnb]; split <;> omega
 rw [← hnb] at hfin ⊢
 obtain ⟨m, hm⟩ : ∃ m, m = ofM f r xs xs.length := ⟨_, rfl⟩
 rw [← hm] at hof hgrp hvb hsq
 simp only [← hm] at hfin
 have h64 := (validB_sq hvb).2.2
 have hmen := validB_ok hvb
 obtain ⟨ln, hln⟩ : ∃ ln, ln = xs.length := ⟨_, rfl⟩
 rw [← hln] at hA hB hl hfin hgrp hof hkl1 hkl2 hk1 hk2 ⊢
 have hx2 : Arr .i8 (w.alloc (.cells (posCs f r p ln c bl ca pa ha fu).toArray 40)) p xs := by rw [hln]; exact hx1
 clear hx1 hnum hsq
 have t1 := Nat.mul_le_mul hnb1 hl
 have t2 := Nat.mul_le_mul (show nb * ln + kw ≤ 128 by omega) hl
 have b1 : Hid (wrap64 ((nb : Int) * (ln : Int)) = ((nb * ln : Nat) : Int)) := Lib.hid (by rw [← Int.natCast_mul]; exact IntWalk.wrap64_in _ (by omega))
 have b2 : Hid (wrap64 (((nb * ln : Nat) : Int) + (kw : Int)) = ((nb * ln + kw : Nat) : Int)) := Lib.hid (by rw [← Int.natCast_add]; exact IntWalk.wrap64_in _ (by omega))
 have b3 : Hid (wrap64 (((nb * ln + kw : Nat) : Int) * (ln : Int)) = (((nb * ln + kw) * ln : Nat) : Int)) := Lib.hid (by rw [← Int.natCast_mul]; exact IntWalk.wrap64_in _ (by omega))
 have b4 : Hid (wrap64 ((((nb * ln + kw) * ln : Nat) : Int) + (kb : Int)) = (((nb * ln + kw) * ln + kb : Nat) : Int)) := Lib.hid (by rw [← Int.natCast_add]; exact IntWalk.wrap64_in _ (by omega))
 obtain ⟨n0, hn0⟩ : ∃ n0, n0 = (nb * ln + kw) * ln + kb := ⟨_, rfl⟩
 rw [← hn0] at b4 hfin ⊢
 have hlx : Hid (ln = xs.length) := Lib.hid hln
 have hget : ∀ i, i < ln → ∃ y, xs[i]?.getD 0 = y ∧ -128 ≤ y ∧ y ≤ 127 := fun i hi => ⟨_, rfl, h8 _ (by rw [List.getElem?_eq_getElem (by omega)]; exact List.getElem_mem _)⟩
 clear hln t1 t2
 replace hm := Lib.hid hm
 replace hnb := Lib.hid hnb
 replace hn0 := Lib.hid hn0
 replace hget := Lib.hid hget
 replace hk1 := Lib.hid hk1
 replace hk2 := Lib.hid hk2
 replace hgrp := Lib.hid hgrp
 replace hfin := Lib.hid hfin
 have hc := hA.cells
 have hlc := hA.lt
 go_enter Tryz.func50, Tryz.ntmps50
 go_wp2_with fail
 show Calls _ _ _ (w.alloc (.cells (posCs f r p ln c bl ca pa ha fu).toArray 40)) _
 generalize w.alloc (.cells (posCs f r p ln c bl ca pa ha fu).toArray 40) = w1 at *
 refine (hof w1 hx2).mono ?_
 rintro e w2 ⟨rfl, hb2⟩
 have hA2 := hA.call hb2
 have hB2 := below_call hB hB.size hb2
 clear hA hB hx2 hof hc hlc hb2
 have hT3 := HasO.new w2 (.cells zeroMen.cs.toArray 26)
 have hlt2 := hA2.lt
 obtain ⟨w3, hw3⟩ : ∃ x, x = (w2.alloc (.cells zeroMen.cs.toArray 26)).setRow w2.heap.size m.cs.toArray := ⟨_, rfl⟩
 obtain ⟨q3, hq3⟩ : ∃ q, q = w2.heap.size := ⟨_, rfl⟩
 have hM3 : HasO w3 q3 (.cells m.cs.toArray 26 (0, 0)) := by rw [hw3, hq3]; exact setRow_hasO hT3
 have hB3 : Below w.heap.size w w3 := by rw [hw3]; exact setRow_below (hB2.alloc hB2.size _) (by omega) (by simp; omega)
 have hA3 : HasO w3 w.heap.size (.cells (posCs f r p ln c bl ca pa ha fu).toArray 40 (0, 0)) := by rw [hw3]; exact (hA2.alloc _).setRow_far (by omega)
 have hq30 : w.heap.size < q3 := by omega
 have hc3 := hA3.cells
 have hl3 := hA3.lt
 have hi41 : Hid ((Tryz.prog.info? 26).map (·.size) = some zeroMen.cs.toArray.size) := Lib.hid (by kernel_rfl)
 replace hw3 := Lib.hid hw3
 go_upto_if 19 with (first | (refine wpList_storeTo hw3 rfl 26 (.tmp 3) (.tmp 14) rfl rfl rfl 26 _ hT3 hi41.out rfl (men_one m) ?_) | fail)
 go_cut [5] from 18 to 19 (fun v wx => v = .int .i64 (nb : Nat) ∧ wx = w3)
 case first =>
  rcases bl with _ | _
  all_goals
   go_wp2_with fail
   go_meet
   exact ⟨by rw [hnb.out]; rfl, rfl⟩
 case rest =>
 obtain ⟨rfl, hwx⟩ := hcut
 obtain rfl := hwx.symm
 rw [← hq3]
 clear hT3 hB2 hA2 hi41 hw3 hc3 hl3 hlt2 hq3
 go_wp2_with fail
 have hx3 : Arr .i8 w3 p xs := hx.call hB3
 go_loopg [6, 7, 8] 65 (fun q wv bv iv wr => ∃ i : Nat, q + i = 65 ∧ i ≤ ln ∧ wv = .int .i64 ((upK kw i : Nat) : Int) ∧ bv = .int .i64 ((upK kb i : Nat) : Int) ∧ iv = .int .i64 i ∧ wr = w3)
 case atStart => exact ⟨0, rfl, Nat.zero_le _, rfl, rfl, rfl, rfl⟩
 case round =>
  obtain ⟨i, hq, hi, rfl, rfl, rfl, hwr⟩ := hrel
  obtain rfl := hwr.symm
  by_cases hlt : i < ln
  ·have hii : (i : Int) < ln := by omega
   obtain ⟨y, hy, hy8⟩ := hget.out i hlt
   have hlx' : i < xs.length := by rw [← hlx.out]; exact hlt
   obtain ⟨g, o, rfl, hgl, hcc⟩ := hx3.at hlx'
   have hci := hcc i hlx'
   rw [hy] at hci
   have e1 := hk1.out i hlt
   have e2 := hk2.out i hlt
   rw [hy, show 6 * sdI false = 6 from rfl] at e1
   rw [hy, show 6 * sdI true = -6 from rfl] at e2
   have hc3 := hA3.cells
   have hl3 := hA3.lt
   clear hcc hy
   rcases (by omega : y = 6 ∨ y = -6 ∨ (y ≠ 6 ∧ y ≠ -6)) with rfl | rfl | ⟨h6, h7⟩
   ·have ei : i = kw := by omega
    have en : ¬ i = kb := by omega
    have f1 : Hid (upK kw (i + 1) = i) := Lib.hid (by rw [ei]; exact upK_now kw)
    have f2 : Hid (upK kb (i + 1) = upK kb i) := Lib.hid (upK_no (by omega))
    clear e1 e2 ei en
    go_wp2_with fail
    go_roundg (gk - 1)
    case measure => omega
    case rel => exact ⟨i + 1, by omega, by omega, by rw [f1.out], by rw [f2.out], by go_num, rfl⟩
   ·have ei : i = kb := by omega
    have en : ¬ i = kw := by omega
    have f1 : Hid (upK kb (i + 1) = i) := Lib.hid (by rw [ei]; exact upK_now kb)
    have f2 : Hid (upK kw (i + 1) = upK kw i) := Lib.hid (upK_no (by omega))
    clear e1 e2 ei en
    go_wp2_with fail
    go_roundg (gk - 1)
    case measure => omega
    case rel => exact ⟨i + 1, by omega, by omega, by rw [f2.out], by rw [f1.out], by go_num, rfl⟩
   ·have en : ¬ i = kw := fun e => h6 (e1.2 e)
    have en2 : ¬ i = kb := fun e => h7 (e2.2 e)
    have f1 : Hid (upK kb (i + 1) = upK kb i) := Lib.hid (upK_no (by omega))
    have f2 : Hid (upK kw (i + 1) = upK kw i) := Lib.hid (upK_no (by omega))
    have g1 : (y == 6) = false := by simpa using h6
    have g2 : (y == -6) = false := by simpa using h7
    clear e1 e2 en en2 h6 h7
    go_wp2_with fail
    go_roundg (gk - 1)
    case measure => omega
    case rel => exact ⟨i + 1, by omega, by omega, by rw [f2.out], by rw [f1.out], by go_num, rfl⟩
  ·have hii : ¬ (i : Int) < ln := by omega
   obtain rfl : ln = i := by omega
   rw [upK_all hkl1, upK_all hkl2]
   clear hq hi hlt
   go_wp2_with fail
   go_loopg [5, 9] 11 (fun q nv kv wr => ∃ k : Nat, q + k = 11 ∧ k ≤ 10 ∧ nv = .int .i64 ((gN xs ln n0 k : Nat) : Int) ∧ kv = .int .i64 k ∧ HasO wr w.heap.size (.cells (posCs f r p ln c bl ca pa ha fu).toArray 40 (0, 0)) ∧ HasO wr q3 (.cells m.cs.toArray 26 (0, 0)) ∧ Below w.heap.size w wr)
   case atStart => exact ⟨0, rfl, Nat.zero_le _, by rw [b1.out, b2.out, b3.out, b4.out]; rfl, rfl, hA3, hM3, hB3⟩
   case round =>
    obtain ⟨k, hq, hk10, rfl, rfl, hA, hM, hB⟩ := hrel
    clear hA3 hM3 hB3 hx3 b1 b2 b3 b4 hkl1 hkl2 hk1 hk2 hkw hkb
    by_cases hk : k < 10
    ·have hkk : (k : Int) < 10 := by omega
     obtain ⟨gp, hgp⟩ : ∃ gp, gp = grpPiece k := ⟨_, rfl⟩
     obtain ⟨gm, hgm⟩ : ∃ gm : Nat, gm = ct xs (grpPiece k) ln := ⟨_, rfl⟩
     have hgk : m.grp k = (gm : Int) := by rw [hgm, hgrp.out k hk]
     have hgb := grp_bd hmen hk
     have hgb4 : gm ≤ 4 := by omega
     have hgm' : gm = ct xs gp ln := by rw [hgp]; exact hgm
     have hcl := fun i (hi : i ≤ ln) => cmb_lt (xs := xs) (x := gp) (k := i) (by omega) (by have := ct_mono (xs := xs) (x := gp) hi; omega)
     have hcm := fun i (hi : i ≤ ln) => ct_mono (xs := xs) (x := gp) hi
     rw [← hgm'] at hcm
     have hnk := hfin.out k (by omega)
     have hpb := prod_bd hvb (k := k) (by omega)
     obtain ⟨n, hn⟩ : ∃ n, n = gN xs ln n0 k := ⟨_, rfl⟩
     have hnext : Hid (gN xs ln n0 (k + 1) = n * ch ln gm + cmb xs gp ln) := Lib.hid (by rw [hn, hgm, hgp]; rfl)
     rw [← hn] at hnk ⊢
     have hpc := refGPiece_any k hk
     rw [← hgp] at hpc
     have hgr := group_any m k hk
     rw [hgk] at hgr
     have hx3 : Arr .i8 wr p xs := hx.call hB
     have hchl := ch_le hl hgb4
     have hmu := Nat.mul_le_mul (show n ≤ 137438953472 by omega) hchl
     have hcll := hcl ln (Nat.le_refl _)
     rw [← hgm'] at hcll
     have w1 : Hid (wrap64 ((n : Int) * ((ch ln gm : Nat) : Int)) = ((n * ch ln gm : Nat) : Int)) := Lib.hid (by rw [← Int.natCast_mul]; exact IntWalk.wrap64_in _ (by omega))
     have w2 : Hid (wrap64 (((n * ch ln gm : Nat) : Int) + ((cmb xs gp ln : Nat) : Int)) = ((n * ch ln gm + cmb xs gp ln : Nat) : Int)) := Lib.hid (by rw [← Int.natCast_add]; exact IntWalk.wrap64_in _ (by omega))
     replace hgm' := Lib.hid hgm'
     clear hmu hcll hchl hnk hpb hgb hgk hgm hgp hn
     replace hcl := Lib.hid hcl
     replace hcm := Lib.hid hcm
     obtain ⟨g1, hg1⟩ : ∃ x, x = gk := ⟨_, rfl⟩
     subst hg1
     obtain ⟨v1, hv1⟩ : ∃ x, x = wr := ⟨_, rfl⟩
     subst hv1
     go_wp2_with fail
     go_loopg [10, 11, 12] 65 (fun q cv tv iv wr2 => ∃ i : Nat, q + i = 65 ∧ i ≤ ln ∧ cv = .int .i64 ((cmb xs gp i : Nat) : Int) ∧ tv = .int .i64 ((ct xs gp i : Nat) : Int) ∧ iv = .int .i64 i ∧ Below v1.heap.size v1 wr2)
     case atStart => exact ⟨0, rfl, Nat.zero_le _, rfl, rfl, rfl, Below.refl _ _⟩
     case round =>
      obtain ⟨i, hq2, hi, rfl, rfl, rfl, hb2⟩ := hrel
      have hA2 := hA.call hb2
      have hM2 := hM.call hb2
      have hB2 := below_call hB hB.size hb2
      have hx4 := hx3.call hb2
      by_cases hlt : i < ln
      ·have hii : (i : Int) < ln := by omega
       obtain ⟨y, hy, hy8⟩ := hget.out i hlt
       have hlx' : i < xs.length := by rw [← hlx.out]; exact hlt
       obtain ⟨g, o, rfl, hgl, hcc⟩ := hx4.at hlx'
       have hci := hcc i hlx'
       rw [hy] at hci
       have hs1 : ct xs gp (i + 1) = ct xs gp i + if y = gp then 1 else 0 := by rw [← hy]; rfl
       have hs2 : cmb xs gp (i + 1) = cmb xs gp i + if y = gp then ch i (ct xs gp (i + 1)) else 0 := by rw [← hy]; rfl
       have hc1 := hcm.out (i + 1) hlt
       have hc2 := hcl.out i (by omega)
       have hc3 := ch_le (n := i) (k := ct xs gp i) (by omega) (by have := hcm.out i (by omega); omega)
       have hcb : ((cmb xs gp i : Nat) : Int) ≤ 635376 := by omega
       have hctb : ((ct xs gp i : Nat) : Int) ≤ 4 := by have := hcm.out i (by omega); omega
       have hgl2 := hgl
       clear hcc hy hc2 hc3
       have hlA := hA2.lt
       go_wp2_with fail
       refine wp_region_valsL (by kernel_rfl) (by kernel_rfl) [some 57, some 58, some 59, some 60, some 61, some 62, some 63, some 64] (by rfl) (by rfl) (fun i8 => match i8 with | 0 => .pointer (some ⟨w.heap.size, 0 + 2, none⟩) | 1 => .slice (some ⟨g, o, none⟩) ln c | 2 => .int .i64 (i : Nat) | 3 => .pointer (some ⟨g, o + i, none⟩) | 4 => .int .i8 y | 5 => .int .i64 (k : Nat) | 6 => .int .i8 gp | 7 => .bool (y == gp) | _ => undef) (fun W => Below wr.heap.size wr W) ((Below.refl _ _).drew) ?hstep ?hend
       case hstep =>
        intro i9 o9 f9 W ho hi hC hf K hK
        have hi : i9 < 8 := hi
        rcases (by omega : i9 = 0 ∨ i9 = 1 ∨ i9 = 2 ∨ i9 = 3 ∨ i9 = 4 ∨ i9 = 5 ∨ i9 = 6 ∨ i9 = 7) with rfl | rfl | rfl | rfl | rfl | rfl | rfl | rfl
        ·exact st_field (og ho rfl) 40 (.tmp 1) 1 (oo ho rfl) (rd_out rfl rfl) (n := 2) (by kernel_rfl) (hK _ hC)
        ·exact st_loadS (og ho rfl) 38 (.tmp 57) (oo ho rfl) (ri 0 (hf ⟨0, .data⟩ (oa ho rfl) rfl)) (by kernel_rfl) ((hA2.call hC).cells 2) (hK _ hC)
        ·exact st_move (og ho rfl) (.tmp 12) (oo ho rfl) (rd_out rfl rfl) (hK _ hC)
        ·exact st_index (og ho rfl) 38 (.tmp 58) (.tmp 59) (oo ho rfl) (ri 1 (hf ⟨1, .data⟩ (oa ho rfl) rfl)) (ri 2 (hf ⟨2, .data⟩ (oa ho rfl) rfl)) (index25 W g o ln c i hlt) (hK _ hC)
        ·exact st_loadS (og ho rfl) 81 (.tmp 60) (oo ho rfl) (ri 3 (hf ⟨3, .data⟩ (oa ho rfl) rfl)) (by kernel_rfl) ((hC.cell (p := ⟨g, o + i, none⟩) hgl2).trans hci) (hK _ hC)
        ·exact st_move (og ho rfl) (.tmp 9) (oo ho rfl) (rd_out rfl rfl) (hK _ hC)
        ·exact st_call1 (og ho rfl) 107 (.tmp 62) #[3] (oo ho rfl) (ri 5 (hf ⟨5, .data⟩ (oa ho rfl) rfl)) (fun _ _ => rfl) (hpc W) (by rintro u w9 ⟨h9, h10⟩; injection h9 with h9; subst h9; subst h10; exact hK _ hC) (by rintro ch w9 h9; revert h9; rintro ⟨h9, _⟩; cases h9) (by rintro w9 h9; revert h9; rintro ⟨h9, _⟩; cases h9)
        ·exact st_bin (og ho rfl) .eql 81 81 (.tmp 61) (.tmp 63) (oo ho rfl) (ri 4 (hf ⟨4, .data⟩ (oa ho rfl) rfl)) (ri 6 (hf ⟨6, .data⟩ (oa ho rfl) rfl)) (gu_i _ _ _ _ _ _ _ _) (bin8_eqlE rfl) (hK _ hC)
       case hend =>
        intro W hC
        simp only [putL, Act.put, List.setIfInBounds_toArray, List.set_cons_succ, List.set_cons_zero]
        have hbW := below_call hb2 hb2.size hC
        have hAW := hA2.call hC
        clear hA2 hM2 hB2 hx4 hci hgl hC hb2 hlA
        by_cases hyg : y = gp
        ·have hyb : (y == gp) = true := by simpa using hyg
         rw [if_pos hyg] at hs1 hs2
         rw [hs1] at hs2 hc1
         have hch5 := fun w => choose_any i (ct xs gp i + 1) (by omega) (by omega) w
         have hch6 := ch_le (n := i) (k := ct xs gp i + 1) (by omega) (by omega)
         have hch7 : ((ch i (ct xs gp i + 1) : Nat) : Int) ≤ 635376 := by omega
         replace hs1 := Lib.hid hs1
         replace hs2 := Lib.hid hs2
         clear hyg hch6 hc1
         generalize cmb xs gp i = cA at *
         generalize ch i (ct xs gp i + 1) = cB at *
         go_wp2_with fail
         have ecast : (((ct xs gp i : Nat) : Int) + 1) = ((ct xs gp i + 1 : Nat) : Int) := rfl
         rw [ecast]
         clear ecast
         refine (hch5 W).mono ?_
         rintro e w8 ⟨rfl, rfl⟩
         go_wp2_with fail
         go_roundg (gk - 1)
         case measure => omega
         case rel => exact ⟨i + 1, by omega, by omega, by rw [hs2.out]; go_num, by rw [hs1.out]; go_num, by go_num, hbW⟩
        ·have hyb : (y == gp) = false := by simpa using hyg
         rw [if_neg hyg] at hs1 hs2
         replace hs1 : ct xs gp (i + 1) = ct xs gp i := hs1
         replace hs2 : cmb xs gp (i + 1) = cmb xs gp i := hs2
         replace hs1 := Lib.hid hs1
         replace hs2 := Lib.hid hs2
         clear hyg
         go_wp2_with fail
         go_roundg (gk - 1)
         case measure => omega
         case rel => exact ⟨i + 1, by omega, by omega, by rw [hs2.out], by rw [hs1.out], by go_num, hbW⟩
      ·have hii : ¬ (i : Int) < ln := by omega
       obtain rfl : ln = i := by omega
       rw [← hgm'.out]
       have hcM := hM2.cells
       have hlM := hM2.lt
       clear hlt hq2 hi hcl hcm
       go_wp2_with fail
       refine (hgr _).mono ?_
       rintro e w9 ⟨rfl, hb9⟩
       go_wp2_with fail
       refine (choose_any ln gm hl hgb4 _).mono ?_
       rintro e w10 ⟨rfl, rfl⟩
       go_wp2_with fail
       go_roundg (g1 - 1)
       case measure => omega
       case rel => exact ⟨k + 1, by omega, by omega, by rw [w1.out, w2.out, hnext.out], by go_num, hA2.call hb9, hM2.call hb9, below_call hB2 hB2.size hb9⟩
    ·have hkk : ¬ (k : Int) < 10 := by omega
     obtain rfl : k = 10 := by omega
     go_wp2_with fail
     go_ret
     exact ⟨rfl, hB⟩
end Go.Proofs.YtnpomigmeieofaaGreatDoor
namespace Go.Proofs.YtnpomigmeieofaaGreatDoor
open Go.RowKit

theorem pv_fac {f r : Int} {xs : List Int} {bl : Bool} {ca pa ha fu : Int} (h : pvB f r xs bl ca pa ha fu = true) : xs.length ≤ 64 ∧ xs.length = (ofM f r xs xs.length).sq ∧ ∃ k1 k2 : Nat, idxI xs 6 = k1 ∧ idxI xs (-6) = k2 ∧ k1 < xs.length ∧ k2 < xs.length ∧ kgI xs false = k1 ∧ kgI xs true = k2 := by
 unfold pvB at h
 rw [Bool.and_eq_true] at h
 obtain ⟨ho, hn⟩ := h
 obtain ⟨F, R, rfl, rfl, hF, hR, hlen, _⟩ := orthB_fact ho
 unfold pvN at hn
 simp only [Bool.and_eq_true, Bool.not_eq_true', decide_eq_false_iff_not] at hn
 obtain ⟨hk1, hk2, _⟩ := hn
 have e1 : kgI xs false = ((kgI xs false).toNat : Nat) := by omega
 have e2 : kgI xs true = ((kgI xs true).toNat : Nat) := by omega
 obtain ⟨a1, a2, _⟩ := king_idx e1
 obtain ⟨b1, b2, _⟩ := king_idx e2
 refine ⟨by rw [hlen]; exact Nat.mul_le_mul hF.2 hR.2, ?_, _, _, a1, b1, a2, b2, e1, e2⟩
 rw [hlen]
 show F * R = (((F : Int) * (R : Int))).toNat
 rw [← Int.natCast_mul, Int.toNat_natCast]
set_option maxRecDepth 100000 in
set_option maxHeartbeats 6400000 in
theorem refIdxNumber_any (f r ca pa ha fu : Int) (bl : Bool) (p : Option Addr) (c : Nat) (xs : List Int) (hca : 0 ≤ ca ∧ ca < 256) (hl : xs.length ≤ 1000) (h8 : ∀ x ∈ xs, -128 ≤ x ∧ x ≤ 127) (w : World) (hx : Arr .i8 w p xs) :
  Calls Tryz.prog 16 #[.agg (posCs f r p xs.length c bl ca pa ha fu).toArray] w fun e w' => e = .returned (.tuple #[.int .i64 (numE f r xs bl ca pa ha fu).1, .int .i64 (numE f r xs bl ca pa ha fu).2]) ∧ Below w.heap.size w w' := by
 have hA := HasO.new w (.cells (posCs f r p xs.length c bl ca pa ha fu).toArray 40)
 have hB := below_box w (.cells (posCs f r p xs.length c bl ca pa ha fu).toArray 40)
 have hx1 := hx.call hB
 have hpv := fun W hx => refPos_any f r ca pa ha fu bl p c xs hca.1 W hx
 have hof := fun W hx => refIdxOf_any f r ca pa ha fu bl p c xs hl h8 W hx
 have hraw : pvB f r xs bl ca pa ha fu = true → validB (ofM f r xs xs.length) = true → ∀ W, Arr .i8 W p xs → Calls Tryz.prog 50 #[.agg (posCs f r p xs.length c bl ca pa ha fu).toArray] W fun e w' => e = .returned (.int .i64 (numN xs bl : Nat)) ∧ Below W.heap.size W w' := by
  intro h1 h2 W hW
  obtain ⟨a1, a2, k1, k2, _, _, _, _, a3, a4⟩ := pv_fac h1
  exact refRaw_any f r ca pa ha fu bl p c xs a1 h8 h2 a2 k1 k2 a3 a4 W hW
 obtain ⟨V, hV⟩ : ∃ V, V = numE f r xs bl ca pa ha fu := ⟨_, rfl⟩
 have hVd : V = if pvB f r xs bl ca pa ha fu then (if validB (ofM f r xs xs.length) then (if countN (ofM f r xs xs.length) ≤ 1048576 then
  (if ca ≠ 0 ∨ (0 ≤ pa ∧ 0 < (if bl then (ofM f r xs xs.length).b0 else (ofM f r xs xs.length).w0)) then (0, 9) else (((numN xs bl : Nat) : Int), 0)) else (0, 7)) else (0, 7)) else (0, 2) := hV
 rw [← hV]
 clear hV
 obtain ⟨D, hD⟩ : ∃ D, D = pvB f r xs bl ca pa ha fu := ⟨_, rfl⟩
 rw [← hD] at hpv hVd hraw
 obtain ⟨m, hm⟩ : ∃ m, m = ofM f r xs xs.length := ⟨_, rfl⟩
 rw [← hm] at hof hVd hraw
 obtain ⟨nn, hnn⟩ : ∃ nn, nn = numN xs bl := ⟨_, rfl⟩
 rw [← hnn] at hVd hraw
 replace hVd := Lib.hid hVd
 replace hD := Lib.hid hD
 replace hm := Lib.hid hm
 replace hnn := Lib.hid hnn
 replace hraw := Lib.hid hraw
 clear hx
 have hc := hA.cells
 have hlc := hA.lt
 go_enter Tryz.func16, Tryz.ntmps16
 go_wp2_with fail
 show Calls _ _ _ (w.alloc (.cells (posCs f r p xs.length c bl ca pa ha fu).toArray 40)) _
 generalize w.alloc (.cells (posCs f r p xs.length c bl ca pa ha fu).toArray 40) = w1 at *
 refine (hpv w1 hx1).mono ?_
 rintro e w2 ⟨rfl, hb2⟩
 have hA2 := hA.call hb2
 have hB2 := below_call hB hB.size hb2
 have hx2 := hx1.call hb2
 clear hA hB hx1 hpv hc hlc hb2
 have hc := hA2.cells
 have hlc := hA2.lt
 rcases D with _ | _
 ·have e0 : Hid (V = (0, 2)) := Lib.hid (by rw [hVd.out]; rfl)
  go_wp2_with fail
  go_ret2
  exact ⟨by rw [e0.out]; rfl, hB2⟩
 ·go_wp2_with fail
  refine (hof w2 hx2).mono ?_
  rintro e w3 ⟨rfl, hb3⟩
  have hA3 := hA2.call hb3
  have hB3 := below_call hB2 hB2.size hb3
  have hx3 := hx2.call hb3
  clear hA2 hB2 hx2 hof hc hlc hb3
  have hT4 := HasO.new w3 (.cells zeroMen.cs.toArray 26)
  have hlt3 := hA3.lt
  obtain ⟨w4, hw4⟩ : ∃ x, x = (w3.alloc (.cells zeroMen.cs.toArray 26)).setRow w3.heap.size m.cs.toArray := ⟨_, rfl⟩
  obtain ⟨q4, hq4⟩ : ∃ q, q = w3.heap.size := ⟨_, rfl⟩
  have hM4 : HasO w4 q4 (.cells m.cs.toArray 26 (0, 0)) := by rw [hw4, hq4]; exact setRow_hasO hT4
  have hB34 : Below w3.heap.size w3 w4 := by rw [hw4]; exact setRow_below (below_box _ _) (Nat.le_refl _) (by simp)
  have hB4 := below_call hB3 hB3.size hB34
  have hA4 := hA3.call hB34
  have hx4 := hx3.call hB34
  have hq40 : w.heap.size < q4 := by omega
  have hcm := hM4.cells
  have hlm := hM4.lt
  have hi41 : Hid ((Tryz.prog.info? 26).map (·.size) = some zeroMen.cs.toArray.size) := Lib.hid (by kernel_rfl)
  have hva := fun W => refValid_any m W
  clear hA3 hB3 hx3 hB34
  replace hw4 := Lib.hid hw4
  rw [hq4] at hcm hlm
  go_wp2_with (first | (refine wpList_storeTo hw4 rfl 26 (.tmp 4) (.tmp 10) rfl rfl rfl 26 _ hT4 hi41.out rfl (men_one m) ?_) | fail)
  refine (hva w4).mono ?_
  rintro e w5 ⟨rfl, hb5⟩
  rw [← hq4]
  have hA5 := hA4.call hb5
  have hM5 := hM4.call hb5
  have hB5 := below_call hB4 hB4.size hb5
  have hx5 := hx4.call hb5
  clear hA4 hM4 hB4 hx4 hb5 hw4 hT4 hi41 hva hcm hlm hq4 hlt3
  have hcm := hM5.cells
  have hlm := hM5.lt
  rcases hvb : validB m with _ | _
  ·have e0 : Hid (V = (0, 7)) := Lib.hid (by rw [hVd.out, hvb]; rfl)
   go_wp2_with fail
   go_ret2
   exact ⟨by rw [e0.out]; rfl, hB5⟩
  ·have hcn := fun W => refCount_any m W (Lib.hid hvb)
   go_wp2_with fail
   refine (hcn w5).mono ?_
   rintro e w6 ⟨rfl, hb6⟩
   have hA6 := hA5.call hb6
   have hM6 := hM5.call hb6
   have hB6 := below_call hB5 hB5.size hb6
   have hx6 := hx5.call hb6
   clear hA5 hM5 hB5 hx5 hb6 hcn hcm hlm
   have hcm := hM6.cells
   have hlm := hM6.lt
   have hc := hA6.cells
   have hlc := hA6.lt
   rcases Nat.lt_or_ge 1048576 (countN m) with hbig | hsm
   ·have e0 : Hid (V = (0, 7)) := Lib.hid (by rw [hVd.out]; simp only [hvb, if_true]; rw [if_neg (by omega)])
    have hbi : (1048576 : Int) < (countN m : Nat) := by omega
    go_wp2_with fail
    go_ret2
    exact ⟨by rw [e0.out]; rfl, hB6⟩
   ·have hbi : ¬ (1048576 : Int) < (countN m : Nat) := by omega
    have hraw1 := hraw.out (by simp) hvb
    have e0 : Hid (V = if ca ≠ 0 ∨ (0 ≤ pa ∧ 0 < (if bl then m.b0 else m.w0)) then (0, 9) else (((nn : Nat) : Int), 0)) := Lib.hid (by rw [hVd.out]; simp only [hvb, if_true]; rw [if_pos hsm])
    clear hVd hraw
    rcases h1 : (ca != 0) with _ | _
    ·have h1' : ca = 0 := by simpa using h1
     replace h1' := Lib.hid h1'
     rcases bl with _ | _
     ·have e0 : Hid (V = if ca ≠ 0 ∨ (0 ≤ pa ∧ 0 < m.w0) then (0, 9) else (((nn : Nat) : Int), 0)) := Lib.hid (by rw [e0.out]; rfl)
      by_cases h2 : 0 ≤ pa
      ·by_cases h3 : 0 < m.w0
       ·have e1 : Hid (V = (0, 9)) := Lib.hid (by rw [e0.out, if_pos]; right; exact ⟨h2, h3⟩)
        go_wp2_with fail
        go_ret2
        exact ⟨by rw [e1.out]; rfl, hB6⟩
       ·have e1 : Hid (V = (((nn : Nat) : Int), 0)) := Lib.hid (by rw [e0.out, if_neg]; have := h1'.out; omega)
        go_wp2_with fail
        refine (hraw1 w6 hx6).mono ?_
        rintro e w7 ⟨rfl, hb7⟩
        go_wp2_with fail
        go_ret2
        exact ⟨by rw [e1.out]; rfl, below_call hB6 hB6.size hb7⟩
      ·have e1 : Hid (V = (((nn : Nat) : Int), 0)) := Lib.hid (by rw [e0.out, if_neg]; have := h1'.out; omega)
       go_wp2_with fail
       refine (hraw1 w6 hx6).mono ?_
       rintro e w7 ⟨rfl, hb7⟩
       go_wp2_with fail
       go_ret2
       exact ⟨by rw [e1.out]; rfl, below_call hB6 hB6.size hb7⟩
     ·have e0 : Hid (V = if ca ≠ 0 ∨ (0 ≤ pa ∧ 0 < m.b0) then (0, 9) else (((nn : Nat) : Int), 0)) := Lib.hid (by rw [e0.out]; rfl)
      by_cases h2 : 0 ≤ pa
      ·by_cases h3 : 0 < m.b0
       ·have e1 : Hid (V = (0, 9)) := Lib.hid (by rw [e0.out, if_pos]; right; exact ⟨h2, h3⟩)
        go_wp2_with fail
        go_ret2
        exact ⟨by rw [e1.out]; rfl, hB6⟩
       ·have e1 : Hid (V = (((nn : Nat) : Int), 0)) := Lib.hid (by rw [e0.out, if_neg]; have := h1'.out; omega)
        go_wp2_with fail
        refine (hraw1 w6 hx6).mono ?_
        rintro e w7 ⟨rfl, hb7⟩
        go_wp2_with fail
        go_ret2
        exact ⟨by rw [e1.out]; rfl, below_call hB6 hB6.size hb7⟩
      ·have e1 : Hid (V = (((nn : Nat) : Int), 0)) := Lib.hid (by rw [e0.out, if_neg]; have := h1'.out; omega)
       go_wp2_with fail
       refine (hraw1 w6 hx6).mono ?_
       rintro e w7 ⟨rfl, hb7⟩
       go_wp2_with fail
       go_ret2
       exact ⟨by rw [e1.out]; rfl, below_call hB6 hB6.size hb7⟩
    ·have h1' : ca ≠ 0 := by simpa using h1
     have e1 : Hid (V = (0, 9)) := Lib.hid (by rw [e0.out, if_pos (.inl h1')])
     clear h1' e0
     rcases bl with _ | _
     all_goals
      go_wp2_with fail
      go_ret2
      exact ⟨by rw [e1.out]; rfl, hB6⟩
end Go.Proofs.YtnpomigmeieofaaGreatDoor
