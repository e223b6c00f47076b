import Derived.Test.YtnpomigmeieofaaGreatDoorS11
import Derived.Test.YtnpomigmeieofaaGreatDoorS41
import Derived.Test.YtnpomigmeieofaaGreatDoorS49
import Derived.Deep.CutRange
set_option maxHeartbeats 12800000
namespace Go.Proofs.YtnpomigmeieofaaGreatDoor
open Go.RowKit
attribute [local go_sem] Oper.semAt_some

set_option maxRecDepth 100000 in
theorem posOut_any (m : Men) (tot n : Nat) (hcnt : cntE m = ((tot : Int), 0)) (hn : tot ≤ n) (w : World) :
  Calls Tryz.prog 21 #[.agg m.cs.toArray, .int .i64 (n : Nat)] w fun e w' => e = .returned (.tuple #[.agg (posCs 0 0 none 0 0 false 0 0 0 0).toArray, .int .i64 3]) ∧ Below w.heap.size w w' := by
 have hM := ((HasO.new w (.cells m.cs.toArray 26)).alloc (.cells #[.int .i64 (n : Nat)] 3)).alloc (.cells (posCs 0 0 none 0 0 false 0 0 0 0).toArray 40)
 have hN := (HasO.new' (w.alloc (.cells m.cs.toArray 26)) (.cells #[.int .i64 (n : Nat)] 3) (q := w.heap.size + 1) (by simp)).alloc (.cells (posCs 0 0 none 0 0 false 0 0 0 0).toArray 40)
 have hR := HasO.new' ((w.alloc (.cells m.cs.toArray 26)).alloc (.cells #[.int .i64 (n : Nat)] 3)) (.cells (posCs 0 0 none 0 0 false 0 0 0 0).toArray 40) (q := w.heap.size + 2) (by simp)
 have hB := ((below_box w (.cells m.cs.toArray 26)).alloc (by simp) (.cells #[.int .i64 (n : Nat)] 3)).alloc (by simp; omega) (.cells (posCs 0 0 none 0 0 false 0 0 0 0).toArray 40)
 have hct := fun W => Count_any m W
 rw [hcnt] at hct
 have hn1 : (n : Int) ≥ tot := by omega
 clear hcnt hn
 refine (callsIn_wide (n := 3)).1 ?_
 refine callsIn_of_wp_marks Tryz.func21 rfl trivial ?_ rfl
 simp only [Tryz.ntmps21, List.size_toArray, List.length_cons, List.length_nil, Nat.reduceAdd, Nat.reduceSub, Array.replicate_succ, Array.replicate_zero, List.push_toArray, List.append_toArray, List.nil_append, List.cons_append]
 rw [wpIn_wide]
 go_upto_region 1 with fail
 show Code.wp _ _ _ _ (((w.alloc (.cells m.cs.toArray 26)).alloc (.cells #[.int .i64 (n : Nat)] 3)).alloc (.cells (posCs 0 0 none 0 0 false 0 0 0 0).toArray 40))
 generalize ((w.alloc (.cells m.cs.toArray 26)).alloc (.cells #[.int .i64 (n : Nat)] 3)).alloc (.cells (posCs 0 0 none 0 0 false 0 0 0 0).toArray 40) = w1 at *
 obtain ⟨q0, hq0⟩ : ∃ q, q = w.heap.size := ⟨_, rfl⟩
 rw [← hq0] at hM hN hR ⊢
 replace hq0 := Lib.hid hq0
 go_wp2_with (first | (refine wpList_loadO rfl 26 (.tmp 2) rfl q0 _ 26 rfl hM (by kernel_rfl) ?_) | fail)
 refine (hct w1).mono ?_
 rintro e w2 ⟨rfl, hb2⟩
 replace hN := hN.call hb2
 replace hR := hR.call hb2
 replace hB := below_call hB hB.size hb2
 clear hct hb2 hM
 have hc3 := hN.cells 0
 have hl3 := hN.lt
 have hn0 : ¬ (n : Int) < 0 := by omega
 go_wp2_with (first | (refine wpList_storeAgg rfl 40 (.tmp 4) (.tmp 35) rfl (q0 + 2) _ rfl rfl 40 _ hR (by kernel_rfl) rfl (by kernel_rfl) ?_; rintro w9 rfl) | fail)
 refine leave0 _ (results_ct (fn := Tryz.f21) Tryz.results21 rfl (setRow_hasO hR) (by kernel_rfl) (by kernel_rfl) rfl) ⟨rfl, setRow_below hB (by have := hq0.out; omega) hB.size⟩
end Go.Proofs.YtnpomigmeieofaaGreatDoor
namespace Go.Proofs.YtnpomigmeieofaaGreatDoor
open Go.RowKit

theorem pv_fac {f r : Int} {xs : List Int} {bl : Bool} {ca pa ha fu : Int} (h : pvB f r xs bl ca pa ha fu = true) : xs.length ≤ 64 ∧ xs.length = (ofM f r xs xs.length).sq ∧ ∃ k1 k2 : Nat, idxI xs 6 = k1 ∧ idxI xs (-6) = k2 ∧ k1 < xs.length ∧ k2 < xs.length ∧ kgI xs false = k1 ∧ kgI xs true = k2 := by
 unfold pvB at h
 rw [Bool.and_eq_true] at h
 obtain ⟨ho, hn⟩ := h
 obtain ⟨F, R, rfl, rfl, hF, hR, hlen, _⟩ := orthB_fact ho
 unfold pvN at hn
 simp only [Bool.and_eq_true, Bool.not_eq_true', decide_eq_false_iff_not] at hn
 obtain ⟨hk1, hk2, _⟩ := hn
 have e1 : kgI xs false = ((kgI xs false).toNat : Nat) := by omega
 have e2 : kgI xs true = ((kgI xs true).toNat : Nat) := by omega
 obtain ⟨a1, a2, _⟩ := king_idx e1
 obtain ⟨b1, b2, _⟩ := king_idx e2
 refine ⟨by rw [hlen]; exact Nat.mul_le_mul hF.2 hR.2, ?_, _, _, a1, b1, a2, b2, e1, e2⟩
 rw [hlen]
 show F * R = (((F : Int) * (R : Int))).toNat
 rw [← Int.natCast_mul, Int.toNat_natCast]
set_option maxRecDepth 100000 in
theorem lawMen_any (s : List UInt8) (m : Men) (w : World) (hs : s.length ≤ 2000000) (hp : parseC s = some m) : Calls Tryz.prog 31 #[.string (str s)] w fun e w' => e = .returned (.agg m.cs.toArray) ∧ Below w.heap.size w w' := by
 have hR := HasO.new w (.cells zeroMen.cs.toArray 26)
 have hB := below_box w (.cells zeroMen.cs.toArray 26)
 have hrp := fun W => refParse_any s W hs
 have hpr : parseR s = .tuple #[.agg m.cs.toArray, .bool true] := by unfold parseR; rw [hp]
 rw [hpr] at hrp
 clear hpr hp
 go_enter Tryz.func31, Tryz.ntmps31
 go_upto_region 1 with fail
 show Code.wp _ _ _ _ (w.alloc (.cells zeroMen.cs.toArray 26))
 generalize w.alloc (.cells zeroMen.cs.toArray 26) = w1 at *
 obtain ⟨q, hq⟩ : ∃ q, q = w.heap.size := ⟨_, rfl⟩
 rw [← hq] at hR ⊢
 replace hq := Lib.hid hq
 go_wp2_with fail
 refine (hrp w1).mono ?_
 rintro e w2 ⟨rfl, hb2⟩
 have hR2 := hR.call hb2
 have hB2 := below_call hB hB.size hb2
 have hM := HasO.new w2 (.cells m.cs.toArray 26)
 have hbM := below_box w2 (.cells m.cs.toArray 26)
 have hR3 := hR2.call hbM
 have hB3 := below_call hB2 hB2.size hbM
 clear hR hB hb2 hrp hR2 hB2 hbM
 go_upto_region 2 with fail
 show Code.wp _ _ _ _ (w2.alloc (.cells m.cs.toArray 26))
 generalize w2.alloc (.cells m.cs.toArray 26) = w3 at *
 generalize w2.heap.size = q2 at *
 go_wp2_with (first | (refine wpList_loadO rfl 26 (.tmp 3) rfl q2 _ 26 rfl hM (by kernel_rfl) ?_) | (refine wpList_storeAgg rfl 26 (.tmp 2) (.tmp 10) rfl q _ rfl rfl 26 _ hR3 (by kernel_rfl) rfl (men_one m) ?_; rintro w' rfl) | fail)
 refine bodyPost_ret (results_c1 (fn := Tryz.f31) Tryz.results31 rfl (setRow_hasO hR3) (by kernel_rfl)) rfl ?_
 exact ⟨rfl, setRow_below hB3 (by rw [hq.out]; exact Nat.le_refl _) hB3.size⟩
set_option maxRecDepth 100000 in
theorem sets_any (n : Nat) (v : Value) (L : List Men) (g2 : Nat) (S : List (List UInt8)) (hn : n = L.length) (hn1 : 1 ≤ n) (hn2 : n ≤ 900) (hSL : S.length = L.length) (hS : ∀ j, j < S.length → (S[j]?.getD []).length ≤ 2000000 ∧ parseC (S[j]?.getD []) = some (L[j]?.getD zeroMen))
  (w : World) (base : Nat) (hown : w.ownsRow base 26 12 v n (mensV L)) (hg2 : g2 < w.heap.size) (hcs : ∀ j, j < S.length → w.cell? ⟨g2, j, none⟩ = some (.string (str (S[j]?.getD [])))) :
  Calls Tryz.prog 34 #[v, .int .i64 0, .slice (some ⟨g2, 0, none⟩) S.length S.length] w fun e w' => e = .returned (.bool true) ∧ Below w.heap.size w w' := by
 obtain ⟨p, cp, rfl⟩ := own_form hown
 obtain ⟨g, hp⟩ : ∃ g, p = some ⟨g, 0, none⟩ := by
  rcases hown.2 with ⟨h1, h2⟩ | ⟨g, c, cur, h1, _⟩
  ·omega
  ·injection h1 with h1; exact ⟨g, h1⟩
 subst hp
 have hnS : n = S.length := by omega
 have hnSi : ¬ (n : Int) ≠ S.length := by omega
 replace hn := Lib.hid hn
 replace hSL := Lib.hid hSL
 replace hS := Lib.hid hS
 replace hnS := Lib.hid hnS
 go_enter Tryz.func34, Tryz.ntmps34
 go_wp2_with fail
 go_loopg [7] 1000 (fun q kv wr => ∃ j : Nat, ∃ wz, wz = wr ∧ q + j = 1000 ∧ j ≤ n ∧ kv = .int .i64 ((j : Nat) : Int) ∧ Below w.heap.size w wr)
 case atStart => exact ⟨0, _, rfl, rfl, by omega, rfl, Below.refl _ _⟩
 case round =>
  obtain ⟨j, w2, rfl, hq, hj, rfl, hB⟩ := hrel
  by_cases hlt : j < n
  ·have hjS : j < S.length := by have := hnS.out; omega
   have hii : (j : Int) < S.length := by omega
   have hown2 := own_call hown hB
   obtain ⟨x, hx⟩ : ∃ x, x = L[j]?.getD zeroMen := ⟨_, rfl⟩
   obtain ⟨t, ht⟩ : ∃ t, t = S[j]?.getD [] := ⟨_, rfl⟩
   obtain ⟨htl, hpt⟩ := hS.out j hjS
   rw [← ht] at htl hpt
   rw [← hx] at hpt
   have hme := fun W => men_neq x x W
   rw [decide_eq_true (rfl : x = x)] at hme
   have hgl := (hown2.lt g rfl).2
   have hg2l := Nat.lt_of_lt_of_le hg2 hB.size
   have hcx : ∀ i v, x.cs[i]? = some v → w2.cell? ⟨g, j * 12 + i, none⟩ = some v := fun i v hv => own_at hown2 (by omega) (by rw [← hx]; exact hv)
   have hct : w2.cell? ⟨g2, 0 + j, none⟩ = some (.string (str t)) := by rw [Nat.zero_add, ht]; exact (hB.cell (p := ⟨g2, j, none⟩) hg2).trans (hcs j hjS)
   replace hx := Lib.hid hx
   replace ht := Lib.hid ht
   clear hown2
   go_wp2_with fail
   refine wp_region_valsL (by kernel_rfl) (by kernel_rfl) [some 23, some 24, some 25, some 26, some 27, some 28, some 29, some 30, some 31, some 32] (by rfl) (by rfl) (fun i8 => match i8 with | 0 => .slice (some ⟨g, 0, none⟩) n cp | 1 => .int .i64 (j : Nat) | 2 => .pointer (some ⟨g, j * 12, none⟩) | 3 => .agg x.cs.toArray | 4 => .slice (some ⟨g2, 0, none⟩) S.length S.length | 5 => .int .i64 (j : Nat) | 6 => .pointer (some ⟨g2, 0 + j, none⟩) | 7 => .string (str t) | 8 => .agg x.cs.toArray | 9 => .bool false | _ => undef) (fun W => Below w2.heap.size w2 W) ((Below.refl _ _).drew) ?hstep ?hend
   case hstep =>
    intro i9 o9 f9 W ho hi hC hf K hK
    have hi : i9 < 10 := hi
    rcases i9 with _ | _ | _ | _ | _ | _ | _ | _ | _ | _ | i9
    ·exact st_move (og ho) (.tmp 0) (oo ho) (rd_out rfl rfl) (hK _ hC)
    ·exact st_move (og ho) (.tmp 7) (oo ho) (rd_out rfl rfl) (hK _ hC)
    ·exact st_index (og ho) 57 (.tmp 23) (.tmp 24) (oo ho) (ri 0 (da ho hf 0)) (ri 1 (da ho hf 1)) (index57 W g n cp j (by omega)) (hK _ hC)
    ·exact st_loadA (og ho) 26 (.tmp 25) (oo ho) (ri 2 (da ho hf 2)) x.cs (by kernel_rfl) (fun i v hv => (hC.cell (p := ⟨g, j * 12 + i, none⟩) hgl).trans (hcx i v hv)) (hK _ hC)
    ·exact st_move (og ho) (.tmp 2) (oo ho) (rd_out rfl rfl) (hK _ hC)
    ·exact st_move (og ho) (.tmp 7) (oo ho) (rd_out rfl rfl) (hK _ hC)
    ·exact st_index (og ho) 68 (.tmp 27) (.tmp 28) (oo ho) (ri 4 (da ho hf 4)) (ri 5 (da ho hf 5)) (index68 W g2 0 S.length S.length j (by omega)) (hK _ hC)
    ·exact st_loadS (og ho) 9 (.tmp 29) (oo ho) (ri 6 (da ho hf 6)) (by kernel_rfl) ((hC.cell (p := ⟨g2, 0 + j, none⟩) hg2l).trans hct) (hK _ hC)
    ·exact st_call1 (og ho) 31 (.tmp 30) #[9] (oo ho) (ri 7 (da ho hf 7)) (fun _ _ => rfl) (lawMen_any t x W htl hpt) (by (intro u w9 h9; rw [Ending.returned.inj h9.1]; exact hK _ (below_call hC hC.size h9.2))) (fun _ _ h => nomatch h.1) (fun _ h => nomatch h.1)
    ·exact st_bin (og ho) .neq 26 26 (.tmp 26) (.tmp 31) (oo ho) (ri 3 (da ho hf 3)) (ri 8 (da ho hf 8)) (men_guard .neq _ _ _ _ _) (hme W) (hK _ hC)
    ·omega
   case hend =>
    intro W hC
    simp only [putL, Act.put, List.setIfInBounds_toArray, List.set_cons_succ, List.set_cons_zero]
    have hB5 := below_call hB hB.size hC
    clear hcx hct hgl hg2l hme hB hC
    go_wp2_with fail
    go_roundg (gk - 1)
    case measure => omega
    case rel => exact ⟨j + 1, _, rfl, by omega, by omega, by go_num, hB5⟩
  ·have hii : ¬ (j : Int) < S.length := by have := hnS.out; omega
   go_wp2_with fail
   go_ret
   exact ⟨rfl, hB⟩
def men36 : Men := ⟨3, 6, 1, 0, 0, 0, 0, 1, 0, 0, 0, 0⟩
set_option maxRecDepth 100000 in
theorem men3x6_any (w : World) : Calls Tryz.prog 35 #[] w fun e w' => e = .returned (.agg men36.cs.toArray) ∧ Below w.heap.size w w' := by
 have hR := HasO.new w (.cells zeroMen.cs.toArray 26)
 have hB := below_box w (.cells zeroMen.cs.toArray 26)
 go_enter Tryz.func35, Tryz.ntmps35
 go_upto_region 1 with fail
 show Code.wp _ _ _ _ (w.alloc (.cells zeroMen.cs.toArray 26))
 generalize w.alloc (.cells zeroMen.cs.toArray 26) = w1 at *
 obtain ⟨q, hq⟩ : ∃ q, q = w.heap.size := ⟨_, rfl⟩
 rw [← hq] at hR ⊢
 replace hq := Lib.hid hq
 have hM := HasO.new w1 (.cells (⟨3, 6, 0, 0, 0, 0, 0, 0, 0, 0, 0, 0⟩ : Men).cs.toArray 26)
 have hbM := below_box w1 (.cells (⟨3, 6, 0, 0, 0, 0, 0, 0, 0, 0, 0, 0⟩ : Men).cs.toArray 26)
 have hR2 := hR.call hbM
 have hB2 := below_call hB hB.size hbM
 have hlt := hR.lt
 go_upto_region 2 with fail
 show Code.wp _ _ _ _ (w1.alloc (.cells (⟨3, 6, 0, 0, 0, 0, 0, 0, 0, 0, 0, 0⟩ : Men).cs.toArray 26))
 clear hR hB hbM
 generalize w1.alloc (.cells (⟨3, 6, 0, 0, 0, 0, 0, 0, 0, 0, 0, 0⟩ : Men).cs.toArray 26) = w2 at *
 generalize w1.heap.size = q2 at *
 have hA : Alt q2 (q2 + 1) w2 ((w2.setCell ⟨q2, 2, none⟩ (.int .i64 1)).setCell ⟨q2, 7, none⟩ (.int .i64 1)) := (Alt.setCell (p := ⟨q2, 2, none⟩) ⟨Nat.le_refl _, Nat.lt_succ_self _⟩).trans (Alt.setCell (p := ⟨q2, 7, none⟩) ⟨Nat.le_refl _, Nat.lt_succ_self _⟩)
 have hM2 : HasO ((w2.setCell ⟨q2, 2, none⟩ (.int .i64 1)).setCell ⟨q2, 7, none⟩ (.int .i64 1)) q2 (.cells men36.cs.toArray 26 (0, 0)) := (hM.set_ 2 (.int .i64 1)).set_ 7 (.int .i64 1)
 have hR3 := hA.hasO hR2 (by omega)
 have hB3 := hA.below hB2 (by have := hq.out; omega) hB2.size
 have hc := hM.cells
 have hf := hM.frozen
 have hl := hM.lt
 clear hA hR2 hB2 hM
 go_upto_region 3 with fail
 generalize (w2.setCell ⟨q2, 2, none⟩ (.int .i64 1)).setCell ⟨q2, 7, none⟩ (.int .i64 1) = w3 at *
 clear hc hf hl
 go_wp2_with (first | (refine wpList_loadO rfl 26 (.tmp 1) rfl q2 _ 26 rfl hM2 (by kernel_rfl) ?_) | (refine wpList_storeAgg rfl 26 (.tmp 0) (.tmp 8) rfl q _ rfl rfl 26 _ hR3 (by kernel_rfl) rfl (men_one men36) ?_; rintro w' rfl) | fail)
 refine bodyPost_ret (results_c1 (fn := Tryz.f35) Tryz.results35 rfl (setRow_hasO hR3) (by kernel_rfl)) rfl ?_
 exact ⟨rfl, setRow_below hB3 (by rw [hq.out]; exact Nat.le_refl _) hB3.size⟩
theorem size_same (f r : Int) (W : World) : (binOp .neq 23 (.agg #[.int .i64 f, .int .i64 r]) (.agg #[.int .i64 f, .int .i64 r])).run Tryz.prog W = .ok (.bool false) W := by
 simp [go_sem]
theorem neq8 (x : Int) (W : World) : (binOp .neq 81 (.int .i8 x) (.int .i8 x)).run Tryz.prog W = .ok (.bool false) W := by simp [go_sem]
theorem eql4 (b : Bool) (W : World) : (binOp .eql 4 (.bool b) (.bool b)).run Tryz.prog W = .ok (.bool true) W := by cases b <;> kernel_rfl
theorem eql5 (x : Int) (W : World) : (binOp .eql 5 (.int .u8 x) (.int .u8 x)).run Tryz.prog W = .ok (.bool true) W := by simp [go_sem]
set_option maxRecDepth 100000 in
theorem same03_any (f r : Int) (p1 p2 : Option Addr) (n c1 c2 : Nat) (xs : List Int) (hn : n = xs.length) (hn2 : n ≤ 900) (w : World) (h1 : Arr .i8 w p1 xs) (h2 : Arr .i8 w p2 xs) :
  Calls Tryz.prog 108 #[.agg (bdCs f r p1 n c1).toArray, .agg (bdCs f r p2 n c2).toArray] w fun e w' => e = .returned (.bool true) ∧ Below w.heap.size w w' := by
 have hA := (HasO.new w (.cells (bdCs f r p1 n c1).toArray 91)).alloc (.cells (bdCs f r p2 n c2).toArray 91)
 have hD := HasO.new' (w.alloc (.cells (bdCs f r p1 n c1).toArray 91)) (.cells (bdCs f r p2 n c2).toArray 91) (q := w.heap.size + 1) (by simp)
 have hB := (below_box w (.cells (bdCs f r p1 n c1).toArray 91)).alloc (by simp) (.cells (bdCs f r p2 n c2).toArray 91)
 have hsz := size_same f r
 replace h1 := h1.call hB
 replace h2 := h2.call hB
 replace hn := Lib.hid hn
 go_enter Tryz.func108, Tryz.ntmps108
 go_upto_region 1 with fail
 show Code.wp _ _ _ _ ((w.alloc (.cells (bdCs f r p1 n c1).toArray 91)).alloc (.cells (bdCs f r p2 n c2).toArray 91))
 generalize (w.alloc (.cells (bdCs f r p1 n c1).toArray 91)).alloc (.cells (bdCs f r p2 n c2).toArray 91) = w1 at *
 obtain ⟨q, hq⟩ : ∃ q, q = w.heap.size := ⟨_, rfl⟩
 rw [← hq] at hA hD ⊢
 replace hq := Lib.hid hq
 have hcA := hA.cells
 have hcD := hD.cells
 have hlA := hA.lt
 have hlD := hD.lt
 go_wp2_with fail
 go_loopg [5] 1000 (fun g kv wr => ∃ j : Nat, ∃ wz, wz = wr ∧ g + j = 1000 ∧ j ≤ n ∧ kv = .int .i64 ((j : Nat) : Int) ∧ Below w1.heap.size w1 wr)
 case atStart => exact ⟨0, _, rfl, rfl, by omega, rfl, Below.refl _ _⟩
 case round =>
  clear hcA hcD hlA hlD
  obtain ⟨j, w2, rfl, hg, hj, rfl, hB2⟩ := hrel
  replace hA := hA.call hB2
  replace hD := hD.call hB2
  have hcA := hA.cells
  have hlA := hA.lt
  by_cases hlt : j < n
  ·have hii : (j : Int) < n := by omega
   replace h1 := h1.call hB2
   replace h2 := h2.call hB2
   rcases h1 with h1 | ⟨b1, o1, rfl, hb1, hx1⟩
   ·have := hn.out; rw [h1] at this; simp at this; omega
   rcases h2 with h2 | ⟨b2, o2, rfl, hb2, hx2⟩
   ·have := hn.out; rw [h2] at this; simp at this; omega
   replace hx1 := hx1 j (by have := hn.out; omega)
   replace hx2 := hx2 j (by have := hn.out; omega)
   generalize xs[j]?.getD 0 = x at *
   go_wp2_with fail
   refine wp_region_valsL (by kernel_rfl) (by kernel_rfl) [some 27, some 28, some 29, some 30, some 31, some 32, some 33, some 34, some 35, some 36, some 37] (by rfl) (by rfl) (fun i8 => match i8 with | 0 => .pointer (some ⟨q, 0 + 2, none⟩) | 1 => .slice (some ⟨b1, o1, none⟩) n c1 | 2 => .int .i64 (j : Nat) | 3 => .pointer (some ⟨b1, o1 + j, none⟩) | 4 => .int .i8 x | 5 => .pointer (some ⟨(q + 1), 0 + 2, none⟩) | 6 => .slice (some ⟨b2, o2, none⟩) n c2 | 7 => .int .i64 (j : Nat) | 8 => .pointer (some ⟨b2, o2 + j, none⟩) | 9 => .int .i8 x | 10 => .bool false | _ => undef) (fun W => Below w2.heap.size w2 W) ((Below.refl _ _).drew) ?hstep ?hend
   case hstep =>
    intro i9 o9 f9 W ho hi hC hf K hK
    have hi : i9 < 11 := hi
    rcases i9 with _ | _ | _ | _ | _ | _ | _ | _ | _ | _ | _ | i9
    ·exact st_field (og ho) 91 (.tmp 2) 1 (oo ho) (rd_out rfl rfl) (n := 2) (by kernel_rfl) (hK _ hC)
    ·exact st_loadS (og ho) 38 (.tmp 27) (oo ho) (ri 0 (da ho hf 0)) (by kernel_rfl) ((hA.call hC).cells 2) (hK _ hC)
    ·exact st_move (og ho) (.tmp 5) (oo ho) (rd_out rfl rfl) (hK _ hC)
    ·exact st_index (og ho) 38 (.tmp 28) (.tmp 29) (oo ho) (ri 1 (da ho hf 1)) (ri 2 (da ho hf 2)) (index25 W b1 o1 n c1 j hlt) (hK _ hC)
    ·exact st_loadS (og ho) 81 (.tmp 30) (oo ho) (ri 3 (da ho hf 3)) (by kernel_rfl) ((hC.cell (p := ⟨b1, o1 + j, none⟩) hb1).trans hx1) (hK _ hC)
    ·exact st_field (og ho) 91 (.tmp 3) 1 (oo ho) (rd_out rfl rfl) (n := 2) (by kernel_rfl) (hK _ hC)
    ·exact st_loadS (og ho) 38 (.tmp 32) (oo ho) (ri 5 (da ho hf 5)) (by kernel_rfl) ((hD.call hC).cells 2) (hK _ hC)
    ·exact st_move (og ho) (.tmp 5) (oo ho) (rd_out rfl rfl) (hK _ hC)
    ·exact st_index (og ho) 38 (.tmp 33) (.tmp 34) (oo ho) (ri 6 (da ho hf 6)) (ri 7 (da ho hf 7)) (index25 W b2 o2 n c2 j hlt) (hK _ hC)
    ·exact st_loadS (og ho) 81 (.tmp 35) (oo ho) (ri 8 (da ho hf 8)) (by kernel_rfl) ((hC.cell (p := ⟨b2, o2 + j, none⟩) hb2).trans hx2) (hK _ hC)
    ·exact st_bin (og ho) .neq 81 81 (.tmp 31) (.tmp 36) (oo ho) (ri 4 (da ho hf 4)) (ri 9 (da ho hf 9)) (gu_i _ _ _ _ _ _ _ _) (neq8 x W) (hK _ hC)
    ·omega
   case hend =>
    intro W hC
    simp only [putL, Act.put, List.setIfInBounds_toArray, List.set_cons_succ, List.set_cons_zero]
    have hB5 := below_call hB2 hB2.size hC
    clear hcA hlA hA hD hx1 hx2 hb1 hb2 hC
    go_wp2_with fail
    go_roundg (gk - 1)
    case measure => omega
    case rel => exact ⟨j + 1, _, rfl, by omega, by omega, by go_num, hB5⟩
  ·have hii : ¬ (j : Int) < n := by omega
   go_wp2_with fail
   go_ret
   exact ⟨rfl, below_call hB hB.size hB2⟩
set_option maxRecDepth 100000 in
theorem same06_any (f r ca pa ha fu ha2 fu2 : Int) (bl : Bool) (p1 p2 : Option Addr) (n c1 c2 : Nat) (xs : List Int) (hn : n = xs.length) (hn2 : n ≤ 900) (w : World) (h1 : Arr .i8 w p1 xs) (h2 : Arr .i8 w p2 xs) :
  Calls Tryz.prog 51 #[.agg (posCs f r p1 n c1 bl ca pa ha fu).toArray, .agg (posCs f r p2 n c2 bl ca pa ha2 fu2).toArray] w fun e w' => e = .returned (.bool true) ∧ Below w.heap.size w w' := by
 have hA := (HasO.new w (.cells (posCs f r p1 n c1 bl ca pa ha fu).toArray 40)).alloc (.cells (posCs f r p2 n c2 bl ca pa ha2 fu2).toArray 40)
 have hD := HasO.new' (w.alloc (.cells (posCs f r p1 n c1 bl ca pa ha fu).toArray 40)) (.cells (posCs f r p2 n c2 bl ca pa ha2 fu2).toArray 40) (q := w.heap.size + 1) (by simp)
 have hB := (below_box w (.cells (posCs f r p1 n c1 bl ca pa ha fu).toArray 40)).alloc (by simp) (.cells (posCs f r p2 n c2 bl ca pa ha2 fu2).toArray 40)
 replace h1 := h1.call hB
 replace h2 := h2.call hB
 replace hn := Lib.hid hn
 go_enter Tryz.func51, Tryz.ntmps51
 go_upto_region 1 with fail
 show Code.wp _ _ _ _ ((w.alloc (.cells (posCs f r p1 n c1 bl ca pa ha fu).toArray 40)).alloc (.cells (posCs f r p2 n c2 bl ca pa ha2 fu2).toArray 40))
 generalize (w.alloc (.cells (posCs f r p1 n c1 bl ca pa ha fu).toArray 40)).alloc (.cells (posCs f r p2 n c2 bl ca pa ha2 fu2).toArray 40) = w1 at *
 obtain ⟨q, hq⟩ : ∃ q, q = w.heap.size := ⟨_, rfl⟩
 rw [← hq] at hA hD ⊢
 replace hq := Lib.hid hq
 refine wp_region_valsL (by kernel_rfl) (by kernel_rfl) [some 5, some 6, some 7, some 8, some 9, some 10, some 11, some 12, some 13, some 14, some 15, some 16, some 17, some 18, some 19, some 20, some 21, some 22, some 23, some 24, some 25, some 26, some 27, some 28, some 29, some 30, some 4] (by rfl) (by rfl) (fun i8 => match i8 with | 0 => .agg (posCs f r p1 n c1 bl ca pa ha fu).toArray | 1 => .agg (bdCs f r p1 n c1).toArray | 2 => .agg (posCs f r p2 n c2 bl ca pa ha2 fu2).toArray | 3 => .agg (bdCs f r p2 n c2).toArray | 4 => .bool true | 5 => .bool true | 6 => .pointer (some ⟨q, 0 + 3, none⟩) | 7 => .bool bl | 8 => .pointer (some ⟨(q + 1), 0 + 3, none⟩) | 9 => .bool bl | 10 => .bool true | 11 => .bool true | 12 => .bool true | 13 => .pointer (some ⟨q, 0 + 4, none⟩) | 14 => .int .u8 ca | 15 => .pointer (some ⟨(q + 1), 0 + 4, none⟩) | 16 => .int .u8 ca | 17 => .bool true | 18 => .bool true | 19 => .bool true | 20 => .pointer (some ⟨q, 0 + 5, none⟩) | 21 => .int .i64 pa | 22 => .pointer (some ⟨(q + 1), 0 + 5, none⟩) | 23 => .int .i64 pa | 24 => .bool true | 25 => .bool true | 26 => .bool true | _ => undef) (fun W => Below w1.heap.size w1 W) ((Below.refl _ _).drew) ?hstep ?hend
 case hstep =>
  intro i9 o9 f9 W ho hi hC hf K hK
  have hi : i9 < 27 := hi
  rcases i9 with _ | _ | _ | _ | _ | _ | _ | _ | _ | _ | _ | _ | _ | _ | _ | _ | _ | _ | _ | _ | _ | _ | _ | _ | _ | _ | _ | i9
  ·exact st_loadA (og ho) 40 (.tmp 2) (oo ho) (rd_out rfl rfl) (posCs f r p1 n c1 bl ca pa ha fu) (by kernel_rfl) (fun j v hv => by rw [Nat.zero_add, (hA.call hC).cells j]; simpa using hv) (hK _ hC)
  ·exact st_call1 (og ho) 52 (.tmp 5) #[40] (oo ho) (ri 0 (da ho hf 0)) (fun _ _ => rfl) (refOf_any f r ca pa ha fu bl p1 n c1 W) (by (intro u w9 h9; rw [Ending.returned.inj h9.1]; exact hK _ (below_call hC hC.size h9.2))) (fun _ _ h => nomatch h.1) (fun _ h => nomatch h.1)
  ·exact st_loadA (og ho) 40 (.tmp 3) (oo ho) (rd_out rfl rfl) (posCs f r p2 n c2 bl ca pa ha2 fu2) (by kernel_rfl) (fun j v hv => by rw [Nat.zero_add, (hD.call hC).cells j]; simpa using hv) (hK _ hC)
  ·exact st_call1 (og ho) 52 (.tmp 7) #[40] (oo ho) (ri 2 (da ho hf 2)) (fun _ _ => rfl) (refOf_any f r ca pa ha2 fu2 bl p2 n c2 W) (by (intro u w9 h9; rw [Ending.returned.inj h9.1]; exact hK _ (below_call hC hC.size h9.2))) (fun _ _ h => nomatch h.1) (fun _ h => nomatch h.1)
  ·exact st_call2 (og ho) 108 (.tmp 6) (.tmp 8) #[91, 91] (oo ho) (ri 1 (da ho hf 1)) (ri 3 (da ho hf 3)) (fun _ _ => rfl) (same03_any f r p1 p2 n c1 c2 xs hn.out hn2 W (h1.call hC) (h2.call hC)) (by (intro u w9 h9; rw [Ending.returned.inj h9.1]; exact hK _ (below_call hC hC.size h9.2))) (fun _ _ h => nomatch h.1) (fun _ h => nomatch h.1)
  ·exact st_move (og ho) (.tmp 9) (oo ho) (ri 4 (da ho hf 4)) (hK _ hC)
  ·exact gd (wo ho (dg ho hf 5)) (st_field rfl 40 (.tmp 2) 2 (oo ho) (rd_out rfl rfl) (n := 3) (by kernel_rfl) (hK _ hC))
  ·exact gd (wo ho (dg ho hf 5)) (st_loadS rfl 4 (.tmp 11) (oo ho) (ri 6 (da ho hf 6)) (by kernel_rfl) ((hA.call hC).cells 3) (hK _ hC))
  ·exact gd (wo ho (dg ho hf 5)) (st_field rfl 40 (.tmp 3) 2 (oo ho) (rd_out rfl rfl) (n := 3) (by kernel_rfl) (hK _ hC))
  ·exact gd (wo ho (dg ho hf 5)) (st_loadS rfl 4 (.tmp 13) (oo ho) (ri 8 (da ho hf 8)) (by kernel_rfl) ((hD.call hC).cells 3) (hK _ hC))
  ·exact gd (wo ho (dg ho hf 5)) (st_bin rfl .eql 4 4 (.tmp 12) (.tmp 14) (oo ho) (ri 7 (da ho hf 7)) (ri 9 (da ho hf 9)) (by kernel_rfl) (eql4 bl W) (hK _ hC))
  ·exact st_pickT (og ho) (.tmp 10) (.tmp 15) (.const (.bool false)) (oo ho) (ri 5 (da ho hf 5)) (ri 10 (da ho hf 10)) (hK _ hC)
  ·exact st_move (og ho) (.tmp 16) (oo ho) (ri 11 (da ho hf 11)) (hK _ hC)
  ·exact gd (wo ho (dg ho hf 12)) (st_field rfl 40 (.tmp 2) 3 (oo ho) (rd_out rfl rfl) (n := 4) (by kernel_rfl) (hK _ hC))
  ·exact gd (wo ho (dg ho hf 12)) (st_loadS rfl 5 (.tmp 18) (oo ho) (ri 13 (da ho hf 13)) (by kernel_rfl) ((hA.call hC).cells 4) (hK _ hC))
  ·exact gd (wo ho (dg ho hf 12)) (st_field rfl 40 (.tmp 3) 3 (oo ho) (rd_out rfl rfl) (n := 4) (by kernel_rfl) (hK _ hC))
  ·exact gd (wo ho (dg ho hf 12)) (st_loadS rfl 5 (.tmp 20) (oo ho) (ri 15 (da ho hf 15)) (by kernel_rfl) ((hD.call hC).cells 4) (hK _ hC))
  ·exact gd (wo ho (dg ho hf 12)) (st_bin rfl .eql 5 5 (.tmp 19) (.tmp 21) (oo ho) (ri 14 (da ho hf 14)) (ri 16 (da ho hf 16)) (gu_i _ _ _ _ _ _ _ _) (eql5 ca W) (hK _ hC))
  ·exact st_pickT (og ho) (.tmp 17) (.tmp 22) (.const (.bool false)) (oo ho) (ri 12 (da ho hf 12)) (ri 17 (da ho hf 17)) (hK _ hC)
  ·exact st_move (og ho) (.tmp 23) (oo ho) (ri 18 (da ho hf 18)) (hK _ hC)
  ·exact gd (wo ho (dg ho hf 19)) (st_field rfl 40 (.tmp 2) 4 (oo ho) (rd_out rfl rfl) (n := 5) (by kernel_rfl) (hK _ hC))
  ·exact gd (wo ho (dg ho hf 19)) (st_loadS rfl 3 (.tmp 25) (oo ho) (ri 20 (da ho hf 20)) (by kernel_rfl) ((hA.call hC).cells 5) (hK _ hC))
  ·exact gd (wo ho (dg ho hf 19)) (st_field rfl 40 (.tmp 3) 4 (oo ho) (rd_out rfl rfl) (n := 5) (by kernel_rfl) (hK _ hC))
  ·exact gd (wo ho (dg ho hf 19)) (st_loadS rfl 3 (.tmp 27) (oo ho) (ri 22 (da ho hf 22)) (by kernel_rfl) ((hD.call hC).cells 5) (hK _ hC))
  ·exact gd (wo ho (dg ho hf 19)) (st_bin rfl .eql 3 3 (.tmp 26) (.tmp 28) (oo ho) (ri 21 (da ho hf 21)) (ri 23 (da ho hf 23)) (gu_i _ _ _ _ _ _ _ _) (bin_eqlE (by simp)) (hK _ hC))
  ·exact st_pickT (og ho) (.tmp 24) (.tmp 29) (.const (.bool false)) (oo ho) (ri 19 (da ho hf 19)) (ri 24 (da ho hf 24)) (hK _ hC)
  ·exact st_assign (og ho) (.tmp 30) (oo ho) (ri 25 (da ho hf 25)) (hK _ hC)
  ·omega
 case hend =>
  intro W hC
  go_wp2_with fail
  refine bodyPost_ret (results_tmp (fn := Tryz.f51) Tryz.results51 _ _ _) (by rw [putL_defers]) ?_
  refine ⟨?_, below_call hB hB.size hC⟩
  rw [slot_in rfl 26 rfl (by simp) rfl]
  rfl
set_option maxRecDepth 100000 in
theorem equal_any (f r ca pa ha fu : Int) (bl : Bool) (p1 p2 : Option Addr) (n c1 c2 : Nat) (xs : List Int) (hn : n = xs.length) (hn2 : n ≤ 900) (w : World) (h1 : Arr .i8 w p1 xs) (h2 : Arr .i8 w p2 xs) :
  Calls Tryz.prog 17 #[.agg (posCs f r p1 n c1 bl ca pa ha fu).toArray, .agg (posCs f r p2 n c2 bl ca pa ha fu).toArray] w fun e w' => e = .returned (.bool true) ∧ Below w.heap.size w w' := by
 have hA := (HasO.new w (.cells (posCs f r p1 n c1 bl ca pa ha fu).toArray 40)).alloc (.cells (posCs f r p2 n c2 bl ca pa ha fu).toArray 40)
 have hD := HasO.new' (w.alloc (.cells (posCs f r p1 n c1 bl ca pa ha fu).toArray 40)) (.cells (posCs f r p2 n c2 bl ca pa ha fu).toArray 40) (q := w.heap.size + 1) (by simp)
 have hB := (below_box w (.cells (posCs f r p1 n c1 bl ca pa ha fu).toArray 40)).alloc (by simp) (.cells (posCs f r p2 n c2 bl ca pa ha fu).toArray 40)
 have hsm := fun W h1 h2 => same06_any f r ca pa ha fu ha fu bl p1 p2 n c1 c2 xs hn hn2 W h1 h2
 replace h1 := h1.call hB
 replace h2 := h2.call hB
 replace hn := Lib.hid hn
 go_enter Tryz.func17, Tryz.ntmps17
 go_upto_region 1 with fail
 show Code.wp _ _ _ _ ((w.alloc (.cells (posCs f r p1 n c1 bl ca pa ha fu).toArray 40)).alloc (.cells (posCs f r p2 n c2 bl ca pa ha fu).toArray 40))
 generalize (w.alloc (.cells (posCs f r p1 n c1 bl ca pa ha fu).toArray 40)).alloc (.cells (posCs f r p2 n c2 bl ca pa ha fu).toArray 40) = w1 at *
 obtain ⟨q, hq⟩ : ∃ q, q = w.heap.size := ⟨_, rfl⟩
 rw [← hq] at hA hD ⊢
 replace hq := Lib.hid hq
 replace hsm := hsm w1 h1 h2
 go_wp2_with (first | (refine wpList_loadO rfl 40 (.tmp 2) rfl q _ 40 rfl hA (by kernel_rfl) ?_) | (refine wpList_loadO rfl 40 (.tmp 3) rfl (q + 1) _ 40 rfl hD (by kernel_rfl) ?_) | fail)
 refine hsm.mono ?_
 rintro e w2 ⟨rfl, hb2⟩
 replace hA := hA.call hb2
 replace hD := hD.call hb2
 have hcA := hA.cells
 have hcD := hD.cells
 have hlA := hA.lt
 have hlD := hD.lt
 go_wp2_with fail
 go_ret
 exact ⟨by simp, below_call hB hB.size hb2⟩
structure PP (s wb : List UInt8) (rk : List (List UInt8)) (F R h u : Nat) (bl : Bool) : Prop where
 hs : s.length ≤ 1000
 hsp : spl 32 s = [[digC F, 120, digC R], wb, colS bl, [45], [45], [digC h], [digC u]]
 hwb : wb.length ≤ 1000
 hrk : spl 47 wb = rk
 hRl : R = rk.length
 hR : 3 ≤ R ∧ R ≤ 8
 hF : 3 ≤ F ∧ F ≤ 8
 hok : brdB F rk = true
 hh : h < 10
 hu : u < 10
 hpv : pvB F R (brdL rk R) bl 0 (-1) h u = true
theorem PP.parse {s wb : List UInt8} {rk : List (List UInt8)} {F R h u : Nat} {bl : Bool} (H : PP s wb rk F R h u bl) (w : World) :
  Calls Tryz.prog 33 #[.string (str s)] w fun e w' => (∃ p c, e = .returned (.tuple #[.agg (posCs F R p (R * F) c bl 0 (-1) h u).toArray, .bool true]) ∧ R * F ≤ c ∧ Arr .i8 w' p (brdL rk R)) ∧ Below w.heap.size w w' :=
 posParse_any s wb rk F R h u bl w H.hs H.hsp H.hwb H.hrk H.hRl H.hR H.hF H.hok H.hh H.hu H.hpv
set_option maxRecDepth 100000 in
theorem lawNumber_any (s wb : List UInt8) (rk : List (List UInt8)) (F R h u : Nat) (bl : Bool) (want : Nat) (H : PP s wb rk F R h u bl) (h8 : ∀ x ∈ brdL rk R, -128 ≤ x ∧ x ≤ 127) (hnum : numE F R (brdL rk R) bl 0 (-1) h u = ((want : Int), 0)) (w : World) (hg : GlobOk w) :
  Calls Tryz.prog 32 #[.string (str s), .int .i64 (want : Nat)] w fun e w' => e = .returned (.bool true) ∧ Below w.heap.size w w' := by
 have hpa := H.parse w
 have hlb : (brdL rk R).length = R * F := brdL_len H.hok R (by have := H.hRl; omega)
 have hRF : R * F ≤ 64 := Nat.mul_le_mul H.hR.2 H.hF.2
 have hnu := fun (p : Option Addr) (c : Nat) (W : World) (hc : R * F ≤ c) (hg : GlobOk W) (hx : Arr .i8 W p (brdL rk R)) => idxNumber_any F R 0 (-1) h u bl p c (brdL rk R) (by omega) (by rw [hlb]; omega) (by rw [hlb]; exact hc) h8 (fun h9 _ => (pv_fac h9).2) W hg hx
 rw [hnum, hlb] at hnu
 clear H h8 hnum
 replace hlb := Lib.hid hlb
 go_enter Tryz.func32, Tryz.ntmps32
 go_wp2_with fail
 refine hpa.mono ?_
 rintro e w2 ⟨⟨p, c, rfl, hcp, hx⟩, hb2⟩
 have hg2 := hg.call hb2
 have hQ := HasO.new w2 (.cells (posCs F R p (R * F) c bl 0 (-1) h u).toArray 40)
 have hbQ := below_box w2 (.cells (posCs F R p (R * F) c bl 0 (-1) h u).toArray 40)
 have hB3 := below_call hb2 hb2.size hbQ
 have hx3 := hx.call hbQ
 have hg3 := hg2.call hbQ
 have hnu3 := hnu p c _ hcp hg3 hx3
 clear hpa hnu hg hg2 hb2 hx hbQ
 obtain ⟨nn, hnn⟩ : ∃ x, x = R * F := ⟨_, rfl⟩
 rw [← hnn] at hQ hB3 hx3 hg3 hnu3 ⊢
 replace hnn := Lib.hid hnn
 go_upto_region 2 with fail
 show Code.wp _ _ _ _ (w2.alloc (.cells (posCs F R p nn c bl 0 (-1) h u).toArray 40))
 generalize w2.alloc (.cells (posCs F R p nn c bl 0 (-1) h u).toArray 40) = w3 at *
 generalize w2.heap.size = q2 at *
 go_wp2_with (first | (refine wpList_loadO rfl 40 (.tmp 5) rfl q2 _ 40 rfl hQ (by kernel_rfl) ?_) | fail)
 refine hnu3.mono ?_
 rintro e w4 ⟨rfl, hb4⟩
 have hB4 := below_call hB3 hB3.size hb4
 clear hnu3 hx3 hg3 hQ hB3 hb4
 go_wp2_with fail
 go_ret
 exact ⟨by simp, hB4⟩
end Go.Proofs.YtnpomigmeieofaaGreatDoor
