import Derived.Test.YtnpomigmeieofaaGreatDoorS07
import Derived.Test.YtnpomigmeieofaaGreatDoorS35
import Derived.Test.YtnpomigmeieofaaGreatDoorS43
import Derived.Deep.Cut
import Derived.Deep.CutRange
set_option maxHeartbeats 12800000
namespace Go.Proofs.YtnpomigmeieofaaGreatDoor
open Go.RowKit
open Go.Maps (Keyed bool_keyed keyOf_bool_mk)
attribute [local go_sem] Oper.semAt_some

set_option maxRecDepth 100000 in
theorem idxNumber_any (f r ca pa ha fu : Int) (bl : Bool) (p : Option Addr) (c : Nat) (xs : List Int) (hca : 0 ≤ ca ∧ ca < 256) (hl : xs.length ≤ 1000) (hcap : xs.length ≤ c) (h8 : ∀ x ∈ xs, -128 ≤ x ∧ x ≤ 127)
  (hfac : pvB f r xs bl ca pa ha fu = true → validB (ofM f r xs xs.length) = true → xs.length = (ofM f r xs xs.length).sq ∧ ∃ k1 k2 : Nat, idxI xs 6 = k1 ∧ idxI xs (-6) = k2 ∧ k1 < xs.length ∧ k2 < xs.length ∧ kgI xs false = k1 ∧ kgI xs true = k2)
  (w : World) (hg : GlobOk w) (hx : Arr .i8 w p xs) :
  Calls Tryz.prog 15 #[.agg (posCs f r p xs.length c bl ca pa ha fu).toArray] w fun e w' => e = .returned (.tuple #[.int .i64 (numE f r xs bl ca pa ha fu).1, .int .i64 (numE f r xs bl ca pa ha fu).2]) ∧ Below w.heap.size w w' := by
 have hA := HasO.new w (.cells (posCs f r p xs.length c bl ca pa ha fu).toArray 40)
 have hB := below_box w (.cells (posCs f r p xs.length c bl ca pa ha fu).toArray 40)
 have hx1 := hx.call hB
 have hg1 := hg.call hB
 have hof := fun W hg hx => idxOfP_any f r ca pa ha fu bl p c xs hca hl hcap h8 W hg hx
 obtain ⟨V, hV⟩ : ∃ V, V = numE f r xs bl ca pa ha fu := ⟨_, rfl⟩
 have hVd : V = if pvB f r xs bl ca pa ha fu then (if validB (ofM f r xs xs.length) then (if countN (ofM f r xs xs.length) ≤ 1048576 then
  (if ca ≠ 0 ∨ (0 ≤ pa ∧ 0 < (if bl then (ofM f r xs xs.length).b0 else (ofM f r xs xs.length).w0)) then (0, 9) else (((numN xs bl : Nat) : Int), 0)) else (0, 7)) else (0, 7)) else (0, 2) := hV
 obtain ⟨O, hO⟩ : ∃ O, O = ofE f r xs bl ca pa ha fu := ⟨_, rfl⟩
 have hOd : O = if pvB f r xs bl ca pa ha fu then (if validB (ofM f r xs xs.length) then (ofM f r xs xs.length, 0) else (zeroMen, 7)) else (zeroMen, 2) := hO
 have hOV : ofV f r xs bl ca pa ha fu = .tuple #[.agg O.1.cs.toArray, .int .i64 O.2] := by rw [hO]; rfl
 rw [hOV] at hof
 rw [← hV]
 have hgrp := fun j (hj : j < 10) => ofM_grp (f := f) (r := r) (xs := xs) (k := xs.length) hj
 have hglt := fun n0 => gN_lt (f := f) (r := r) (xs := xs) (n0 := n0)
 obtain ⟨D, hD⟩ : ∃ D, D = pvB f r xs bl ca pa ha fu := ⟨_, rfl⟩
 rw [← hD] at hOd hVd hfac
 obtain ⟨m, hm⟩ : ∃ m, m = ofM f r xs xs.length := ⟨_, rfl⟩
 rw [← hm] at hOd hVd hfac hgrp
 simp only [← hm] at hglt
 clear hV hOV hO
 replace hOd := Lib.hid hOd
 replace hfac := Lib.hid hfac
 replace hVd := Lib.hid hVd
 replace hD := Lib.hid hD
 replace hm := Lib.hid hm
 replace hx := Lib.hid hx
 clear hg
 refine (callsIn_wide (n := 3)).1 ?_
 refine callsIn_of_wp_marks Tryz.func15 rfl trivial ?_ rfl
 simp only [Tryz.ntmps15, List.size_toArray, List.length_cons, List.length_nil, Nat.reduceAdd, Nat.reduceSub, Array.replicate_succ, Array.replicate_zero, List.push_toArray, List.append_toArray, List.nil_append, List.cons_append]
 rw [wpIn_wide]
 have hc := hA.cells
 have hlc := hA.lt
 go_wp2_with fail
 show Calls _ _ _ (w.alloc (.cells (posCs f r p xs.length c bl ca pa ha fu).toArray 40)) _
 have hsz1 : (w.alloc (.cells (posCs f r p xs.length c bl ca pa ha fu).toArray 40)).heap.size = w.heap.size + 1 := by simp
 generalize w.alloc (.cells (posCs f r p xs.length c bl ca pa ha fu).toArray 40) = w1 at *
 refine (hof w1 hg1 hx1).mono ?_
 rintro e w2 ⟨rfl, hb2⟩
 have hA2 := hA.call hb2
 have hB2 := below_call hB hB.size hb2
 have hlt2 : w.heap.size < w2.heap.size := hA2.lt
 clear hA hB hx1 hg1 hof hc hlc hb2 hsz1
 rcases D with _ | _
 ·have e0 : Hid (V = (0, 2)) := Lib.hid (by rw [hVd.out]; rfl)
  obtain rfl : O = (zeroMen, 2) := by rw [hOd.out]; rfl
  have hT3 := HasO.new w2 (.cells zeroMen.cs.toArray 26)
  go_wp2_with (first | (refine wpList_storeAgg rfl 26 (.tmp 4) (.tmp 17) rfl w2.heap.size _ rfl rfl 26 _ hT3 (by kernel_rfl) rfl (men_one zeroMen) ?_; rintro w' rfl) | fail)
  refine leave0 _ (results_tmp2 rfl _ _ _) ⟨by rw [e0.out]; rfl, setRow_below (hB2.alloc hB2.size _) (by omega) (by simp; omega)⟩
 ·rcases hvb : validB m with _ | _
  ·have e0 : Hid (V = (0, 7)) := Lib.hid (by rw [hVd.out, hvb]; rfl)
   obtain rfl : O = (zeroMen, 7) := by rw [hOd.out, hvb]; rfl
   have hT3 := HasO.new w2 (.cells zeroMen.cs.toArray 26)
   go_wp2_with (first | (refine wpList_storeAgg rfl 26 (.tmp 4) (.tmp 17) rfl w2.heap.size _ rfl rfl 26 _ hT3 (by kernel_rfl) rfl (men_one zeroMen) ?_; rintro w' rfl) | fail)
   refine leave0 _ (results_tmp2 rfl _ _ _) ⟨by rw [e0.out]; rfl, setRow_below (hB2.alloc hB2.size _) (by omega) (by simp; omega)⟩
  ·obtain rfl : O = (m, 0) := by rw [hOd.out, hvb]; rfl
   have hT3 := HasO.new w2 (.cells zeroMen.cs.toArray 26)
   obtain ⟨w3, hw3⟩ : ∃ x, x = (w2.alloc (.cells zeroMen.cs.toArray 26)).setRow w2.heap.size m.cs.toArray := ⟨_, rfl⟩
   obtain ⟨q4, hq4⟩ : ∃ q, q = w2.heap.size := ⟨_, rfl⟩
   have hM3 : HasO w3 q4 (.cells m.cs.toArray 26 (0, 0)) := by rw [hw3, hq4]; exact setRow_hasO hT3
   have hB3 : Below w.heap.size w w3 := by rw [hw3]; exact setRow_below (hB2.alloc hB2.size _) (by omega) (by simp; omega)
   have hA3 : HasO w3 w.heap.size (.cells (posCs f r p xs.length c bl ca pa ha fu).toArray 40 (0, 0)) := by rw [hw3]; exact (hA2.alloc _).setRow_far (by omega)
   have hq40 : w.heap.size < q4 := by omega
   have hc3 := hM3.cells
   have hl3 := hM3.lt
   have hco := Count_any m
   have hi41 : Hid ((Tryz.prog.info? 26).map (·.size) = some zeroMen.cs.toArray.size) := Lib.hid (by kernel_rfl)
   replace hw3 := Lib.hid hw3
   rw [hq4] at hc3 hl3
   go_wp2_with (first | (refine wpList_storeTo hw3 rfl 26 (.tmp 4) (.tmp 17) rfl rfl rfl 26 _ hT3 hi41.out rfl (men_one m) ?_) | fail)
   refine (hco _).mono ?_
   rintro e w4 ⟨rfl, hb4⟩
   rw [← hq4]
   have hA4 := hA3.call hb4
   have hM4 := hM3.call hb4
   have hB4 := below_call hB3 hB3.size hb4
   clear hA3 hM3 hB3 hb4 hw3 hc3 hl3 hT3 hi41 hco hq4 hA2 hB2 hlt2
   rcases Nat.lt_or_ge 1048576 (countN m) with hbig | hsm
   ·have e0 : Hid (V = (0, 7)) := Lib.hid (by rw [hVd.out]; simp only [hvb, if_true]; rw [if_neg (by omega)])
    have ec : cntE m = (0, 7) := by unfold cntE; rw [if_pos hvb, if_neg (by omega)]
    rw [ec]
    go_wp2_with fail
    refine leave0 _ (results_tmp2 rfl _ _ _) ⟨by rw [e0.out]; rfl, hB4⟩
   ·have e0 : Hid (V = if ca ≠ 0 ∨ (0 ≤ pa ∧ 0 < (if bl then m.b0 else m.w0)) then (0, 9) else (((numN xs bl : Nat) : Int), 0)) := Lib.hid (by rw [hVd.out]; simp only [hvb, if_true]; rw [if_pos hsm])
    have ec : cntE m = (((countN m : Nat) : Int), 0) := by unfold cntE; rw [if_pos hvb, if_pos hsm]
    rw [ec]
    clear hVd ec hOd
    have hmm := @run_makeMap Tryz.prog
    have hm5 := World.ownsMap_made (H := Unit) w4 Tryz.prog 4 (plainElem Tryz.prog 3)
    have hM5 := hM4.alloc (.map #[] 0)
    have hA5 := hA4.alloc (.map #[] 0)
    have hB5 := hB4.alloc hB4.size (.map #[] 0)
    have hq4l := hM4.lt
    have hw5 : (Lit.int .i64 m.w0).wf = true ∧ (Lit.int .i64 m.b0).wf = true := by
     have := menOk_at (validB_ok hvb) (k := 0) (by omega)
     have h1 : m.sw 0 = m.w0 := rfl
     have h2 : m.sb 0 = m.b0 := rfl
     rw [h1, h2] at this
     exact ⟨WalkArith.wf_i64 (by omega), WalkArith.wf_i64 (by omega)⟩
    obtain ⟨wf1, wf2⟩ := hw5
    have hc5 := hM5.cells
    obtain ⟨pw, hpw⟩ : ∃ pw, pw = if bl then m.b0 else m.w0 := ⟨_, rfl⟩
    rw [← hpw] at e0
    replace hpw := Lib.hid hpw
    go_upto_region 7 with (first
     | (refine wpList_lookup_own_int _ rfl _ _ 76 rfl 4 3 .i64 Tryz.law4 Tryz.underlying76 Tryz.underlying3 (Tryz.zero3 _) w4.heap.size _ _ rfl hm7 _ _ rfl (keyOf_bool_mk Tryz.underlying4 _) ?_; intro c9 hat9 hwc9; obtain rfl : pw = c9 := hpw.out.trans (two_at _ _ _ _ hat9).symm)
     | (refine wpList_insert_own _ rfl _ _ _ 76 rfl 4 3 Tryz.law4 Tryz.underlying76 _ w4.heap.size _ _ rfl hm6 (by unfold maxLen; omega) _ _ _ rfl rfl (keyOf_bool_mk Tryz.underlying4 _) _ [] (plainElem_int Tryz.underlying3 wf2) ?_
        intro w7 hm7 hgr7
        have hM7 := hM6.grown hgr7 (by simp; omega)
        have hA7 := hA6.grown hgr7 (by simp; omega)
        have hB7 := below_grown hB6 hgr7 (by omega) hB6.size
        have hc7 := hA7.cells
        have hl7 := hA7.lt)
     | (refine wpList_insert_own _ rfl _ _ _ 76 rfl 4 3 Tryz.law4 Tryz.underlying76 _ w4.heap.size _ _ rfl hm5 (by unfold maxLen; omega) _ _ _ rfl rfl (keyOf_bool_mk Tryz.underlying4 _) _ [] (plainElem_int Tryz.underlying3 wf1) ?_
        intro w6 hm6 hgr6
        have hM6 := hM5.grown hgr6 (by simp; omega)
        have hA6 := hA5.grown hgr6 (by simp; omega)
        have hB6 := below_grown hB5 hgr6 (by omega) hB5.size
        have hc6 := hM6.cells
        have hl6 := hM6.lt)
     | fail)
    go_cut [51] from 40 to 51 (fun cv wx => cv = .bool (decide (ca ≠ 0 ∨ (0 ≤ pa ∧ 0 < pw))) ∧ wx = w7)
    case first =>
     rcases h1 : (ca != 0) with _ | _
     ·have h1' : ca = 0 := by simpa using h1
      replace h1' := Lib.hid h1'
      by_cases h2 : 0 ≤ pa
      ·by_cases h3 : 0 < pw
       ·go_wp2_with fail
        go_meet
        exact ⟨by rw [decide_eq_true (by omega)], rfl⟩
       ·go_wp2_with fail
        go_meet
        exact ⟨by rw [decide_eq_false (by have := h1'.out; omega)], rfl⟩
      ·go_wp2_with fail
       go_meet
       exact ⟨by rw [decide_eq_false (by have := h1'.out; omega)], rfl⟩
     ·have h1' : ca ≠ 0 := by simpa using h1
      replace h1' := Lib.hid h1'
      go_wp2_with fail
      go_meet
      exact ⟨by rw [decide_eq_true (.inl h1'.out)], rfl⟩
    case rest =>
     obtain ⟨rfl, rfl⟩ := hcut
     by_cases hb : ca ≠ 0 ∨ (0 ≤ pa ∧ 0 < pw)
     ·have e1 : Hid (V = (0, 9)) := Lib.hid (by rw [e0.out, if_pos hb])
      rw [decide_eq_true hb]
      go_wp2_with fail
      refine leave0 _ (results_tmp2 rfl _ _ _) ⟨by rw [e1.out]; rfl, hB7⟩
     ·have e1 : Hid (V = (((numN xs bl : Nat) : Int), 0)) := Lib.hid (by rw [e0.out, if_neg hb])
      rw [decide_eq_false hb]
      replace hb := Lib.hid hb
      clear e0 hpw hc5 hc6 hl6 hgr6 hgr7 hm5 hm6 hm7 hM5 hA5 hB5 hM6 hA6 hB6 hA4 hM4 hB4 hmm wf1 wf2 hwc9 hat9 hc7 hl7
      go_wp2_with fail
      refine wp_region_relL (by kernel_rfl) (by kernel_rfl) [some 52, some 53, some 54, some 55, some 8, some 7, none] (by rfl) (by rfl) (wyR wc (.pointer (some ⟨w.heap.size, 0 + 2, none⟩)) (.slice p xs.length c) (.int .i64 xs.length)) (fun S S9 f9 W hS h => wy_congr S S9 f9 W hS h) (fun f9 => wy_init f9) ?hstep ?hend
      case hstep =>
       intro S i9 o9 f9 W ho hi hSj hpre hcl hR K hK
       have hi : i9 < 7 := hi
       have hR0 := hR
       obtain ⟨hC, h0, h1, h2, h3, h4, h5, h6⟩ := hR0
       rcases i9 with _ | _ | _ | _ | _ | _ | _ | i9
       ·exact st_field (og ho) 40 (.tmp 1) 1 (oo ho) (rd_out rfl rfl) (n := 2) (by kernel_rfl) (hK _ _ (wy_0 hR))
       ·exact st_loadS (og ho) 38 (.tmp 52) (oo ho) (ri 0 (h0 (da ho hpre 0))) (by kernel_rfl) ((hA7.call hC).cells 2) (hK _ _ (wy_1 hR))
       ·exact st_len (og ho) (.tmp 53) 38 (oo ho) Tryz.underlying38 (ri 1 (h1 (da ho hpre 1))) (hK _ _ (wy_2 hR))
       ·exact st_call0 (og ho) 46 (oo ho) (fun _ _ => rfl) (ways_any W) (by rintro u w9 ⟨g, h9, hw9⟩; injection h9 with h9; subst h9; exact hK _ _ (wy_3 hR hSj hw9.1 (Nat.le_trans hC.size hw9.2.1) ⟨hw9.2.2.1, fun n k hn hk => ways_cell hw9 (Below.refl _ _) hn hk⟩)) (by rintro ch w9 ⟨g, h9, _⟩; cases h9) (by rintro w9 ⟨g, h9, _⟩; cases h9)
       ·exact st_alloc (og ho) 77 (oo ho) (alloc118 W) (hK _ _ (wy_4 hR hSj))
       ·exact st_assign (og ho) (.tmp 54) (oo ho) (ri 2 (h2 (da ho hpre 2))) (hK _ _ (wy_5 hR))
       ·obtain ⟨q, e4, _, x, hxq, _⟩ := h4 (da ho hpre 4)
        obtain ⟨g, e3, _, _⟩ := h3 (da ho hpre 3)
        exact st_storeS (og ho) 77 (.tmp 8) (.tmp 55) (oo ho) (ri 4 e4) (ri 3 rfl) (by kernel_rfl) (by rw [e3]; rfl) (hxq.cells 0) (hxq.frozen 0) (hK _ _ (wy_6 hR (da ho hpre 3) (da ho hpre 4) e4))
       ·omega
      case hend =>
       intro S f9 W hS hR
       obtain ⟨hC, h0, h1, h2, h3, h4, h5, h6⟩ := hR
       have e52 := h0 (hS 0 (by decide))
       obtain ⟨g, e3, hgl, htab⟩ := h3 (hS 3 (by decide))
       obtain ⟨q8, e4, hq8, x, hX8, hx8⟩ := h4 (hS 4 (by decide))
       have e5 := h5 (hS 5 (by decide))
       rw [hx8 (hS 6 (by decide)), e3] at hX8
       clear h0 h1 h2 h3 h4 h5 h6 hx8
       simp only [putL, Act.put, List.setIfInBounds_toArray, List.set_cons_succ, List.set_cons_zero]
       rw [e3, e4, e5]
       clear e3 e4 e5 e52 hS
       generalize f9 0 = u0, f9 1 = u1, f9 2 = u2, f9 6 = u6
       have hA8 := hA7.call hC
       have hM8 := hM7.call hC
       have hB8 := below_call hB7 hB7.size hC
       have hq80 : w.heap.size < q8 := Nat.lt_of_lt_of_le hA7.lt hq8
       clear hA7 hM7 hB7 hC
       obtain ⟨hsq, k1, k2, hk1, hk2, hl1, hl2, hg1, hg2⟩ := hfac.out (by simp) hvb
       have h64 := (validB_sq hvb).2.2
       obtain ⟨nb, hnb⟩ : ∃ nb : Nat, nb = if bl then 1 else 0 := ⟨_, rfl⟩
       have hnb1 : nb ≤ 1 := by rw [hnb]; split <;> omega
       obtain ⟨ln, hln⟩ : ∃ ln, ln = xs.length := ⟨_, rfl⟩
       have hln64 : ln ≤ 64 := by omega
       have hkl1 : k1 < ln := by omega
       have hkl2 : k2 < ln := by omega
       rw [← hln] at hsq hl hcap
       have t1 := Nat.mul_le_mul hnb1 hln64
       have t2 := Nat.mul_le_mul (show nb * ln + k1 ≤ 128 by omega) hln64
       have b1m : IntKind.i64.wrap ((nb : Int) * (ln : Int)) = ((nb * ln : Nat) : Int) := by rw [← Int.natCast_mul]; exact IntWalk.i64_in _ (by omega)
       have b1a : IntKind.i64.wrap (((nb * ln : Nat) : Int) + (k1 : Int)) = ((nb * ln + k1 : Nat) : Int) := by rw [← Int.natCast_add]; exact IntWalk.i64_in _ (by omega)
       have b2m : IntKind.i64.wrap (((nb * ln + k1 : Nat) : Int) * (ln : Int)) = (((nb * ln + k1) * ln : Nat) : Int) := by rw [← Int.natCast_mul]; exact IntWalk.i64_in _ (by omega)
       have b2a : IntKind.i64.wrap ((((nb * ln + k1) * ln : Nat) : Int) + (k2 : Int)) = (((nb * ln + k1) * ln + k2 : Nat) : Int) := by rw [← Int.natCast_add]; exact IntWalk.i64_in _ (by omega)
       have hnum : numN xs bl = gN xs ln ((nb * ln + k1) * ln + k2) 10 := by unfold numN; rw [hg1, hg2, ← hnb, ← hln, Int.toNat_natCast, Int.toNat_natCast]
       have hfin := hglt ((nb * ln + k1) * ln + k2) hvb (by rw [← hln]; exact hsq) (by rw [← hln, hnb]; exact num0_lt bl hkl1 hkl2)
       rw [← hln] at hfin
       rw [hnum] at e1
       have hi1 := fun W hx => index_any p c xs 6 W hx (by omega)
       have hi2 := fun W hx => index_any p c xs (-6) W hx (by omega)
       rw [hk1, ← hln] at hi1
       rw [hk2, ← hln] at hi2
       rw [← hln] at hA8 ⊢
       replace hx := hx.out
       clear hfac hglt hk1 hk2 hl1 hl2 hg1 hg2 hnum
       replace hln := Lib.hid hln
       replace hsq := Lib.hid hsq
       replace hnb := Lib.hid hnb
       have hmm := @run_makeMap Tryz.prog
       have hm9 := World.ownsMap_made (H := Unit) W Tryz.prog 4 (plainElem Tryz.prog 3)
       have hA9 := hA8.alloc (.map #[] 0)
       have hM9 := hM8.alloc (.map #[] 0)
       have hX9 := hX8.alloc (.map #[] 0)
       have hB9 := hB8.alloc hB8.size (.map #[] 0)
       have hT9 := htab.call (below_box W (.map #[] 0))
       have hWl := hA8.lt
       have hWq4 := hM8.lt
       have hWq8 := hX8.lt
       have hWg := htab.1
       clear hA8 hM8 hX8 hB8 htab
       go_wp2_with (first
        | (refine wpList_lookup_own_int _ rfl _ _ 76 rfl 4 3 .i64 Tryz.law4 Tryz.underlying76 Tryz.underlying3 (Tryz.zero3 _) W.heap.size _ _ rfl hm10 _ _ rfl (keyOf_bool_mk Tryz.underlying4 _) ?_; intro c9 hat9 hwc9; obtain rfl : c9 = (nb : Int) := (one_at _ _ _ hat9).trans (by rw [hnb.out]; split <;> rfl))
        | (refine wpList_insert_own _ rfl _ _ _ 76 rfl 4 3 Tryz.law4 Tryz.underlying76 _ W.heap.size _ _ rfl hm9 (by unfold maxLen; omega) _ _ _ rfl rfl (keyOf_bool_mk Tryz.underlying4 _) _ [] (plainElem_int Tryz.underlying3 (by decide)) ?_
           intro w10 hm10 hgr
           have hA10 := hA9.grown hgr (by simp; omega)
           have hM10 := hM9.grown hgr (by simp; omega)
           have hX10 := hX9.grown hgr (by simp; omega)
           have hB10 := below_grown hB9 hgr (by omega) hB9.size
           have hT10 : TabW g w10 := hT9.alt (lo := W.heap.size) (hi := W.heap.size + 1) ⟨hgr.os, hgr.tape, hgr.output, hgr.size, fun k hk h => hgr.block k hk (fun e => by injection e with e; omega)⟩ (by omega)
           have hc10 := hA10.cells
           have hl10 := hA10.lt)
        | fail)
       have hN := HasO.new w10 (.cells #[.int .i64 (nb : Int)] 3)
       have hA := hA10.alloc (.cells #[.int .i64 (nb : Int)] 3)
       have hM := hM10.alloc (.cells #[.int .i64 (nb : Int)] 3)
       have hX := hX10.alloc (.cells #[.int .i64 (nb : Int)] 3)
       have hB := hB10.alloc hB10.size (.cells #[.int .i64 (nb : Int)] 3)
       have hT := hT10.call (below_box w10 (.cells #[.int .i64 (nb : Int)] 3))
       have hq9a := hM10.lt
       have hq9b := hX10.lt
       have hq9c := hT10.1
       obtain ⟨q9, hq9⟩ : ∃ q, q = w10.heap.size := ⟨_, rfl⟩
       rw [← hq9] at hN hq9a hq9b hq9c hl10 ⊢
       show Code.wp _ _ _ _ (w10.alloc (.cells #[.int .i64 (nb : Int)] 3))
       generalize w10.alloc (.cells #[.int .i64 (nb : Int)] 3) = w9 at *
       have hx9 : Arr .i8 w9 p xs := hx.call hB
       clear hA9 hM9 hX9 hB9 hT9 hm9 hm10 hgr hA10 hM10 hX10 hB10 hT10 hc10 hwc9 hat9 hmm hq9 hWl hWq4 hWq8 hWg
       refine wp_region_last (by kernel_rfl) (by kernel_rfl) [some 61, some 62, some 63, some 64, some 65, some 66, some 67, none] (by rfl) (by rfl) 7 (by rfl) (by kernel_rfl) (fun i8 => match i8 with | 0 => .int .i64 ((nb : Nat) : Int) | 1 => .int .i64 ((ln : Nat) : Int) | 2 => .int .i64 ((nb * ln : Nat) : Int) | 3 => .pointer (some ⟨w.heap.size, 0 + 2, none⟩) | 4 => .slice p ln c | 5 => .int .i64 ((k1 : Nat) : Int) | 6 => .int .i64 ((nb * ln + k1 : Nat) : Int) | _ => undef) (fun W => Below w9.heap.size w9 W) (fun W => ∃ W0, Below w9.heap.size w9 W0 ∧ W = W0.setCell ⟨q9, 0, none⟩ (.int .i64 ((nb * ln + k1 : Nat) : Int))) ((Below.refl _ _).drew) ?hstep ?hturn ?hend
       case hstep =>
        intro i9 o9 f9 W ho hi hne hC hf K hK
        have hi : i9 < 8 := hi
        rcases i9 with _ | _ | _ | _ | _ | _ | _ | i9
        ·exact st_loadS (og ho) 3 (.tmp 9) (oo ho) (rd_out rfl rfl) (by kernel_rfl) ((hN.call hC).cells 0) (hK _ hC)
        ·exact st_move (og ho) (.tmp 7) (oo ho) (rd_out rfl rfl) (hK _ hC)
        ·exact st_bin (og ho) .mul 3 3 (.tmp 61) (.tmp 62) (oo ho) (ri 0 (da ho hf 0)) (ri 1 (da ho hf 1)) (gu_i _ _ _ _ _ _ _ _) (bin_mulE b1m) (hK _ hC)
        ·exact st_field (og ho) 40 (.tmp 1) 1 (oo ho) (rd_out rfl rfl) (n := 2) (by kernel_rfl) (hK _ hC)
        ·exact st_loadS (og ho) 38 (.tmp 64) (oo ho) (ri 3 (da ho hf 3)) (by kernel_rfl) ((hA.call hC).cells 2) (hK _ hC)
        ·exact st_call2 (og ho) 47 (.tmp 65) (.const (.int .i8 6)) #[38, 81] (oo ho) (ri 4 (da ho hf 4)) rfl (fun _ _ => rfl) (hi1 W (hx9.call hC)) (by rintro u w9 ⟨h9, hb9⟩; injection h9 with h9; subst h9; exact hK _ (below_call hC hC.size hb9)) (fun _ _ h => nomatch h.1) (fun _ h => nomatch h.1)
        ·exact st_bin (og ho) .add 3 3 (.tmp 63) (.tmp 66) (oo ho) (ri 2 (da ho hf 2)) (ri 5 (da ho hf 5)) (gu_i _ _ _ _ _ _ _ _) (bin_addE b1a) (hK _ hC)
        ·omega
       case hturn =>
        intro o9 f9 W ho hC hf K hK
        exact st_storeS (og ho) 3 (.tmp 9) (.tmp 67) (oo ho) (rd_out rfl rfl) (ri 6 (da ho hf 6)) (by kernel_rfl) (by rfl) ((hN.call hC).cells 0) ((hN.call hC).frozen 0) (hK _ (⟨W, hC, rfl⟩))
       case hend =>
        rintro f9 W' ⟨W0, hC, rfl⟩ hf
        have hN1 : HasO (W0.setCell ⟨q9, 0, none⟩ (.int .i64 ((nb * ln + k1 : Nat) : Int))) q9 (.cells #[.int .i64 ((nb * ln + k1 : Nat) : Int)] 3 (0, 0)) := (hN.call hC).set_ 0 _
        have ha : Alt q9 (q9 + 1) W0 (W0.setCell ⟨q9, 0, none⟩ (.int .i64 ((nb * ln + k1 : Nat) : Int))) := Alt.setCell ⟨Nat.le_refl _, Nat.lt_succ_self _⟩
        have hB1 := ha.below (below_call hB hB.size hC) (by omega) (below_call hB hB.size hC).size
        have hA1 := ha.hasO (hA.call hC) (by omega)
        have hM1 := ha.hasO (hM.call hC) (by omega)
        have hX1 := ha.hasO (hX.call hC) (by omega)
        have hT1 := (hT.call hC).alt ha (by omega)
        have hx1 : Arr .i8 (W0.setCell ⟨q9, 0, none⟩ (.int .i64 ((nb * ln + k1 : Nat) : Int))) p xs := hx.call hB1
        simp only [putL, Act.put, List.setIfInBounds_toArray, List.set_cons_succ, List.set_cons_zero]
        clear hf hN hA hM hX hB hT hx9 hC b1m b1a hi1
        generalize (W0.setCell ⟨q9, 0, none⟩ (.int .i64 ((nb * ln + k1 : Nat) : Int))) = w9 at *
        rename HasO w9 q9 _ => hN
        rename HasO w9 w.heap.size _ => hA
        rename HasO w9 q4 _ => hM
        rename HasO w9 q8 _ => hX
        rename Below w.heap.size w w9 => hB
        rename TabW g w9 => hT
        rename Arr .i8 w9 p xs => hx9
        clear ha
        generalize f9 0 = u0, f9 1 = u1, f9 2 = u2, f9 3 = u3, f9 4 = u4, f9 5 = u5, f9 6 = u6, f9 7 = u7
        go_wp2_with fail
        refine wp_region_last (by kernel_rfl) (by kernel_rfl) [some 68, some 69, some 70, some 71, some 72, some 73, some 74, none] (by rfl) (by rfl) 7 (by rfl) (by kernel_rfl) (fun i8 => match i8 with | 0 => .int .i64 (((nb * ln + k1) : Nat) : Int) | 1 => .int .i64 ((ln : Nat) : Int) | 2 => .int .i64 (((nb * ln + k1) * ln : Nat) : Int) | 3 => .pointer (some ⟨w.heap.size, 0 + 2, none⟩) | 4 => .slice p ln c | 5 => .int .i64 ((k2 : Nat) : Int) | 6 => .int .i64 (((nb * ln + k1) * ln + k2 : Nat) : Int) | _ => undef) (fun W => Below w9.heap.size w9 W) (fun W => ∃ W0, Below w9.heap.size w9 W0 ∧ W = W0.setCell ⟨q9, 0, none⟩ (.int .i64 (((nb * ln + k1) * ln + k2 : Nat) : Int))) ((Below.refl _ _).drew) ?hstep ?hturn ?hend
        case hstep =>
         intro i9 o9 f9 W ho hi hne hC hf K hK
         have hi : i9 < 8 := hi
         rcases i9 with _ | _ | _ | _ | _ | _ | _ | i9
         ·exact st_loadS (og ho) 3 (.tmp 9) (oo ho) (rd_out rfl rfl) (by kernel_rfl) ((hN.call hC).cells 0) (hK _ hC)
         ·exact st_move (og ho) (.tmp 7) (oo ho) (rd_out rfl rfl) (hK _ hC)
         ·exact st_bin (og ho) .mul 3 3 (.tmp 68) (.tmp 69) (oo ho) (ri 0 (da ho hf 0)) (ri 1 (da ho hf 1)) (gu_i _ _ _ _ _ _ _ _) (bin_mulE b2m) (hK _ hC)
         ·exact st_field (og ho) 40 (.tmp 1) 1 (oo ho) (rd_out rfl rfl) (n := 2) (by kernel_rfl) (hK _ hC)
         ·exact st_loadS (og ho) 38 (.tmp 71) (oo ho) (ri 3 (da ho hf 3)) (by kernel_rfl) ((hA.call hC).cells 2) (hK _ hC)
         ·exact st_call2 (og ho) 47 (.tmp 72) (.const (.int .i8 (-6))) #[38, 81] (oo ho) (ri 4 (da ho hf 4)) rfl (fun _ _ => rfl) (hi2 W (hx9.call hC)) (by rintro u w9 ⟨h9, hb9⟩; injection h9 with h9; subst h9; exact hK _ (below_call hC hC.size hb9)) (fun _ _ h => nomatch h.1) (fun _ h => nomatch h.1)
         ·exact st_bin (og ho) .add 3 3 (.tmp 70) (.tmp 73) (oo ho) (ri 2 (da ho hf 2)) (ri 5 (da ho hf 5)) (gu_i _ _ _ _ _ _ _ _) (bin_addE b2a) (hK _ hC)
         ·omega
        case hturn =>
         intro o9 f9 W ho hC hf K hK
         exact st_storeS (og ho) 3 (.tmp 9) (.tmp 74) (oo ho) (rd_out rfl rfl) (ri 6 (da ho hf 6)) (by kernel_rfl) (by rfl) ((hN.call hC).cells 0) ((hN.call hC).frozen 0) (hK _ (⟨W, hC, rfl⟩))
        case hend =>
         rintro f9 W' ⟨W0, hC, rfl⟩ hf
         have hN1 : HasO (W0.setCell ⟨q9, 0, none⟩ (.int .i64 (((nb * ln + k1) * ln + k2 : Nat) : Int))) q9 (.cells #[.int .i64 (((nb * ln + k1) * ln + k2 : Nat) : Int)] 3 (0, 0)) := (hN.call hC).set_ 0 _
         have ha : Alt q9 (q9 + 1) W0 (W0.setCell ⟨q9, 0, none⟩ (.int .i64 (((nb * ln + k1) * ln + k2 : Nat) : Int))) := Alt.setCell ⟨Nat.le_refl _, Nat.lt_succ_self _⟩
         have hB1 := ha.below (below_call hB hB.size hC) (by omega) (below_call hB hB.size hC).size
         have hA1 := ha.hasO (hA.call hC) (by omega)
         have hM1 := ha.hasO (hM.call hC) (by omega)
         have hX1 := ha.hasO (hX.call hC) (by omega)
         have hT1 := (hT.call hC).alt ha (by omega)
         simp only [putL, Act.put, List.setIfInBounds_toArray, List.set_cons_succ, List.set_cons_zero]
         clear hf hN hA hM hX hB hT hx9 hC b2m b2a hi2
         generalize (W0.setCell ⟨q9, 0, none⟩ (.int .i64 (((nb * ln + k1) * ln + k2 : Nat) : Int))) = w9 at *
         rename HasO w9 q9 _ => hN
         rename HasO w9 w.heap.size _ => hA
         rename HasO w9 q4 _ => hM
         rename HasO w9 q8 _ => hX
         rename Below w.heap.size w w9 => hB
         rename TabW g w9 => hT
         clear ha
         generalize f9 0 = v0, f9 1 = v1, f9 2 = v2, f9 3 = v3, f9 4 = v4, f9 5 = v5, f9 6 = v6, f9 7 = v7
         obtain ⟨n2, hn2⟩ : ∃ n, n = (nb * ln + k1) * ln + k2 := ⟨_, rfl⟩
         rw [← hn2] at hN hfin e1
         clear hn2 t1 t2
         have hc := hM.cells
         have hlc := hM.lt
         go_wp2_with fail
         refine (groups_any m _).mono ?_
         rintro e w11 ⟨v, rfl, hown, hb11⟩
         obtain ⟨gg, cap, rfl, hgg, hgl, hgc⟩ := grp_slice hown
         have hI : NumW w (posCs f r p ln c bl ca pa ha fu) q8 q9 g gg m [] n2 w11 := ⟨below_call hB hB.size hb11, hA.call hb11, hX.call hb11, hN.call hb11, hT.call hb11, ⟨hgl, hgc⟩, fun p hp => (by cases hp)⟩
         have hgq9 : q9 < gg := Nat.lt_of_lt_of_le hN.lt hgg
         have hgq8 : q8 < gg := Nat.lt_of_lt_of_le hX.lt hgg
         have hggg : g < gg := Nat.lt_of_lt_of_le hT.1 hgg
         clear hc hlc hM hX hB hT hA hN hown hgl hgc hb11
         go_wp2_with fail
         refine (wpIn_wide (n := 3)).1 ?_
         refine loop28 w f r ca pa ha fu bl p c xs hx ln q8 q9 g gg cap n2 m hln hln64 (Lib.hid hvb) (fun j hj => by rw [hgrp j hj, hln.out]) hfin (by omega) (by omega) (by omega) ?hQ ?h0 _ rfl
         case h0 => exact R28.mk _ [] rfl rfl rfl rfl rfl rfl rfl rfl List.nodup_nil hI
         case hQ =>
          rintro a W ⟨E, X, rfl, hnd, hI⟩
          obtain ⟨b, i0, i8, i9, it, ⟨ig, ic⟩, iE⟩ := hI
          have hc := i9.cells 0
          have hlc := i9.lt
          clear i0 i8 it ig ic hfin hgrp
          unfold fr28
          simp only [List.setIfInBounds_toArray, List.set_cons_succ, List.set_cons_zero]
          go_wp2_with fail
          refine leaveE E W b.size iE hnd (fun w' hb => ⟨_, results_tmp2 rfl _ _ _, ?_, b.trans hb⟩)
          rw [e1.out]
          rfl
end Go.Proofs.YtnpomigmeieofaaGreatDoor
namespace Go.Proofs.YtnpomigmeieofaaGreatDoor
open Go.RowKit
attribute [local go_sem] Oper.semAt_some

abbrev pcs (xs : List Int) : Obj := .cells (xs.map (.int .i8)).toArray 81 (0, 0)
theorem pcs_set (xs : List Int) (j : Nat) (x : Int) : ((xs.map (Value.int .i8)).toArray).setIfInBounds j (.int .i8 x) = ((xs.set j x).map (Value.int .i8)).toArray := by
 simp [List.map_set]
set_option maxRecDepth 100000 in
theorem put_any (q g c at_ : Nat) (xs : List Int) (x : Int) (hat : at_ < xs.length) (w : World) (hq : w.cell? ⟨q, 2, none⟩ = some (.slice (some ⟨g, 0, none⟩) xs.length c)) (hG : HasO w g (pcs xs)) :
  Calls Tryz.prog 63 #[.pointer (some ⟨q, 0, none⟩), .int .i64 (at_ : Nat), .int .i8 x] w fun e w' => e = .returned (.bool (decide (xs[at_]?.getD 0 = 0))) ∧ w' = w.setCell ⟨g, at_, none⟩ (.int .i8 x) := by
 obtain ⟨y, hy⟩ : ∃ y, y = xs[at_]?.getD 0 := ⟨_, rfl⟩
 have hcy : w.cell? ⟨g, at_, none⟩ = some (.int .i8 y) := by
  rw [hG.cells at_, hy]
  simp [List.getElem?_eq_getElem hat]
 have hfz := hG.frozen at_
 have hii : (at_ : Int) < xs.length := by omega
 have hgl := hG.lt
 rw [← hy]
 replace hy := Lib.hid hy
 replace hG := Lib.hid hG
 go_enter Tryz.func63, Tryz.ntmps63
 go_wp2_with fail
 go_ret
 refine ⟨?_, rfl⟩
 show Ending.returned (.bool (y == 0)) = _
 by_cases h : y = 0 <;> simp [h]
theorem grp_seq (bx gg cap : Nat) (m : Men) :
  SeqI Tryz.prog 119 #[.pointer (some ⟨bx, 0, none⟩)] 10 (fun k => #[.int .i64 ((9 : Int) - k), .agg #[.int .i8 (grpPiece (9 - k)), .int .i64 (m.grp (9 - k))]])
   (fun W => W.cell? ⟨bx, 0, none⟩ = some (.slice (some ⟨gg, 0, none⟩) 10 cap) ∧ ∀ j, j < 10 → W.cell? ⟨gg, j * 2, none⟩ = some (.int .i8 (grpPiece j)) ∧ W.cell? ⟨gg, j * 2 + 1, none⟩ = some (.int .i64 (m.grp j))) (fun _ _ => False) (fun _ => False) := by
 intro n l J Jx W0 hst hstx hRd hsz hszx h0 hy
 have hJ0 := h0 W0.heap.size W0 (Below.refl _ _) (Nat.le_refl _) rfl
 obtain ⟨hr1, hr2⟩ := hRd _ _ _ hJ0
 refine callsIn_of_wp Tryz.func119 rfl trivial ?_ rfl
 simp only [Tryz.ntmps119, List.size_toArray, List.length_cons, List.length_nil, Nat.reduceAdd, Nat.reduceSub, Array.replicate_succ, Array.replicate_zero, List.push_toArray, List.append_toArray, List.nil_append, List.cons_append]
 gi_wp2
 gi_loopw [3] (fun i wr => ∃ k : Nat, k ≤ 10 ∧ i = .int .i64 ((9 : Int) - k) ∧ J W0.heap.size k wr) (fun i wr => (intOf i + 1).toNat)
 case atStart => exact ⟨0, by omega, by simp, hJ0⟩
 case round =>
  clear hr1 hr2
  obtain ⟨k, hk, rfl, hJ⟩ := hrel
  obtain ⟨hr1, hr2⟩ := hRd _ _ _ hJ
  by_cases hlt : k < 10
  ·obtain ⟨j, hj⟩ : ∃ j, j = 9 - k := ⟨_, rfl⟩
   have hjk : (9 : Int) - k = j := by omega
   obtain ⟨hc1, hc2⟩ := hr2 j (by omega)
   have h1 : (0 : Int) ≤ j := by omega
   have h2 : (j : Int) < 10 := by omega
   clear hr2
   have hY := hy W0.heap.size k wr (Nat.le_refl _) hlt hJ (fun q h1 h2 => by omega)
   simp only [hjk, ← hj] at hY
   obtain ⟨fn, tmps, assign, body, hy1, hR⟩ := hY
   rw [hjk]
   replace hj := Lib.hid hj
   gi_wp2
   refine ⟨fun h => by simp [Fence.wide] at h, (roundIn_any hR).mono ?_⟩
   rintro e W' (⟨rfl, hJ', _⟩ | ⟨rfl, hJx⟩)
   ·gi_wp2
    go_roundw
    case rel => exact ⟨k + 1, by omega, by have := hj.out; go_num, hJ'⟩
    case measure => simp [intOf] <;> omega
   ·gi_wp2
    refine bodyPost_ret (results_none rfl _ _ _) rfl ?_
    exact ⟨W0.heap.size, Nat.le_refl _, .inl ⟨⟨_, rfl⟩, .inr ⟨k, hlt, hJx⟩⟩⟩
  ·obtain rfl : k = 10 := by omega
   gi_wp2
   go_end0
   exact ⟨W0.heap.size, Nat.le_refl _, .inl ⟨⟨_, rfl⟩, .inl hJ⟩⟩
end Go.Proofs.YtnpomigmeieofaaGreatDoor
