import Derived.Test.YtnpomigmeieofaaGreatDoorI23
import Derived.Test.YtnpomigmeieofaaGreatDoorI33
import Derived.Test.YtnpomigmeieofaaGreatDoorI45
import Derived.Test.YtnpomigmeieofaaGreatDoorRows
import Derived.HandedShaped
import Derived.ProofKit
import Derived.Shelf.Vars
import Derived.LaidMore
import Derived.OpenShut
import Derived.Test.YtnpomigmeieofaaGreatDoorTie
import Derived.Test.YtnpomigmeieofaaGreatDoorCards
import Derived.SevenTiedAt
namespace Go.Proofs.YtnpomigmeieofaaGreatDoor
open Go.RowKit
attribute [local go_sem] Oper.semAt_some

set_option maxRecDepth 100000 in
set_option maxHeartbeats 12800000 in
theorem known_any (w : World) (hg : GlobOk w) (hm : MaxOk w) : Calls Tryz.prog 7 #[] w fun e w' => e = .returned (.bool true) ∧ Below w.heap.size w w' := by
 have hw0 : 0 < w.heap.size := by obtain ⟨_, _, h⟩ := hm; exact h
 have hM := HasO.new w (.cells (⟨3, 4, 0, 0, 0, 0, 0, 0, 0, 0, 0, 0⟩ : Men).cs.toArray 26)
 have hB := below_box w (.cells (⟨3, 4, 0, 0, 0, 0, 0, 0, 0, 0, 0, 0⟩ : Men).cs.toArray 26)
 go_enter Tryz.func7, Tryz.ntmps7
 go_upto_region 2 with fail
 show Code.wp _ _ _ _ (w.alloc (.cells (⟨3, 4, 0, 0, 0, 0, 0, 0, 0, 0, 0, 0⟩ : Men).cs.toArray 26))
 generalize w.alloc (.cells (⟨3, 4, 0, 0, 0, 0, 0, 0, 0, 0, 0, 0⟩ : Men).cs.toArray 26) = w1 at *
 obtain ⟨q1, hq1⟩ : ∃ q, q = w.heap.size := ⟨_, rfl⟩
 rw [← hq1] at hM ⊢
 replace hq1 := Lib.hid hq1
 have hA : Alt q1 (q1 + 1) w1 ((w1.setCell ⟨q1, 6, none⟩ (.int .i64 1)).setCell ⟨q1, 10, none⟩ (.int .i64 2)) := (Alt.setCell (p := ⟨q1, 6, none⟩) ⟨Nat.le_refl _, Nat.lt_succ_self _⟩).trans (Alt.setCell (p := ⟨q1, 10, none⟩) ⟨Nat.le_refl _, Nat.lt_succ_self _⟩)
 have hM2 : HasO ((w1.setCell ⟨q1, 6, none⟩ (.int .i64 1)).setCell ⟨q1, 10, none⟩ (.int .i64 2)) q1 (.cells mA.cs.toArray 26 (0, 0)) := (hM.set_ 6 (.int .i64 1)).set_ 10 (.int .i64 2)
 have hB2 := hA.below hB (by rw [hq1.out]; exact Nat.le_refl _) hB.size
 have hc := hM.cells
 have hf := hM.frozen
 have hl := hM.lt
 clear hA hB hM
 go_upto_region 3 with fail
 generalize (w1.setCell ⟨q1, 6, none⟩ (.int .i64 1)).setCell ⟨q1, 10, none⟩ (.int .i64 2) = w2 at *
 clear hc hf hl
 go_wp2_with (first | (refine wpList_loadO rfl 26 (.tmp 1) rfl q1 _ 26 rfl hM2 (by kernel_rfl) ?_) | fail)
 refine (kc_text w2).mono ?_
 rintro e w3 ⟨rfl, hb3⟩
 have hM3 := hM2.call hb3
 have hB3 := below_call hB2 hB2.size hb3
 clear hM2 hB2 hb3
 go_wp2_with fail
 refine (kc_parse1 w3 (hm.call hB3 hw0)).mono ?_
 rintro e w4 ⟨rfl, hb4⟩
 have hM4 := hM3.call hb4
 have hB4 := below_call hB3 hB3.size hb4
 have hQ := HasO.new w4 (.cells mA.cs.toArray 26)
 have hbQ := below_box w4 (.cells mA.cs.toArray 26)
 have hM5 := hM4.call hbQ
 have hB5 := below_call hB4 hB4.size hbQ
 clear hM3 hB3 hb4 hM4 hB4 hbQ
 go_upto_region 5 with fail
 show Code.wp _ _ _ _ (w4.alloc (.cells mA.cs.toArray 26))
 generalize w4.alloc (.cells mA.cs.toArray 26) = w5 at *
 generalize w4.heap.size = q4 at *
 go_wp2_with fail
 refine (kc_parse2 w5 (hm.call hB5 hw0)).mono ?_
 rintro e w6 ⟨rfl, hb6⟩
 have hM6 := hM5.call hb6
 have hQ6 := hQ.call hb6
 have hB6 := below_call hB5 hB5.size hb6
 have hbZ := below_box w6 (.cells zeroMen.cs.toArray 26)
 have hM7 := hM6.call hbZ
 have hQ7 := hQ6.call hbZ
 have hB7 := below_call hB6 hB6.size hbZ
 clear hM5 hQ hB5 hb6 hM6 hQ6 hB6 hbZ
 go_upto_region 6 with fail
 show Code.wp _ _ _ _ (w6.alloc (.cells zeroMen.cs.toArray 26))
 generalize w6.alloc (.cells zeroMen.cs.toArray 26) = w7 at *
 generalize w6.heap.size = q6 at *
 have hme := men_neq mA mA
 rw [decide_eq_true (rfl : mA = mA)] at hme
 have hc1 := hM7.cells
 have hc4 := hQ7.cells
 have hl1 := hM7.lt
 have hl4 := hQ7.lt
 go_wp2_with fail
 clear hme hc1 hc4 hl1 hl4 hM7 hQ7
 replace hg := hg.call hB7
 have hB9 := hB7
 clear hm hB7
 refine (kc_KK w7).mono ?_
 rintro e v10 ⟨rfl, hb⟩
 have hB10 := below_call hB9 hB9.size hb
 replace hg := hg.call hb
 clear hB9 hb
 go_wp2_with fail
 refine (kc_cKK v10).mono ?_
 rintro e v11 ⟨rfl, hb⟩
 have hB11 := below_call hB10 hB10.size hb
 replace hg := hg.call hb
 clear hB10 hb
 go_wp2_with fail
 refine (kc_KQ v11).mono ?_
 rintro e v12 ⟨rfl, hb⟩
 have hB12 := below_call hB11 hB11.size hb
 replace hg := hg.call hb
 clear hB11 hb
 go_wp2_with fail
 refine (kc_cKQ v12).mono ?_
 rintro e v13 ⟨rfl, hb⟩
 have hB13 := below_call hB12 hB12.size hb
 replace hg := hg.call hb
 clear hB12 hb
 go_wp2_with fail
 refine (kc_NN v13).mono ?_
 rintro e v14 ⟨rfl, hb⟩
 have hB14 := below_call hB13 hB13.size hb
 replace hg := hg.call hb
 clear hB13 hb
 go_wp2_with fail
 refine (kc_cNN v14).mono ?_
 rintro e v15 ⟨rfl, hb⟩
 have hB15 := below_call hB14 hB14.size hb
 replace hg := hg.call hb
 clear hB14 hb
 go_wp2_with fail
 refine (kc_n1 v15 hg).mono ?_
 rintro e v16 ⟨rfl, hb⟩
 have hB16 := below_call hB15 hB15.size hb
 replace hg := hg.call hb
 clear hB15 hb
 go_wp2_with fail
 refine (kc_n2 v16 hg).mono ?_
 rintro e v17 ⟨rfl, hb⟩
 have hB17 := below_call hB16 hB16.size hb
 replace hg := hg.call hb
 clear hB16 hb
 go_wp2_with fail
 refine (kc_n3 v17 hg).mono ?_
 rintro e v18 ⟨rfl, hb⟩
 have hB18 := below_call hB17 hB17.size hb
 replace hg := hg.call hb
 clear hB17 hb
 go_wp2_with fail
 refine (kc_KK v18).mono ?_
 rintro e v19 ⟨rfl, hb⟩
 have hB19 := below_call hB18 hB18.size hb
 replace hg := hg.call hb
 clear hB18 hb
 go_wp2_with fail
 refine (kc_p6 v19 hg).mono ?_
 rintro e v20 ⟨⟨gp, rfl, hx1⟩, hb⟩
 have hB20 := below_call hB19 hB19.size hb
 replace hg := hg.call hb
 clear hB19 hb
 have hO1 := HasO.new v20 (.cells (posCs 3 3 (some ⟨gp, 0, none⟩) 9 9 false 0 (-1) 0 1).toArray 40)
 have hbx := below_box v20 (.cells (posCs 3 3 (some ⟨gp, 0, none⟩) 9 9 false 0 (-1) 0 1).toArray 40)
 have hB21 := below_call hB20 hB20.size hbx
 replace hg := hg.call hbx
 replace hx1 := hx1.call hbx
 clear hB20 hbx
 go_upto_region 16 with fail
 show Code.wp _ _ _ _ (v20.alloc (.cells (posCs 3 3 (some ⟨gp, 0, none⟩) 9 9 false 0 (-1) 0 1).toArray 40))
 obtain ⟨q21, hq21⟩ : ∃ q, q = v20.heap.size := ⟨_, rfl⟩
 rw [← hq21] at hO1 ⊢
 clear hq21
 generalize v20.alloc (.cells (posCs 3 3 (some ⟨gp, 0, none⟩) 9 9 false 0 (-1) 0 1).toArray 40) = v21 at *
 go_wp2_with fail
 refine (kc_KK v21).mono ?_
 rintro e v22 ⟨rfl, hb⟩
 have hB22 := below_call hB21 hB21.size hb
 replace hg := hg.call hb
 replace hx1 := hx1.call hb
 replace hO1 := hO1.call hb
 clear hB21 hb
 go_wp2_with fail
 refine (kc_p0 v22 hg).mono ?_
 rintro e v23 ⟨rfl, hb⟩
 have hB23 := below_call hB22 hB22.size hb
 replace hg := hg.call hb
 replace hx1 := hx1.call hb
 replace hO1 := hO1.call hb
 clear hB22 hb
 go_wp2_with fail
 refine (kc_KK v23).mono ?_
 rintro e v24 ⟨rfl, hb⟩
 have hB24 := below_call hB23 hB23.size hb
 replace hg := hg.call hb
 replace hx1 := hx1.call hb
 replace hO1 := hO1.call hb
 clear hB23 hb
 go_wp2_with fail
 refine (kc_p9 v24).mono ?_
 rintro e v25 ⟨rfl, hb⟩
 have hB25 := below_call hB24 hB24.size hb
 replace hg := hg.call hb
 replace hx1 := hx1.call hb
 replace hO1 := hO1.call hb
 clear hB24 hb
 go_wp2_with fail
 refine (kc_t1 v25).mono ?_
 rintro e v26 ⟨⟨p2, c2, rfl, _, hx2⟩, hb⟩
 have hB26 := below_call hB25 hB25.size hb
 replace hg := hg.call hb
 replace hx1 := hx1.call hb
 replace hO1 := hO1.call hb
 clear hB25 hb
 have hO2 := HasO.new v26 (.cells (posCs 3 3 p2 9 c2 false 0 (-1) 0 1).toArray 40)
 have hbx := below_box v26 (.cells (posCs 3 3 p2 9 c2 false 0 (-1) 0 1).toArray 40)
 have hB27 := below_call hB26 hB26.size hbx
 replace hg := hg.call hbx
 replace hx1 := hx1.call hbx
 replace hO1 := hO1.call hbx
 replace hx2 := hx2.call hbx
 clear hB26 hbx
 go_upto_region 19 with fail
 show Code.wp _ _ _ _ (v26.alloc (.cells (posCs 3 3 p2 9 c2 false 0 (-1) 0 1).toArray 40))
 obtain ⟨q27, hq27⟩ : ∃ q, q = v26.heap.size := ⟨_, rfl⟩
 rw [← hq27] at hO2 ⊢
 clear hq27
 generalize v26.alloc (.cells (posCs 3 3 p2 9 c2 false 0 (-1) 0 1).toArray 40) = v27 at *
 go_wp2_with (first | (refine wpList_loadO rfl 40 (.tmp 11) rfl q21 _ 40 rfl hO1 (by kernel_rfl) ?_) | (refine wpList_loadO rfl 40 (.tmp 12) rfl q27 _ 40 rfl hO2 (by kernel_rfl) ?_) | fail)
 refine (kc_eq gp c2 p2 v27 hx1 hx2).mono ?_
 rintro e v28 ⟨rfl, hb⟩
 have hB28 := below_call hB27 hB27.size hb
 replace hg := hg.call hb
 replace hx1 := hx1.call hb
 replace hO1 := hO1.call hb
 replace hx2 := hx2.call hb
 replace hO2 := hO2.call hb
 clear hB27 hb
 clear hx1 hx2 hO1 hO2
 go_wp2_with fail
 refine (kc_KQ v28).mono ?_
 rintro e v29 ⟨rfl, hb⟩
 have hB29 := below_call hB28 hB28.size hb
 replace hg := hg.call hb
 clear hB28 hb
 go_wp2_with fail
 refine (kc_nQ v29).mono ?_
 rintro e v30 ⟨⟨l1, rfl, ho1⟩, hb⟩
 have hB30 := below_call hB29 hB29.size hb
 replace hg := hg.call hb
 clear hB29 hb
 go_wp2_with fail
 refine (kc_KP v30).mono ?_
 rintro e v31 ⟨rfl, hb⟩
 have hB31 := below_call hB30 hB30.size hb
 replace hg := hg.call hb
 replace ho1 := own_call ho1 hb
 clear hB30 hb
 go_wp2_with fail
 refine (kc_nP v31).mono ?_
 rintro e v32 ⟨⟨l2, rfl, ho2⟩, hb⟩
 have hB32 := below_call hB31 hB31.size hb
 replace hg := hg.call hb
 replace ho1 := own_call ho1 hb
 clear hB31 hb
 go_wp2_with fail
 refine (kc_KQ v32).mono ?_
 rintro e v33 ⟨rfl, hb⟩
 have hB33 := below_call hB32 hB32.size hb
 replace hg := hg.call hb
 replace ho1 := own_call ho1 hb
 replace ho2 := own_call ho2 hb
 clear hB32 hb
 go_wp2_with fail
 refine (kc_cl v33).mono ?_
 rintro e v34 ⟨⟨l3, rfl, ho3⟩, hb⟩
 have hB34 := below_call hB33 hB33.size hb
 replace hg := hg.call hb
 replace ho1 := own_call ho1 hb
 replace ho2 := own_call ho2 hb
 clear hB33 hb
 have hS := HasO.new v34 (.cells #[.string { data := #[51, 120, 51, 32, 75, 75] }] 9)
 have hbx := below_box v34 (.cells #[.string { data := #[51, 120, 51, 32, 75, 75] }] 9)
 have hB35 := below_call hB34 hB34.size hbx
 replace hg := hg.call hbx
 replace ho1 := own_call ho1 hbx
 replace ho2 := own_call ho2 hbx
 replace ho3 := own_call ho3 hbx
 clear hB34 hbx
 go_wp2_with fail
 refine (kc_s1 l1 _ v34.heap.size (v34.alloc (.cells #[.string { data := #[51, 120, 51, 32, 75, 75] }] 9)) ho1 hS).mono ?_
 rintro e v36 ⟨rfl, hb⟩
 have hB36 := below_call hB35 hB35.size hb
 replace hg := hg.call hb
 replace ho2 := own_call ho2 hb
 replace ho3 := own_call ho3 hb
 clear hB35 hb hS ho1
 have hS := HasO.new v36 (.cells #[.string { data := #[51, 120, 51, 32, 75, 66, 75] }, .string { data := #[51, 120, 51, 32, 75, 75] }, .string { data := #[51, 120, 51, 32, 75, 78, 75] }, .string { data := #[51, 120, 51, 32, 75, 81, 75] }, .string { data := #[51, 120, 51, 32, 75, 82, 75] }] 9)
 have hbx := below_box v36 (.cells #[.string { data := #[51, 120, 51, 32, 75, 66, 75] }, .string { data := #[51, 120, 51, 32, 75, 75] }, .string { data := #[51, 120, 51, 32, 75, 78, 75] }, .string { data := #[51, 120, 51, 32, 75, 81, 75] }, .string { data := #[51, 120, 51, 32, 75, 82, 75] }] 9)
 have hB37 := below_call hB36 hB36.size hbx
 replace hg := hg.call hbx
 replace ho2 := own_call ho2 hbx
 replace ho3 := own_call ho3 hbx
 clear hB36 hbx
 go_wp2_with fail
 refine (kc_s5 l2 _ v36.heap.size (v36.alloc (.cells #[.string { data := #[51, 120, 51, 32, 75, 66, 75] }, .string { data := #[51, 120, 51, 32, 75, 75] }, .string { data := #[51, 120, 51, 32, 75, 78, 75] }, .string { data := #[51, 120, 51, 32, 75, 81, 75] }, .string { data := #[51, 120, 51, 32, 75, 82, 75] }] 9)) ho2 hS).mono ?_
 rintro e v38 ⟨rfl, hb⟩
 have hB38 := below_call hB37 hB37.size hb
 replace hg := hg.call hb
 replace ho3 := own_call ho3 hb
 clear hB37 hb hS ho2
 have hS := HasO.new v38 (.cells #[.string { data := #[51, 120, 51, 32, 75, 75] }, .string { data := #[51, 120, 51, 32, 75, 81, 75] }] 9)
 have hbx := below_box v38 (.cells #[.string { data := #[51, 120, 51, 32, 75, 75] }, .string { data := #[51, 120, 51, 32, 75, 81, 75] }] 9)
 have hB39 := below_call hB38 hB38.size hbx
 replace hg := hg.call hbx
 replace ho3 := own_call ho3 hbx
 clear hB38 hbx
 go_wp2_with fail
 refine (kc_s2 l3 _ v38.heap.size (v38.alloc (.cells #[.string { data := #[51, 120, 51, 32, 75, 75] }, .string { data := #[51, 120, 51, 32, 75, 81, 75] }] 9)) ho3 hS).mono ?_
 rintro e v40 ⟨rfl, hb⟩
 have hB40 := below_call hB39 hB39.size hb
 replace hg := hg.call hb
 clear hB39 hb hS ho3
 go_wp2_with fail
 refine (men3x6_any v40).mono ?_
 rintro e v41 ⟨rfl, hb⟩
 have hB41 := below_call hB40 hB40.size hb
 replace hg := hg.call hb
 clear hB40 hb
 go_wp2_with fail
 refine (kc_v36 v41).mono ?_
 rintro e v42 ⟨rfl, hb⟩
 have hB42 := below_call hB41 hB41.size hb
 replace hg := hg.call hb
 clear hB41 hb
 go_wp2_with fail
 go_ret
 exact ⟨rfl, hB42⟩
end Go.Proofs.YtnpomigmeieofaaGreatDoor
namespace Go.Proofs.YtnpomigmeieofaaGreatDoor
open Go.RowKit
attribute [local go_sem] Oper.semAt_some

end Go.Proofs.YtnpomigmeieofaaGreatDoor
namespace Go.Proofs.YtnpomigmeieofaaGreatDoor
open Go.RowKit
attribute [local go_sem] Oper.semAt_some

structure RsV where
 f : Int
 r : Int
 n : Nat
 bl : Bool
 pa : Int
 fu : Int
 xs : List Int
def rsV (m : Men) (n : Int) : RsV := if resP m n = 0 then ⟨m.f, m.r, m.sq, finB m m.sq n.toNat, -1, 1, (finS m m.sq n.toNat).1⟩ else ⟨0, 0, 0, false, 0, 0, []⟩
theorem rsV_len (m : Men) (n : Int) : (rsV m n).n = (rsV m n).xs.length := by
 unfold rsV
 split
 ·show m.sq = (finS m m.sq n.toNat).1.length
  unfold finS kgS
  rw [putS_len, putS_len]
  exact (grpS_len m m.sq n.toNat 10).symm
 ·rfl
theorem resP_sq {m : Men} {n : Int} (h : resP m n = 0) : m.sq ≤ 64 := by
 unfold resP at h
 by_cases hv : validB m = true
 ·exact (validB_sq hv).2.2
 ·rw [if_neg hv] at h; cases h
theorem rsV_le (m : Men) (n : Int) : (rsV m n).n ≤ 64 := by
 unfold rsV
 split
 ·exact resP_sq (by assumption)
 ·exact Nat.zero_le _
theorem PosU.arr {m : Men} {n : Int} {w : World} {e : Ending} {w' : World} (h : PosU m n w e w') (V : RsV) (hV : V = rsV m n) (k : Int) (hk : k = resP m n) : ∃ p c, e = .returned (.tuple #[.agg (posCs V.f V.r p V.n c V.bl 0 V.pa 0 V.fu).toArray, .int .i64 k]) ∧ Arr .i8 w' p V.xs ∧ Below w.heap.size w w' := by
 obtain ⟨h, hb⟩ := h
 subst hV hk
 unfold rsV
 by_cases hr : resP m n = 0
 ·rw [if_pos hr] at h
  obtain ⟨gp, he, ho⟩ := h
  rw [if_pos hr, hr]
  exact ⟨_, _, he, arr_pcs ho, hb⟩
 ·rw [if_neg hr] at h
  rw [if_neg hr]
  exact ⟨none, 0, h, .inl rfl, hb⟩
set_option maxRecDepth 100000 in
set_option maxHeartbeats 6400000 in
theorem IndexPositions_any (m : Men) (n : Int) (w : World) (hg : GlobOk w) (hm : MaxOk w) :
  Calls Tryz.prog 5 #[.agg m.cs.toArray, .int .i64 n] w fun e w' => e = .returned (.bool true) ∧ Below w.heap.size w w' := by
 have hw0 : 0 < w.heap.size := by obtain ⟨_, _, h⟩ := hm; exact h
 have hM := HasO.new w (.cells m.cs.toArray 26)
 have hB := below_box w (.cells m.cs.toArray 26)
 obtain ⟨V, hV⟩ : ∃ x, x = rsV m n := ⟨_, rfl⟩
 obtain ⟨k, hk⟩ : ∃ x, x = resP m n := ⟨_, rfl⟩
 have hVn : V.n = V.xs.length := by rw [hV]; exact rsV_len m n
 have hV64 : V.n ≤ 900 := by rw [hV]; exact Nat.le_trans (rsV_le m n) (by omega)
 have hp1 := fun W hg => (posU_any m n W hg).mono (fun e w' h => PosU.arr h V hV k hk)
 have hp2 := fun W => (refPosU_any m n W).mono (fun e w' h => PosU.arr h V hV k hk)
 have hct := fun W => Count_any m W
 have hvl := fun W => refValid_any m W
 have hcn := fun (h : Hid (validB m = true)) W => refCount_any m W h
 obtain ⟨c, hc⟩ : ∃ x, x = (cntE m).1 := ⟨_, rfl⟩
 obtain ⟨er, her⟩ : ∃ x, x = (cntE m).2 := ⟨_, rfl⟩
 rw [← hc, ← her] at hct
 obtain ⟨f, r, nn, bl, pa, fu, xs⟩ := V
 simp only at hVn hV64 hp1 hp2
 have heq := fun p1 c1 p2 c2 W h1 h2 => equal_any f r 0 pa 0 fu bl p1 p2 nn c1 c2 xs hVn hV64 W h1 h2
 have hkn := fun W hg hm => known_any W hg hm
 replace hV := Lib.hid hV
 replace hk := Lib.hid hk
 replace hVn := Lib.hid hVn
 replace hc := Lib.hid hc
 replace her := Lib.hid her
 go_enter Tryz.func5, Tryz.ntmps5
 go_upto_region 1 with fail
 show Code.wp _ _ _ _ (w.alloc (.cells m.cs.toArray 26))
 generalize w.alloc (.cells m.cs.toArray 26) = w1 at *
 obtain ⟨q, hq⟩ : ∃ q, q = w.heap.size := ⟨_, rfl⟩
 rw [← hq] at hM ⊢
 replace hq := Lib.hid hq
 go_wp2_with (first | (refine wpList_loadO rfl 26 (.tmp 2) rfl q _ 26 rfl hM (by kernel_rfl) ?_) | fail)
 refine (hct w1).mono ?_
 rintro e w2 ⟨rfl, hb⟩
 replace hM := hM.call hb
 replace hB := below_call hB hB.size hb
 clear hb hct
 go_wp2_with (first | (refine wpList_loadO rfl 26 (.tmp 2) rfl q _ 26 rfl hM (by kernel_rfl) ?_) | fail)
 refine (hp1 w2 (hg.call hB)).mono ?_
 rintro e w3 ⟨p1, c1, rfl, hx1, hb⟩
 replace hM := hM.call hb
 replace hB := below_call hB hB.size hb
 clear hb hp1
 have hbx := below_box w3 (.cells (posCs f r p1 nn c1 bl 0 pa 0 fu).toArray 40)
 have hX7 := HasO.new w3 (.cells (posCs f r p1 nn c1 bl 0 pa 0 fu).toArray 40)
 replace hM := hM.call hbx
 replace hB := below_call hB hB.size hbx
 replace hx1 := hx1.call hbx
 clear hbx
 go_upto_region 3 with fail
 show Code.wp _ _ _ _ (w3.alloc (.cells (posCs f r p1 nn c1 bl 0 pa 0 fu).toArray 40))
 generalize w3.alloc (.cells (posCs f r p1 nn c1 bl 0 pa 0 fu).toArray 40) = w4 at *
 generalize w3.heap.size = q7 at *
 go_wp2_with (first | (refine wpList_loadO rfl 26 (.tmp 2) rfl q _ 26 rfl hM (by kernel_rfl) ?_) | fail)
 refine (hp2 w4).mono ?_
 rintro e w5 ⟨p2, c2, rfl, hx2, hb⟩
 replace hM := hM.call hb
 replace hB := below_call hB hB.size hb
 replace hx1 := hx1.call hb
 replace hX7 := hX7.call hb
 clear hb hp2
 have hbx := below_box w5 (.cells (posCs f r p2 nn c2 bl 0 pa 0 fu).toArray 40)
 have hX9 := HasO.new w5 (.cells (posCs f r p2 nn c2 bl 0 pa 0 fu).toArray 40)
 replace hM := hM.call hbx
 replace hB := below_call hB hB.size hbx
 replace hx1 := hx1.call hbx
 replace hx2 := hx2.call hbx
 replace hX7 := hX7.call hbx
 clear hbx
 go_upto_region 4 with fail
 show Code.wp _ _ _ _ (w5.alloc (.cells (posCs f r p2 nn c2 bl 0 pa 0 fu).toArray 40))
 generalize w5.alloc (.cells (posCs f r p2 nn c2 bl 0 pa 0 fu).toArray 40) = w6 at *
 generalize w5.heap.size = q9 at *
 go_wp2_with (first | (refine wpList_loadO rfl 40 (.tmp 7) rfl q7 _ 40 rfl hX7 (by kernel_rfl) ?_) | (refine wpList_loadO rfl 40 (.tmp 9) rfl q9 _ 40 rfl hX9 (by kernel_rfl) ?_) | fail)
 refine (heq p1 c1 p2 c2 w6 hx1 hx2).mono ?_
 rintro e w7 ⟨rfl, hb⟩
 replace hM := hM.call hb
 replace hB := below_call hB hB.size hb
 clear hb heq hX7 hX9 hx1 hx2
 go_wp2_with (first | (refine wpList_loadO rfl 26 (.tmp 2) rfl q _ 26 rfl hM (by kernel_rfl) ?_) | fail)
 refine (hvl w7).mono ?_
 rintro e w8 ⟨rfl, hb⟩
 replace hM := hM.call hb
 replace hB := below_call hB hB.size hb
 clear hb hvl
 obtain ⟨v, hv⟩ : ∃ x, x = validB m := ⟨_, rfl⟩
 rw [← hv]
 cases v
 ·have hct : cntE m = (0, 2) := by unfold cntE; rw [if_neg (by rw [← hv]; simp)]
  have hc0 : c = 0 := by rw [hc.out, hct]
  have her0 : er = 2 := by rw [her.out, hct]
  subst hc0 her0
  replace hv := Lib.hid hv
  replace hct := Lib.hid hct
  go_wp2_with fail
  refine (hkn w8 (hg.call hB) (hm.call hB hw0)).mono ?_
  rintro e w9 ⟨rfl, hb⟩
  replace hB := below_call hB hB.size hb
  go_wp2_with fail
  go_ret
  exact ⟨rfl, hB⟩
 ·have hvH : Hid (validB m = true) := Lib.hid hv.symm
  replace hv := Lib.hid hv
  replace hcn := hcn hvH
  go_wp2_with (first | (refine wpList_loadO rfl 26 (.tmp 2) rfl q _ 26 rfl hM (by kernel_rfl) ?_) | fail)
  refine (hcn w8).mono ?_
  rintro e w9 ⟨rfl, hb⟩
  replace hM := hM.call hb
  replace hB := below_call hB hB.size hb
  clear hb
  obtain ⟨cn, hcne⟩ : ∃ x, x = countN m := ⟨_, rfl⟩
  rw [← hcne] at hcn ⊢
  replace hcne := Lib.hid hcne
  by_cases h20 : cn ≤ 1048576
  ·have h20i : ¬ (cn : Int) > 1048576 := by omega
   have hct : cntE m = (((countN m : Nat) : Int), 0) := by unfold cntE; rw [if_pos hvH.out, if_pos (by rw [← hcne.out]; exact h20)]
   have hc0 : c = (cn : Nat) := by rw [hc.out, hct, hcne.out]
   have her0 : er = 0 := by rw [her.out, hct]
   subst hc0 her0
   replace hct := Lib.hid hct
   go_wp2_with (first | (refine wpList_loadO rfl 26 (.tmp 2) rfl q _ 26 rfl hM (by kernel_rfl) ?_) | fail)
   refine (hcn w9).mono ?_
   rintro e w10 ⟨rfl, hb⟩
   replace hB := below_call hB hB.size hb
   clear hb hM hcn
   go_wp2_with fail
   refine (hkn w10 (hg.call hB) (hm.call hB hw0)).mono ?_
   rintro e w11 ⟨rfl, hb⟩
   replace hB := below_call hB hB.size hb
   go_wp2_with fail
   go_ret
   exact ⟨rfl, hB⟩
  ·have h20i : (cn : Int) > 1048576 := by omega
   have hct : cntE m = (0, 7) := by unfold cntE; rw [if_pos hvH.out, if_neg (by rw [← hcne.out]; exact h20)]
   have hc0 : c = 0 := by rw [hc.out, hct]
   have her0 : er = 7 := by rw [her.out, hct]
   subst hc0 her0
   replace hct := Lib.hid hct
   go_wp2_with fail
   refine (hkn w9 (hg.call hB) (hm.call hB hw0)).mono ?_
   rintro e w10 ⟨rfl, hb⟩
   replace hB := below_call hB hB.size hb
   go_wp2_with fail
   go_ret
   exact ⟨rfl, hB⟩
end Go.Proofs.YtnpomigmeieofaaGreatDoor
namespace Go.Proofs.YtnpomigmeieofaaGreatDoor
open Go.ChangeShapes Go.WideShapes Go.ChangeAt Go.RowKit

theorem Tryz.own : ownKnob Tryz.prog.godebug = none := by kernel_rfl
theorem Tryz.cells233 : Tryz.prog.cellsOf 233 = 2 := by kernel_rfl
theorem cell_lt {w : World} {a : Addr} {v : Value} (h : w.cell? a = some v) : a.block < w.heap.size ∧ a.spot = none := by
 unfold World.cell? at h
 split at h
 ·rename_i e
  refine ⟨(Array.getElem?_eq_some_iff.1 e).1, ?_⟩
  split at h
  ·cases h
  ·rename_i e2; simpa using e2
 ·cases h
theorem max_of {w : World} (h : w.ShapedOpen Tryz.prog) : MaxOk w := by
 obtain ⟨m, hm⟩ := Go.Proofs.cell_of_shapedOpen_int (g := 0) (zero := #[.int .i64 0]) (t := 3) h (of_decide_eq_true (by kernel_rfl)) (by kernel_rfl) rfl (by kernel_rfl) (by kernel_rfl) Tryz.underlying3
 exact ⟨m, hm, (cell_lt hm).1⟩
set_option maxRecDepth 100000 in
theorem cell_int {W : World} {base : Nat} {c : Value} (h : Cell.okWide Tryz.prog W .any base 3 c) : ∃ n, c = .int .i64 n :=
 okWide_int Tryz.underlying3 (by simp only [Value.okWide, Tryz.underlying3]; exact h)
theorem steps_of {H : Type} {enc : TypeId × Value → H} {W : World} {base : Nat} {sp : Nat → Bool} {held : Bool} {fuel n : Nat} {t : TypeId} {cs : List Value} {L : List (Int × Int)} {ps : List MemPlace}
  (ht : Tryz.prog.underlying t = some (.array n 233)) (hn : L.length = n) (h : DataW.trod enc Tryz.prog W base sp held fuel t cs = some (.agg (L.map fun s => .agg [.lit (.int .i64 s.1), .lit (.int .i64 s.2)]), ps)) :
  ∀ j, j < n → cs[j * 2]? = some (.int .i64 (L[j]?.getD (0, 0)).1) ∧ cs[j * 2 + 1]? = some (.int .i64 (L[j]?.getD (0, 0)).2) := by
 obtain ⟨xs, m, _, hx, _, hn3, hel⟩ := DataW.trod_array ht h
 intro j hj
 have hj2 := hel j hj
 rw [Tryz.cells233, List.getElem?_eq_getElem (l := xs) (i := j) (by omega)] at hj2
 have hx1 := congrArg Prod.fst hx
 injection hx1 with hx1
 have hxj := congrArg (fun l => l[j]?) hx1
 simp only [List.getElem?_map] at hxj
 rw [List.getElem?_eq_getElem (l := xs) (i := j) (by omega), List.getElem?_eq_getElem (l := L) (i := j) (by omega)] at hxj
 simp only [Option.map_some, Option.some.injEq] at hxj
 obtain ⟨y0, y1, m2, e, _, h0, h1⟩ := trod_struct2 Tryz.underlying233 hj2
 rw [e] at hxj
 simp only [DataW.agg.injEq, List.cons.injEq, and_true] at hxj
 have h0 : DataW.trod enc Tryz.prog W base sp held m2 3 (((((cs.drop (j * 2)).take 2).drop 0)).take (Tryz.prog.cellsOf 3)) = some y0 := h0
 have h1 : DataW.trod enc Tryz.prog W base sp held m2 3 (((((cs.drop (j * 2)).take 2).drop 1)).take (Tryz.prog.cellsOf 3)) = some y1 := h1
 rw [Tryz.cells3] at h0 h1
 obtain ⟨k0, e0, f0, _⟩ := DataW.trod_int Tryz.underlying3 h0
 obtain ⟨k1, e1, f1, _⟩ := DataW.trod_int Tryz.underlying3 h1
 rw [f0, f1] at hxj
 have g0 : k0 = L[j].1 := by have := hxj.1; simp at this; exact this.symm
 have g1 : k1 = L[j].2 := by have := hxj.2; simp at this; exact this.symm
 rw [List.getElem?_eq_getElem (l := L) (i := j) (by omega)]
 simp only [Option.getD_some]
 constructor
 ·have := congrArg (fun l => l[0]?) e0
  simp [List.getElem?_drop] at this
  rw [this, g0]
 ·have := congrArg (fun l => l[0]?) e1
  simp [List.getElem?_drop] at this
  rw [this, g1]
def laid4 : List (String × DataW Unit) := [("caissa/ray.straight", Rows.laid_caissa_ray_straight), ("caissa/ray.diagonal", Rows.laid_caissa_ray_diagonal), ("caissa/ray.leaps", Rows.laid_caissa_ray_leaps), ("caissa/position.full", Rows.laid_caissa_position_full)]
theorem door_met (os : Os) (args : Array Value) : laidMetH Tryz.prog laid4 ((World.doorLaid Tryz.prog 45 os).forCall (fun _ _ => 0) ⟨#[], args, []⟩).memory :=
 laidMetH_of_parts3 (fuel := 8) (laidMet_of_run' 8 (by kernel_rfl) (by kernel_rfl)) (by kernel_rfl) (by kernel_rfl)
theorem gl4 : Tryz.prog.globalNamed "caissa/ray.straight" = some 4 ∧ (Tryz.prog.globals[4]?).map (·.type) = some 238 := ⟨by kernel_rfl, by kernel_rfl⟩
theorem gl3 : Tryz.prog.globalNamed "caissa/ray.diagonal" = some 3 ∧ (Tryz.prog.globals[3]?).map (·.type) = some 238 := ⟨by kernel_rfl, by kernel_rfl⟩
theorem gl2 : Tryz.prog.globalNamed "caissa/ray.leaps" = some 2 ∧ (Tryz.prog.globals[2]?).map (·.type) = some 236 := ⟨by kernel_rfl, by kernel_rfl⟩
theorem gl0 : Tryz.prog.globalNamed "caissa/position.full" = some 1 ∧ (Tryz.prog.globals[1]?).map (·.type) = some 23 := ⟨by kernel_rfl, by kernel_rfl⟩
theorem glob_of {W : World} (h : laidMetH Tryz.prog laid4 W) : GlobOk W := by
 rw [MakeChecks.laidMetH_plain _ _ _ (by kernel_rfl)] at h
 obtain ⟨ps, ⟨g0, t0, cs0, f0, p0, q0, hg0, ht0, hv0, hd0, ⟨g1, t1, cs1, f1, p1, q1, hg1, ht1, hv1, hd1, ⟨g2, t2, cs2, f2, p2, q2, hg2, ht2, hv2, hd2, ⟨g3, t3, cs3, f3, p3, q3, hg3, ht3, hv3, hd3, _, _⟩, _⟩, _⟩, _⟩, _, _⟩ := h
 obtain rfl := Option.some.inj (gl4.1.symm.trans hg0)
 obtain rfl := Option.some.inj (gl3.1.symm.trans hg1)
 obtain rfl := Option.some.inj (gl2.1.symm.trans hg2)
 obtain rfl := Option.some.inj (gl0.1.symm.trans hg3)
 obtain rfl := Option.some.inj (gl4.2.symm.trans ht0)
 obtain rfl := Option.some.inj (gl3.2.symm.trans ht1)
 obtain rfl := Option.some.inj (gl2.2.symm.trans ht2)
 obtain rfl := Option.some.inj (gl0.2.symm.trans ht3)
 have s4 := steps_of (L := strL) Tryz.underlying238 rfl hd0
 have s3 := steps_of (L := diagL) Tryz.underlying238 rfl hd1
 have s2 := steps_of (L := leapsL) Tryz.underlying236 rfl hd2
 have v4 := World.var?_cell hg0 hv0
 have v3 := World.var?_cell hg1 hv1
 have v2 := World.var?_cell hg2 hv2
 have v0 := World.var?_cell hg3 hv3
 have mk : ∀ (g n : Nat) (cs : Array Value) (L : List (Int × Int)), 0 < n → L.length = n → (∀ j, W.cell? ⟨g, j, none⟩ = cs[j]?) → (∀ j, j < n → cs.toList[j * 2]? = some (.int .i64 (L[j]?.getD (0, 0)).1) ∧ cs.toList[j * 2 + 1]? = some (.int .i64 (L[j]?.getD (0, 0)).2)) → StepArr W g 0 L := by
  intro g n cs L hn hl hv hs
  have hc : ∀ j, W.cell? ⟨g, j, none⟩ = cs.toList[j]? := fun j => by rw [hv j]; simp
  refine ⟨(cell_lt ((hc 0).trans (hs 0 hn).1)).1, fun j hj => ?_⟩
  rw [Nat.zero_add, hc, hc]
  exact hs j (by omega)
 refine ⟨mk 2 8 cs2 leapsL (by decide) rfl v2 s2, mk 3 4 cs1 diagL (by decide) rfl v3 s3, mk 4 4 cs0 strL (by decide) rfl v4 s4, ?_, ?_⟩
 all_goals
  obtain ⟨y0, y1, m2, e, _, h0, h1⟩ := trod_struct2 Tryz.underlying23 hd3
  have e' := congrArg Prod.fst e
  simp only [Rows.laid_caissa_position_full, DataW.agg.injEq, List.cons.injEq, and_true] at e'
  have c3 := Tryz.cells3
  simp only [c3] at h0 h1
  obtain ⟨k0, e0, f0, _⟩ := DataW.trod_int Tryz.underlying3 h0
  obtain ⟨k1, e1, f1, _⟩ := DataW.trod_int Tryz.underlying3 h1
  rw [f0, f1] at e'
  have g0 : k0 = 8 := by have := e'.1; simp at this; exact this.symm
  have g1 : k1 = 8 := by have := e'.2; simp at this; exact this.symm
  have a0 := congrArg (fun l => l[0]?) e0
  have a1 := congrArg (fun l => l[0]?) e1
  simp at a0 a1
  rw [v0]
  first
   | (rw [a0, g0])
   | (rw [a1, g1])
set_option maxRecDepth 100000 in
theorem rih4 {H : Type} {enc : TypeId × Value → H} {os : Os} {f : FuncId} {fn : Func} {s : ChangeSpec} (started : os.Started) (noInit : Tryz.checked.prog.inits.idxOf? f = none) (hfn : Tryz.checked.prog.funcs[f]? = some fn)
  (witness : ∃ (w : World) (tape : Tape) (i : Input), w.os = os ∧ (w.forCall tape i).Shaped Tryz.checked.prog ∧ i.vars = [] ∧ Input.okWide Tryz.checked.prog (w.forCall tape i) .any w.heap.size f i ∧
   ((s.pre enc Tryz.checked.prog fn [] false (w.forCall tape i).memory i.args ∧ laidMetH Tryz.prog laid4 (w.forCall tape i).memory) ∧ sizedMet enc Tryz.checked.prog fn (OpenSpec.ofChange s) false (w.forCall tape i).memory i.args) ∧ ({} : Assume).holds Tryz.checked.prog (lone (Frame.enter Tryz.checked.prog f i.args .normal) [] (w.forCall tape i)))
  (contract : ∀ (W : World) (base : Nat) (args : Array Value) (ds gs : List (DataW H)) (before : List MemPlace),
   (∀ (j : Nat) t v, fn.params[j]? = some t → args[j]? = some v → Value.okWide Tryz.prog W .any base t v) →
   DataW.Whole enc Tryz.prog fn.params.toList s.vars false W args.toList ds gs before → GlobOk W → MaxOk W →
   Calls Tryz.prog f args W fun e W' => ∃ v, e = .returned v ∧ s.post enc Tryz.checked.prog fn false true false false W args v W') :
  ReturnsInHanded {} Tryz.checked os f .any (fun w args => (s.pre enc Tryz.prog fn [] false w args ∧ laidMetH Tryz.prog laid4 w) ∧ sizedMet enc Tryz.prog fn (OpenSpec.ofChange s) false w args) (s.post enc Tryz.prog fn false true false false) := by
 refine returnsInHanded_of_calls Tryz.own started noInit witness ?_
 intro w tape i _ hsh _ hok hpre _
 obtain ⟨_, _, _, fn', hfn', _, _, _, _, hval⟩ := hok
 obtain rfl : fn' = fn := Option.some.inj (hfn'.symm.trans hfn)
 obtain ⟨⟨⟨ds, gs, before, hw, _⟩, hx⟩, _⟩ := hpre
 have hw' := DataW.Whole.of_heap (w' := w.forCall tape i) (by rfl) hw
 have hx' : laidMetH Tryz.prog laid4 (w.forCall tape i) := hx.of_heap (by rfl)
 refine (contract (w.forCall tape i) w.heap.size i.args ds gs before hval hw' (glob_of hx') (max_of hsh)).mono ?_
 rintro e W' ⟨v, rfl, hp⟩
 exact ChangeSpec.post_blind hp
end Go.Proofs.YtnpomigmeieofaaGreatDoor
namespace Go.Proofs.YtnpomigmeieofaaGreatDoor
open Go.ChangeShapes Go.WideShapes Go.ChangeAt Go.RowKit

theorem Tryz.cells26 : Tryz.prog.cellsOf 26 = 12 := by kernel_rfl
theorem Tryz.cellTypes26 : Tryz.prog.cellTypes Tryz.prog.depth 26 = some [3, 3, 3, 3, 3, 3, 3, 3, 3, 3, 3, 3] := by kernel_rfl
set_option maxRecDepth 100000 in
theorem open_men {W : World} {base : Nat} {v : Value} (h : Value.okWide Tryz.prog W .any base 26 v) : ∃ m : Men, v = .agg m.cs.toArray := by
 simp only [Value.okWide, Tryz.underlying26] at h
 obtain ⟨cs, rfl, hsz, ts, hts, _, hall⟩ := h
 rw [Tryz.cellTypes26] at hts
 cases hts
 rw [Tryz.cells26] at hsz
 obtain ⟨l⟩ := cs
 match l, hsz with
 | [c0, c1, c2, c3, c4, c5, c6, c7, c8, c9, c10, c11], _ =>
  have g : ∀ (i : Nat) (c : Value), i < 12 → [c0, c1, c2, c3, c4, c5, c6, c7, c8, c9, c10, c11][i]? = some c → ∃ n, c = .int .i64 n := by
   intro i c hi hc
   obtain ⟨u, h1, h2⟩ := hall i c (by rw [List.getElem?_toArray]; exact hc)
   have e : u = 3 := by
    rcases (by omega : i = 0 ∨ i = 1 ∨ i = 2 ∨ i = 3 ∨ i = 4 ∨ i = 5 ∨ i = 6 ∨ i = 7 ∨ i = 8 ∨ i = 9 ∨ i = 10 ∨ i = 11) with rfl | rfl | rfl | rfl | rfl | rfl | rfl | rfl | rfl | rfl | rfl | rfl <;> exact (Option.some.inj (show some 3 = some u from h1)).symm
   subst e
   exact cell_int h2
  obtain ⟨n0, rfl⟩ := g 0 _ (by omega) rfl
  obtain ⟨n1, rfl⟩ := g 1 _ (by omega) rfl
  obtain ⟨n2, rfl⟩ := g 2 _ (by omega) rfl
  obtain ⟨n3, rfl⟩ := g 3 _ (by omega) rfl
  obtain ⟨n4, rfl⟩ := g 4 _ (by omega) rfl
  obtain ⟨n5, rfl⟩ := g 5 _ (by omega) rfl
  obtain ⟨n6, rfl⟩ := g 6 _ (by omega) rfl
  obtain ⟨n7, rfl⟩ := g 7 _ (by omega) rfl
  obtain ⟨n8, rfl⟩ := g 8 _ (by omega) rfl
  obtain ⟨n9, rfl⟩ := g 9 _ (by omega) rfl
  obtain ⟨n10, rfl⟩ := g 10 _ (by omega) rfl
  obtain ⟨n11, rfl⟩ := g 11 _ (by omega) rfl
  exact ⟨⟨n0, n1, n2, n3, n4, n5, n6, n7, n8, n9, n10, n11⟩, rfl⟩
end Go.Proofs.YtnpomigmeieofaaGreatDoor
