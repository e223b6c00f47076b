import Derived.Test.YtnpomigmeieofaaGreatDoorN46
namespace Go.Proofs.YtnpomigmeieofaaGreatDoor
open Go.RowKit
attribute [local go_sem] Oper.semAt_some

theorem neq4 (b : Bool) (W : World) : (binOp .neq 4 (.bool b) (.bool b)).run Tryz.prog W = .ok (.bool false) W := by cases b <;> kernel_rfl
theorem neq9 (b : ByteArray) (W : World) : (binOp .neq 9 (.string b) (.string b)).run Tryz.prog W = .ok (.bool false) W := by simp [go_sem]
theorem wpList_eqlM {ops : Array Oper} {rest : List Oper} {o : Oper} {a : Act} {Q : Exit → Act → World → Prop} {w : World} (hg : o.guard = none) (x y : Operand) (hop : o.op = Op.binOp .eql 26 x y 26) (m : Men)
  (hx : a.eval x = .agg m.cs.toArray) (hy : a.eval y = .agg m.cs.toArray) (hK : wpList Tryz.prog ops Q rest (a.put o.dst (.bool true)) w) : wpList Tryz.prog ops Q (o :: rest) a w := by
 refine wpList_plain hg fun K' hK' => ?_
 have h := st_bin (P := Tryz.prog) (Q := Q) (t := fun _ => none) (X := False) hg .eql 26 26 x y hop hx hy (men_guard .eql _ _ _ _ _) ((men_eql m m w).trans (by rw [decide_eq_true rfl])) (hK' _ _ hK)
 rwa [if_pos (wanted_none hg)] at h
set_option maxRecDepth 100000 in
set_option maxHeartbeats 12800000 in
theorem IndexTexts_any (m : Men) (s : List UInt8) (hs : s.length ≤ 9223372036854775807) (w : World) (hg : GlobOk w) (hm : MaxOk w) :
  Calls Tryz.prog 3 #[.agg m.cs.toArray, .string (str s)] w fun e w' => e = .returned (.bool true) ∧ Below w.heap.size w w' := by
 have hw0 : 0 < w.heap.size := by obtain ⟨_, _, h⟩ := hm; exact h
 have hM := HasO.new w (.cells m.cs.toArray 26)
 have hB := below_box w (.cells m.cs.toArray 26)
 have hz := str_size s
 go_enter Tryz.func3, Tryz.ntmps3
 go_upto_region 1 with fail
 show Code.wp _ _ _ _ (w.alloc (.cells m.cs.toArray 26))
 generalize w.alloc (.cells m.cs.toArray 26) = w1 at *
 obtain ⟨q, hq⟩ : ∃ q, q = w.heap.size := ⟨_, rfl⟩
 rw [← hq] at hM ⊢
 replace hq := Lib.hid hq
 by_cases hl : 100 < s.length
 ·have hli : (s.length : Int) > 100 := by omega
  go_wp2_with fail
  refine (known_any w1 (hg.call hB) (hm.call hB hw0)).mono ?_
  rintro e w2 ⟨rfl, hb⟩
  have hB2 := below_call hB hB.size hb
  go_wp2_with fail
  go_ret
  exact ⟨rfl, hB2⟩
 ·have hli : ¬ (s.length : Int) > 100 := by omega
  have hl' : s.length ≤ 100 := by omega
  have htx := fun W => Text_any m W
  obtain ⟨vb, hvb⟩ : ∃ b, b = validB m := ⟨_, rfl⟩
  have hva := fun W => valid_any m W
  have hrv := fun W => refValid_any m W
  rw [← hvb] at htx hva hrv
  have hrt := fun (h : vb = true) W => refText_any m W (Lib.hid (hvb.symm.trans h))
  replace hvb := Lib.hid hvb
  cases vb
  ·simp only [Bool.false_eq_true, if_false] at htx
   simp only [show str [] = { data := #[] } from rfl] at htx
   clear hrt
   go_wp2_with (first | (refine wpList_loadO rfl 26 (.tmp 2) rfl q _ 26 rfl hM (by kernel_rfl) ?_) | fail)
   refine (htx w1).mono ?_
   rintro e w3 ⟨rfl, hb⟩
   have hM3 := hM.call hb
   have hB3 := below_call hB hB.size hb
   clear hM hB hb htx
   go_wp2_with fail
   refine wp_region_valsL (by kernel_rfl) (by kernel_rfl) [some 20, some 21, some 22, some 23, some 24] (by rfl) (by rfl) (fun i8 => match i8 with | 0 => .agg m.cs.toArray | 1 => .bool false | 2 => .agg m.cs.toArray | 3 => .bool false | 4 => .bool false | _ => undef) (fun W => Below w3.heap.size w3 W) ((Below.refl _ _).drew) ?hstep ?hend
   case hstep =>
    intro i9 o9 f9 W ho hi hC hf K hK
    have hi : i9 < 5 := hi
    rcases (by omega : i9 = 0 ∨ i9 = 1 ∨ i9 = 2 ∨ i9 = 3 ∨ i9 = 4) with rfl | rfl | rfl | rfl | rfl
    ·exact st_loadA (og ho rfl) 26 (.tmp 2) (oo ho rfl) (rd_out rfl rfl) m.cs (by kernel_rfl) (fun j v hv => by rw [Nat.zero_add, (hM3.call hC).cells j]; simpa using hv) (hK _ hC)
    ·exact st_call1 (og ho rfl) 9 (.tmp 20) #[26] (oo ho rfl) (ri 0 (hf ⟨0, .data⟩ (oa ho rfl) rfl)) (fun _ _ => rfl) (hva W) (by (intro u w9 h9; rw [Ending.returned.inj h9.1]; exact hK _ (below_call hC hC.size h9.2))) (by rintro ch w9 h9; revert h9; rintro ⟨h9, _⟩; cases h9) (by rintro w9 h9; revert h9; rintro ⟨h9, _⟩; cases h9)
    ·exact st_loadA (og ho rfl) 26 (.tmp 2) (oo ho rfl) (rd_out rfl rfl) m.cs (by kernel_rfl) (fun j v hv => by rw [Nat.zero_add, (hM3.call hC).cells j]; simpa using hv) (hK _ hC)
    ·exact st_call1 (og ho rfl) 10 (.tmp 22) #[26] (oo ho rfl) (ri 2 (hf ⟨2, .data⟩ (oa ho rfl) rfl)) (fun _ _ => rfl) (hrv W) (by (intro u w9 h9; rw [Ending.returned.inj h9.1]; exact hK _ (below_call hC hC.size h9.2))) (by rintro ch w9 h9; revert h9; rintro ⟨h9, _⟩; cases h9) (by rintro w9 h9; revert h9; rintro ⟨h9, _⟩; cases h9)
    ·exact st_bin (og ho rfl) .neq 4 4 (.tmp 21) (.tmp 23) (oo ho rfl) (ri 1 (hf ⟨1, .data⟩ (oa ho rfl) rfl)) (ri 3 (hf ⟨3, .data⟩ (oa ho rfl) rfl)) (by kernel_rfl) (neq4 false W) (hK _ hC)
   case hend =>
    intro W hC
    simp only [putL, Act.put, List.setIfInBounds_toArray, List.set_cons_succ, List.set_cons_zero]
    have hM4 := hM3.call hC
    have hB4 := below_call hB3 hB3.size hC
    clear hM3 hB3 hC hva
    generalize W = w4 at *
    go_wp2_with (first | (refine wpList_loadO rfl 26 (.tmp 2) rfl q _ 26 rfl hM4 (by kernel_rfl) ?_) | fail)
    refine (hrv w4).mono ?_
    rintro e w5 ⟨rfl, hb⟩
    have hB5 := below_call hB4 hB4.size hb
    have hg5 := hg.call hB5
    have hm5 := hm.call hB5 hw0
    clear hM4 hB4 hb hrv
    have hpa := fun W hm => parse_any s W (by omega) hm
    have hrp := fun W => refParse_any s W (by omega)
    go_wp2_with fail
    refine (hpa _ hm5).mono ?_
    rintro e w6 ⟨rfl, hb6⟩
    replace hB5 := below_call hB5 hB5.size hb6
    replace hg5 := hg5.call hb6
    replace hm5 := hm.call hB5 hw0
    clear hpa hb6
    rcases hps : parseC s with _ | mp
    ·have e1 : parseV s = .tuple #[.agg zeroMen.cs.toArray, .int .i64 6] := by unfold parseV; rw [hps]
     have e2 : parseR s = .tuple #[.agg zeroMen.cs.toArray, .bool false] := by unfold parseR; rw [hps]
     simp only [e2] at hrp
     rw [e1]
     clear e1 e2
     have hQ := HasO.new w6 (.cells zeroMen.cs.toArray 26)
     have hbx := below_box w6 (.cells zeroMen.cs.toArray 26)
     replace hB5 := below_call hB5 hB5.size hbx
     replace hg5 := hg5.call hbx
     replace hm5 := hm.call hB5 hw0
     clear hbx
     go_upto_region 12 with fail
     show Code.wp _ _ _ _ (w6.alloc (.cells zeroMen.cs.toArray 26))
     generalize w6.alloc (.cells zeroMen.cs.toArray 26) = w7 at *
     generalize w6.heap.size = q7 at *
     go_wp2_with fail
     refine (hrp w7).mono ?_
     rintro e w8 ⟨rfl, hb8⟩
     replace hB5 := below_call hB5 hB5.size hb8
     replace hg5 := hg5.call hb8
     replace hQ := hQ.call hb8
     have hbx := below_box w8 (.cells zeroMen.cs.toArray 26)
     replace hB5 := below_call hB5 hB5.size hbx
     replace hg5 := hg5.call hbx
     replace hm5 := hm.call hB5 hw0
     replace hQ := hQ.call hbx
     clear hbx hb8 hrp
     have hme := men_eql zeroMen zeroMen
     rw [decide_eq_true (rfl : zeroMen = zeroMen)] at hme
     go_upto_region 14 with fail
     show Code.wp _ _ _ _ (w8.alloc (.cells zeroMen.cs.toArray 26))
     generalize w8.alloc (.cells zeroMen.cs.toArray 26) = w9 at *
     go_wp2_with (first | (refine wpList_loadO rfl 26 (.tmp 7) rfl q7 _ 26 rfl hQ (by kernel_rfl) ?_) | (refine wpList_eqlM rfl (.tmp 54) (.tmp 55) rfl zeroMen rfl rfl ?_) | fail)
     refine (known_any w9 hg5 hm5).mono ?_
     rintro e w10 ⟨rfl, hb10⟩
     have hB10 := below_call hB5 hB5.size hb10
     go_wp2_with fail
     go_ret
     exact ⟨rfl, hB10⟩
    ·have e1 : parseV s = .tuple #[.agg mp.cs.toArray, .int .i64 0] := by unfold parseV; rw [hps]
     have e2 : parseR s = .tuple #[.agg mp.cs.toArray, .bool true] := by unfold parseR; rw [hps]
     simp only [e2] at hrp
     rw [e1]
     clear e1 e2
     have hQ := HasO.new w6 (.cells mp.cs.toArray 26)
     have hbx := below_box w6 (.cells mp.cs.toArray 26)
     replace hB5 := below_call hB5 hB5.size hbx
     replace hg5 := hg5.call hbx
     replace hm5 := hm.call hB5 hw0
     clear hbx
     go_upto_region 12 with fail
     show Code.wp _ _ _ _ (w6.alloc (.cells mp.cs.toArray 26))
     generalize w6.alloc (.cells mp.cs.toArray 26) = w7 at *
     generalize w6.heap.size = q7 at *
     go_wp2_with fail
     refine (hrp w7).mono ?_
     rintro e w8 ⟨rfl, hb8⟩
     replace hB5 := below_call hB5 hB5.size hb8
     replace hg5 := hg5.call hb8
     replace hQ := hQ.call hb8
     have hR := HasO.new w8 (.cells mp.cs.toArray 26)
     have hbx := below_box w8 (.cells mp.cs.toArray 26)
     replace hB5 := below_call hB5 hB5.size hbx
     replace hg5 := hg5.call hbx
     replace hm5 := hm.call hB5 hw0
     replace hQ := hQ.call hbx
     clear hbx hb8 hrp
     have hme := men_eql mp mp
     rw [decide_eq_true (rfl : mp = mp)] at hme
     go_upto_region 15 with fail
     show Code.wp _ _ _ _ (w8.alloc (.cells mp.cs.toArray 26))
     generalize w8.alloc (.cells mp.cs.toArray 26) = w9 at *
     generalize w8.heap.size = q9 at *
     go_wp2_with (first | (refine wpList_loadO rfl 26 (.tmp 7) rfl q7 _ 26 rfl hQ (by kernel_rfl) ?_) | (refine wpList_loadO rfl 26 (.tmp 9) rfl q9 _ 26 rfl hR (by kernel_rfl) ?_) | fail)
     refine (known_any w9 hg5 hm5).mono ?_
     rintro e w10 ⟨rfl, hb10⟩
     have hB10 := below_call hB5 hB5.size hb10
     go_wp2_with fail
     go_ret
     exact ⟨rfl, hB10⟩
  ·simp only [if_true] at htx
   replace hrt := hrt rfl
   have hne := neq9 (str (textL m))
   go_wp2_with (first | (refine wpList_loadO rfl 26 (.tmp 2) rfl q _ 26 rfl hM (by kernel_rfl) ?_) | fail)
   refine (htx w1).mono ?_
   rintro e w3 ⟨rfl, hb⟩
   have hM3 := hM.call hb
   have hB3 := below_call hB hB.size hb
   clear hM hB hb htx
   go_wp2_with fail
   refine wp_region_valsL (by kernel_rfl) (by kernel_rfl) [some 20, some 21, some 22, some 23, some 24] (by rfl) (by rfl) (fun i8 => match i8 with | 0 => .agg m.cs.toArray | 1 => .bool true | 2 => .agg m.cs.toArray | 3 => .bool true | 4 => .bool false | _ => undef) (fun W => Below w3.heap.size w3 W) ((Below.refl _ _).drew) ?hstep ?hend
   case hstep =>
    intro i9 o9 f9 W ho hi hC hf K hK
    have hi : i9 < 5 := hi
    rcases (by omega : i9 = 0 ∨ i9 = 1 ∨ i9 = 2 ∨ i9 = 3 ∨ i9 = 4) with rfl | rfl | rfl | rfl | rfl
    ·exact st_loadA (og ho rfl) 26 (.tmp 2) (oo ho rfl) (rd_out rfl rfl) m.cs (by kernel_rfl) (fun j v hv => by rw [Nat.zero_add, (hM3.call hC).cells j]; simpa using hv) (hK _ hC)
    ·exact st_call1 (og ho rfl) 9 (.tmp 20) #[26] (oo ho rfl) (ri 0 (hf ⟨0, .data⟩ (oa ho rfl) rfl)) (fun _ _ => rfl) (hva W) (by (intro u w9 h9; rw [Ending.returned.inj h9.1]; exact hK _ (below_call hC hC.size h9.2))) (by rintro ch w9 h9; revert h9; rintro ⟨h9, _⟩; cases h9) (by rintro w9 h9; revert h9; rintro ⟨h9, _⟩; cases h9)
    ·exact st_loadA (og ho rfl) 26 (.tmp 2) (oo ho rfl) (rd_out rfl rfl) m.cs (by kernel_rfl) (fun j v hv => by rw [Nat.zero_add, (hM3.call hC).cells j]; simpa using hv) (hK _ hC)
    ·exact st_call1 (og ho rfl) 10 (.tmp 22) #[26] (oo ho rfl) (ri 2 (hf ⟨2, .data⟩ (oa ho rfl) rfl)) (fun _ _ => rfl) (hrv W) (by (intro u w9 h9; rw [Ending.returned.inj h9.1]; exact hK _ (below_call hC hC.size h9.2))) (by rintro ch w9 h9; revert h9; rintro ⟨h9, _⟩; cases h9) (by rintro w9 h9; revert h9; rintro ⟨h9, _⟩; cases h9)
    ·exact st_bin (og ho rfl) .neq 4 4 (.tmp 21) (.tmp 23) (oo ho rfl) (ri 1 (hf ⟨1, .data⟩ (oa ho rfl) rfl)) (ri 3 (hf ⟨3, .data⟩ (oa ho rfl) rfl)) (by kernel_rfl) (neq4 true W) (hK _ hC)
   case hend =>
    intro W hC
    simp only [putL, Act.put, List.setIfInBounds_toArray, List.set_cons_succ, List.set_cons_zero]
    have hM4 := hM3.call hC
    have hB4 := below_call hB3 hB3.size hC
    clear hM3 hB3 hC hva
    generalize W = w4 at *
    go_wp2_with (first | (refine wpList_loadO rfl 26 (.tmp 2) rfl q _ 26 rfl hM4 (by kernel_rfl) ?_) | fail)
    refine (hrv w4).mono ?_
    rintro e w5 ⟨rfl, hb⟩
    replace hM4 := hM4.call hb
    have hB5 := below_call hB4 hB4.size hb
    clear hB4 hb hrv
    go_wp2_with (first | (refine wpList_loadO rfl 26 (.tmp 2) rfl q _ 26 rfl hM4 (by kernel_rfl) ?_) | fail)
    refine (hrt w5).mono ?_
    rintro e w4 ⟨rfl, hb⟩
    replace hB5 := below_call hB5 hB5.size hb
    have hg5 := hg.call hB5
    have hm5 := hm.call hB5 hw0
    clear hM4 hb hrt
    have hpa := fun W hm => parse_any s W (by omega) hm
    have hrp := fun W => refParse_any s W (by omega)
    go_wp2_with fail
    refine (hpa _ hm5).mono ?_
    rintro e w6 ⟨rfl, hb6⟩
    replace hB5 := below_call hB5 hB5.size hb6
    replace hg5 := hg5.call hb6
    replace hm5 := hm.call hB5 hw0
    clear hpa hb6
    rcases hps : parseC s with _ | mp
    ·have e1 : parseV s = .tuple #[.agg zeroMen.cs.toArray, .int .i64 6] := by unfold parseV; rw [hps]
     have e2 : parseR s = .tuple #[.agg zeroMen.cs.toArray, .bool false] := by unfold parseR; rw [hps]
     simp only [e2] at hrp
     rw [e1]
     clear e1 e2
     have hQ := HasO.new w6 (.cells zeroMen.cs.toArray 26)
     have hbx := below_box w6 (.cells zeroMen.cs.toArray 26)
     replace hB5 := below_call hB5 hB5.size hbx
     replace hg5 := hg5.call hbx
     replace hm5 := hm.call hB5 hw0
     clear hbx
     go_upto_region 12 with fail
     show Code.wp _ _ _ _ (w6.alloc (.cells zeroMen.cs.toArray 26))
     generalize w6.alloc (.cells zeroMen.cs.toArray 26) = w7 at *
     generalize w6.heap.size = q7 at *
     go_wp2_with fail
     refine (hrp w7).mono ?_
     rintro e w8 ⟨rfl, hb8⟩
     replace hB5 := below_call hB5 hB5.size hb8
     replace hg5 := hg5.call hb8
     replace hQ := hQ.call hb8
     have hbx := below_box w8 (.cells zeroMen.cs.toArray 26)
     replace hB5 := below_call hB5 hB5.size hbx
     replace hg5 := hg5.call hbx
     replace hm5 := hm.call hB5 hw0
     replace hQ := hQ.call hbx
     clear hbx hb8 hrp
     have hme := men_eql zeroMen zeroMen
     rw [decide_eq_true (rfl : zeroMen = zeroMen)] at hme
     go_upto_region 14 with fail
     show Code.wp _ _ _ _ (w8.alloc (.cells zeroMen.cs.toArray 26))
     generalize w8.alloc (.cells zeroMen.cs.toArray 26) = w9 at *
     go_wp2_with (first | (refine wpList_loadO rfl 26 (.tmp 7) rfl q7 _ 26 rfl hQ (by kernel_rfl) ?_) | (refine wpList_eqlM rfl (.tmp 54) (.tmp 55) rfl zeroMen rfl rfl ?_) | fail)
     refine (known_any w9 hg5 hm5).mono ?_
     rintro e w10 ⟨rfl, hb10⟩
     have hB10 := below_call hB5 hB5.size hb10
     go_wp2_with fail
     go_ret
     exact ⟨rfl, hB10⟩
    ·have e1 : parseV s = .tuple #[.agg mp.cs.toArray, .int .i64 0] := by unfold parseV; rw [hps]
     have e2 : parseR s = .tuple #[.agg mp.cs.toArray, .bool true] := by unfold parseR; rw [hps]
     simp only [e2] at hrp
     rw [e1]
     clear e1 e2
     have hQ := HasO.new w6 (.cells mp.cs.toArray 26)
     have hbx := below_box w6 (.cells mp.cs.toArray 26)
     replace hB5 := below_call hB5 hB5.size hbx
     replace hg5 := hg5.call hbx
     replace hm5 := hm.call hB5 hw0
     clear hbx
     go_upto_region 12 with fail
     show Code.wp _ _ _ _ (w6.alloc (.cells mp.cs.toArray 26))
     generalize w6.alloc (.cells mp.cs.toArray 26) = w7 at *
     generalize w6.heap.size = q7 at *
     go_wp2_with fail
     refine (hrp w7).mono ?_
     rintro e w8 ⟨rfl, hb8⟩
     replace hB5 := below_call hB5 hB5.size hb8
     replace hg5 := hg5.call hb8
     replace hQ := hQ.call hb8
     have hR := HasO.new w8 (.cells mp.cs.toArray 26)
     have hbx := below_box w8 (.cells mp.cs.toArray 26)
     replace hB5 := below_call hB5 hB5.size hbx
     replace hg5 := hg5.call hbx
     replace hm5 := hm.call hB5 hw0
     replace hQ := hQ.call hbx
     clear hbx hb8 hrp
     have hme := men_eql mp mp
     rw [decide_eq_true (rfl : mp = mp)] at hme
     go_upto_region 15 with fail
     show Code.wp _ _ _ _ (w8.alloc (.cells mp.cs.toArray 26))
     generalize w8.alloc (.cells mp.cs.toArray 26) = w9 at *
     generalize w8.heap.size = q9 at *
     go_wp2_with (first | (refine wpList_loadO rfl 26 (.tmp 7) rfl q7 _ 26 rfl hQ (by kernel_rfl) ?_) | (refine wpList_loadO rfl 26 (.tmp 9) rfl q9 _ 26 rfl hR (by kernel_rfl) ?_) | fail)
     refine (known_any w9 hg5 hm5).mono ?_
     rintro e w10 ⟨rfl, hb10⟩
     have hB10 := below_call hB5 hB5.size hb10
     go_wp2_with fail
     go_ret
     exact ⟨rfl, hB10⟩
end Go.Proofs.YtnpomigmeieofaaGreatDoor
namespace Go.Proofs.YtnpomigmeieofaaGreatDoor
open Go.RowKit
attribute [local go_sem] Oper.semAt_some

theorem arr_setCell {W W' : World} {q : Nat} {f r ca pa ha fu : Int} {bl : Bool} {p0 : Option Addr} {n c : Nat} {p : Option Addr} {xs : List Int} (h : Arr .i8 W p xs) (hq : HasO W q (.cells (posCs f r p0 n c bl ca pa ha fu).toArray 40 (0, 0))) (hA : Alt q (q + 1) W W') : Arr .i8 W' p xs := by
 rcases h with rfl | ⟨b, o, rfl, hl, hc⟩
 ·exact .inl rfl
 ·by_cases hz : xs = []
  ·exact .inl hz
  ·have hne : b ≠ q := by
    rintro rfl
    have h0 := hc 0 (by cases xs; exact absurd rfl hz; simp)
    rw [hq.cells (o + 0)] at h0
    rcases o with _ | _ | _ | _ | _ | _ | _ | _ | o <;> simp at h0
   refine .inr ⟨b, o, rfl, Nat.lt_of_lt_of_le hl hA.size, fun j hj => ?_⟩
   rw [← hc j hj]
   unfold World.cell?
   rw [hA.block b hl (by omega)]
set_option maxRecDepth 100000 in
set_option maxHeartbeats 12800000 in
theorem IndexNumbers_any (f r ca pa ha fu : Int) (bl : Bool) (p : Option Addr) (c : Nat) (xs : List Int) (hca : 0 ≤ ca ∧ ca < 256) (hpc : p = none → c = 0) (h8 : ∀ x ∈ xs, -128 ≤ x ∧ x ≤ 127) (w : World) (hg : GlobOk w) (hm : MaxOk w) (hx : Arr .i8 w p xs) :
  Calls Tryz.prog 4 #[.agg (posCs f r p xs.length c bl ca pa ha fu).toArray] w fun e w' => e = .returned (.bool true) ∧ Below w.heap.size w w' := by
 have hw0 : 0 < w.heap.size := by obtain ⟨_, _, h⟩ := hm; exact h
 obtain ⟨i81, hi81, hz81, hs81, hy81⟩ := info_parts info81
 have hM := HasO.new w (.cells (posCs f r p xs.length c bl ca pa ha fu).toArray 40)
 have hB := below_box w (.cells (posCs f r p xs.length c bl ca pa ha fu).toArray 40)
 have hg0 := hg
 have hm0 := hm
 replace hg := hg.call hB
 replace hx := hx.call hB
 replace hm := hm.call hB hw0
 go_enter Tryz.func4, Tryz.ntmps4
 go_upto_region 1 with fail
 show Code.wp _ _ _ _ (w.alloc (.cells (posCs f r p xs.length c bl ca pa ha fu).toArray 40))
 have hsz : w.heap.size < (w.alloc (.cells (posCs f r p xs.length c bl ca pa ha fu).toArray 40)).heap.size := by simp
 generalize w.alloc (.cells (posCs f r p xs.length c bl ca pa ha fu).toArray 40) = w1 at *
 obtain ⟨q, hq⟩ : ∃ q, q = w.heap.size := ⟨_, rfl⟩
 rw [← hq] at hM ⊢
 replace hq := Lib.hid hq
 have hc := hM.cells
 have hlM := hM.lt
 by_cases hl : 70 < xs.length
 ·have hli : (xs.length : Int) > 70 := by omega
  go_wp2_with fail
  refine (known_any w1 hg hm).mono ?_
  rintro e w2 ⟨rfl, hb⟩
  have hB2 := below_call hB hB.size hb
  go_wp2_with fail
  go_ret
  exact ⟨rfl, hB2⟩
 ·have hli : ¬ (xs.length : Int) > 70 := by omega
  have hl' : xs.length ≤ 70 := by omega
  clear hl
  go_upto_region 3 with fail
  clear hc hlM
  have hO := HasO.new w1 (.cells (posCs f r p xs.length c bl ca pa ha fu).toArray 40)
  have hbx := below_box w1 (.cells (posCs f r p xs.length c bl ca pa ha fu).toArray 40)
  have hM1 := hM
  replace hM := hM.call hbx
  replace hB := below_call hB hB.size hbx
  replace hg := hg.call hbx
  replace hx := hx.call hbx
  clear hbx
  go_upto_region 4 with (first | (refine wpList_loadO rfl 40 (.tmp 1) rfl q _ 40 rfl hM1 (by kernel_rfl) ?_) | fail)
  show Code.wp _ _ _ _ (w1.alloc (.cells (posCs f r p xs.length c bl ca pa ha fu).toArray 40))
  generalize w1.alloc (.cells (posCs f r p xs.length c bl ca pa ha fu).toArray 40) = w2 at *
  have hq3 : q < w1.heap.size := hM1.lt
  generalize w1.heap.size = q3 at *
  clear hM1
  have hc := hM.cells
  have hlM := hM.lt
  have hlO := hO.lt
  have hs2 := hB.size
  go_upto_region 5 with (first | (at_builtin; refine wpList_appendArr rfl _ (.tmp 17) 38 rfl w2.heap.size 81 i81 _ 1 Tryz.underlying38 hi81 hz81 hs81 hy81 rfl .i8 rfl rfl hpc hx (by omega) (Nat.le_refl _) ?_; intro v' w3 hown hb3; obtain ⟨p3, c3, rfl, hc3, hx3⟩ := own_arr hown; have hO3 := hO.call hb3; have hd := hO3.cells 2; have hfz := hO3.frozen 2; have hlO3 := hO3.lt) | fail)
  show Code.wp _ _ _ _ (w3.setCell ⟨q3, 2, none⟩ (.slice p3 xs.length c3))
  have hA : Alt q3 (q3 + 1) w3 (w3.setCell ⟨q3, 2, none⟩ (.slice p3 xs.length c3)) := Alt.setCell ⟨Nat.le_refl _, Nat.lt_succ_self _⟩
  have hO4 : HasO (w3.setCell ⟨q3, 2, none⟩ (.slice p3 xs.length c3)) q3 (.cells (posCs f r p3 xs.length c3 bl ca pa ha fu).toArray 40 (0, 0)) := hO3.set_ 2 _
  have hM4 := hA.hasO (hM.call hb3) (by omega)
  have hx4 := arr_setCell (hx.call hb3) hO3 hA
  have hx34 := arr_setCell hx3 hO3 hA
  have hB4 := hA.below (below_call hB hs2 hb3) (by omega) (Nat.le_trans hs2 hb3.size)
  clear hA hO3 hM hx hx3 hB hb3 hd hfz hlO3 hc hlM hlO hs2 hown hO hg hm
  generalize w3.setCell ⟨q3, 2, none⟩ (.slice p3 xs.length c3) = w4 at *
  have hofp := idxOfP_any f r ca pa ha fu bl p3 c3 xs hca (by omega) hc3 h8
  have hnum := fun W hg hx => idxNumber_any f r ca pa ha fu bl p3 c3 xs hca (by omega) hc3 h8 (fun h9 _ => (pv_fac h9).2) W hg hx
  have hrnm := fun W hx => refIdxNumber_any f r ca pa ha fu bl p c xs hca (by omega) h8 W hx
  have hrpv := fun W hx => refPos_any f r ca pa ha fu bl p c xs hca.1 W hx
  have hrof := fun W hx => refIdxOf_any f r ca pa ha fu bl p c xs (by omega) h8 W hx
  have heq := fun W h1 h2 => equal_any f r ca pa ha fu bl p3 p xs.length c3 c xs rfl (by omega) W h1 h2
  obtain ⟨E, hE⟩ : ∃ E, E = ofE f r xs bl ca pa ha fu := ⟨_, rfl⟩
  have hofp' := hofp w4 (hg0.call hB4) hx34
  unfold ofV at hofp'
  rw [← hE] at hofp'
  obtain ⟨nv, hnv⟩ : ∃ x, x = numE f r xs bl ca pa ha fu := ⟨_, rfl⟩
  rw [← hnv] at hnum hrnm
  replace hE := Lib.hid hE
  replace hnv := Lib.hid hnv
  obtain ⟨e1, e2⟩ := E
  obtain ⟨n1, n2⟩ := nv
  clear hofp
  go_wp2_with (first | (refine wpList_loadO rfl 40 (.tmp 3) rfl q3 _ 40 rfl hO4 (by kernel_rfl) ?_) | fail)
  refine hofp'.mono ?_
  rintro e w5 ⟨rfl, hb⟩
  replace hO4 := hO4.call hb
  replace hM4 := hM4.call hb
  replace hx4 := hx4.call hb
  replace hx34 := hx34.call hb
  replace hB4 := below_call hB4 hB4.size hb
  have hE5 := HasO.new w5 (.cells e1.cs.toArray 26)
  have hbx := below_box w5 (.cells e1.cs.toArray 26)
  replace hO4 := hO4.call hbx
  replace hM4 := hM4.call hbx
  replace hx4 := hx4.call hbx
  replace hx34 := hx34.call hbx
  replace hB4 := below_call hB4 hB4.size hbx
  clear hb hbx hofp'
  go_upto_region 6 with fail
  show Code.wp _ _ _ _ (w5.alloc (.cells e1.cs.toArray 26))
  generalize w5.alloc (.cells e1.cs.toArray 26) = w6 at *
  generalize w5.heap.size = q5 at *
  go_wp2_with (first | (refine wpList_loadO rfl 40 (.tmp 3) rfl q3 _ 40 rfl hO4 (by kernel_rfl) ?_) | fail)
  refine (hnum w6 (hg0.call hB4) hx34).mono ?_
  rintro e w7 ⟨rfl, hb⟩
  replace hO4 := hO4.call hb
  replace hM4 := hM4.call hb
  replace hx4 := hx4.call hb
  replace hx34 := hx34.call hb
  replace hE5 := hE5.call hb
  replace hB4 := below_call hB4 hB4.size hb
  clear hb hnum
  go_wp2_with (first | (refine wpList_loadO rfl 40 (.tmp 1) rfl q _ 40 rfl hM4 (by kernel_rfl) ?_) | fail)
  refine (hrnm w7 hx4).mono ?_
  rintro e w8 ⟨rfl, hb⟩
  replace hO4 := hO4.call hb
  replace hM4 := hM4.call hb
  replace hx4 := hx4.call hb
  replace hx34 := hx34.call hb
  replace hE5 := hE5.call hb
  replace hB4 := below_call hB4 hB4.size hb
  clear hb hrnm
  go_wp2_with (first | (refine wpList_loadO rfl 40 (.tmp 3) rfl q3 _ 40 rfl hO4 (by kernel_rfl) ?_) | (refine wpList_loadO rfl 40 (.tmp 1) rfl q _ 40 rfl hM4 (by kernel_rfl) ?_) | fail)
  refine (heq w8 hx34 hx4).mono ?_
  rintro e w9 ⟨rfl, hb⟩
  replace hM4 := hM4.call hb
  replace hx4 := hx4.call hb
  replace hE5 := hE5.call hb
  replace hB4 := below_call hB4 hB4.size hb
  clear hb heq hO4 hx34
  obtain ⟨pv, hpv⟩ : ∃ x, x = pvB f r xs bl ca pa ha fu := ⟨_, rfl⟩
  have hrpv' := hrpv w9 hx4
  rw [← hpv] at hrpv'
  replace hpv := Lib.hid hpv
  clear hrpv
  go_wp2_with (first | (refine wpList_loadO rfl 40 (.tmp 1) rfl q _ 40 rfl hM4 (by kernel_rfl) ?_) | fail)
  refine hrpv'.mono ?_
  rintro e w5 ⟨rfl, hb⟩
  replace hM4 := hM4.call hb
  replace hx4 := hx4.call hb
  replace hE5 := hE5.call hb
  replace hB4 := below_call hB4 hB4.size hb
  clear hb hrpv'
  have hg5 := hg0.call hB4
  have hm5 := hm0.call hB4 hw0
  cases pv
  ·have h9 : (e1, e2) = (zeroMen, (2 : Int)) := by rw [hE.out]; unfold ofE; rw [if_neg (by rw [← hpv.out]; decide)]
   injection h9 with h91 h92
   subst h91 h92
   go_wp2_with (first | (refine wpList_loadO rfl 26 (.tmp 4) rfl q5 _ 26 rfl hE5 (by kernel_rfl) ?_) | (refine wpList_eqlM rfl (.tmp 52) (.tmp 53) rfl zeroMen rfl rfl ?_) | fail)
   refine (known_any w5 hg5 hm5).mono ?_
   rintro e w6 ⟨rfl, hb⟩
   have hB6 := below_call hB4 hB4.size hb
   go_wp2_with fail
   go_ret
   exact ⟨rfl, hB6⟩
  ·obtain ⟨mo, hmo⟩ : ∃ m, m = ofM f r xs xs.length := ⟨_, rfl⟩
   rw [← hmo] at hrof
   go_wp2_with (first | (refine wpList_loadO rfl 40 (.tmp 1) rfl q _ 40 rfl hM4 (by kernel_rfl) ?_) | fail)
   refine (hrof w5 hx4).mono ?_
   rintro e w6 ⟨rfl, hb⟩
   replace hM4 := hM4.call hb
   replace hx4 := hx4.call hb
   replace hE5 := hE5.call hb
   replace hB4 := below_call hB4 hB4.size hb
   clear hb hg5 hm5
   obtain ⟨vb, hvb⟩ : ∃ b, b = validB mo := ⟨_, rfl⟩
   have hrv := refValid_any mo w6
   rw [← hvb] at hrv
   replace hvb := Lib.hid hvb
   replace hmo := Lib.hid hmo
   go_wp2_with fail
   refine hrv.mono ?_
   rintro e w5 ⟨rfl, hb⟩
   have hM6 := hM4.call hb
   have hx6 := hx4.call hb
   have hE6 := hE5.call hb
   have hB6 := below_call hB4 hB4.size hb
   have hg6 := hg0.call hB6
   have hm6 := hm0.call hB6 hw0
   clear hb hrv hM4 hx4 hE5 hB4
   generalize w5 = w6 at *
   cases vb
   ·have h9 : (e1, e2) = (zeroMen, (7 : Int)) := by rw [hE.out]; unfold ofE; rw [if_pos hpv.out.symm, if_neg (by rw [← hmo.out, ← hvb.out]; decide)]
    injection h9 with h91 h92
    subst h91 h92
    go_wp2_with (first | (refine wpList_loadO rfl 26 (.tmp 4) rfl q5 _ 26 rfl hE6 (by kernel_rfl) ?_) | (refine wpList_eqlM rfl (.tmp 66) (.tmp 67) rfl zeroMen rfl rfl ?_) | fail)
    refine (known_any w6 hg6 hm6).mono ?_
    rintro e w7 ⟨rfl, hb⟩
    have hB7 := below_call hB6 hB6.size hb
    go_wp2_with fail
    go_ret
    exact ⟨rfl, hB7⟩
   ·have h9 : (e1, e2) = (mo, (0 : Int)) := by rw [hE.out]; unfold ofE; rw [if_pos hpv.out.symm, if_pos (by rw [← hmo.out, ← hvb.out]), hmo.out]
    injection h9 with h91 h92
    subst h91 h92
    go_wp2_with fail
    refine wp_region_valsL (by kernel_rfl) (by kernel_rfl) [some 76, some 77, some 78, some 79, some 80, some 81, some 82, some 83, some 84, some 85, some 86, some 2] (by rfl) (by rfl) (fun i8 => match i8 with | 0 => .agg e1.cs.toArray | 1 => .agg (posCs f r p xs.length c bl ca pa ha fu).toArray | 2 => .agg e1.cs.toArray | 3 => .bool true | 4 => .bool true | 5 => .int .i64 0 | 6 => .bool true | 7 => .bool true | 8 => .bool true | 9 => .bool true | 10 => .bool true | 11 => .bool true | _ => undef) (fun W => Below w6.heap.size w6 W) ((Below.refl _ _).drew) ?hstep ?hend
    case hstep =>
     intro i9 o9 f9 W ho hi hC hf K hK
     have hi : i9 < 12 := hi
     rcases (by omega : i9 = 0 ∨ i9 = 1 ∨ i9 = 2 ∨ i9 = 3 ∨ i9 = 4 ∨ i9 = 5 ∨ i9 = 6 ∨ i9 = 7 ∨ i9 = 8 ∨ i9 = 9 ∨ i9 = 10 ∨ i9 = 11) with rfl | rfl | rfl | rfl | rfl | rfl | rfl | rfl | rfl | rfl | rfl | rfl
     ·exact st_loadA (og ho rfl) 26 (.tmp 4) (oo ho rfl) (rd_out rfl rfl) e1.cs (by kernel_rfl) (fun j v hv => by rw [Nat.zero_add, (hE6.call hC).cells j]; simpa using hv) (hK _ hC)
     ·exact st_loadA (og ho rfl) 40 (.tmp 1) (oo ho rfl) (rd_out rfl rfl) (posCs f r p xs.length c bl ca pa ha fu) (by kernel_rfl) (fun j v hv => by rw [Nat.zero_add, (hM6.call hC).cells j]; simpa using hv) (hK _ hC)
     ·exact st_call1 (og ho rfl) 19 (.tmp 77) #[40] (oo ho rfl) (ri 1 (hf ⟨1, .data⟩ (oa ho rfl) rfl)) (fun _ _ => rfl) (hrof W (hx6.call hC)) (by (intro u w9 h9; rw [Ending.returned.inj h9.1]; exact hK _ (below_call hC hC.size h9.2))) (by rintro ch w9 h9; revert h9; rintro ⟨h9, _⟩; cases h9) (by rintro w9 h9; revert h9; rintro ⟨h9, _⟩; cases h9)
     ·exact st_bin (og ho rfl) .eql 26 26 (.tmp 76) (.tmp 78) (oo ho rfl) (ri 0 (hf ⟨0, .data⟩ (oa ho rfl) rfl)) (ri 2 (hf ⟨2, .data⟩ (oa ho rfl) rfl)) (men_guard .eql _ _ _ _ _) ((men_eql e1 e1 W).trans (by rw [decide_eq_true rfl]; rfl)) (hK _ hC)
     ·exact st_move (og ho rfl) (.tmp 79) (oo ho rfl) (ri 3 (hf ⟨3, .data⟩ (oa ho rfl) rfl)) (hK _ hC)
     ·exact gd (wanted_of rfl 4 true 80 (og ho rfl) rfl rfl (by simp) (hf ⟨4, .guard⟩ (oa ho rfl) rfl)) (st_move rfl (.tmp 5) (oo ho rfl) (rd_out rfl rfl) (hK _ hC))
     ·exact gd (wanted_of rfl 4 true 80 (og ho rfl) rfl rfl (by simp) (hf ⟨4, .guard⟩ (oa ho rfl) rfl)) (st_bin rfl .eql 28 28 (.tmp 81) (.const (.int .i64 0)) (oo ho rfl) (ri 5 (hf ⟨5, .data⟩ (oa ho rfl) rfl)) rfl (by kernel_rfl) (by kernel_rfl) (hK _ hC))
     ·exact st_pickT (og ho rfl) (.tmp 80) (.tmp 82) (.const (.bool false)) (oo ho rfl) (ri 4 (hf ⟨4, .data⟩ (oa ho rfl) rfl)) (ri 6 (hf ⟨6, .data⟩ (oa ho rfl) rfl)) (hK _ hC)
     ·exact st_move (og ho rfl) (.tmp 83) (oo ho rfl) (ri 7 (hf ⟨7, .data⟩ (oa ho rfl) rfl)) (hK _ hC)
     ·exact gd (wanted_of rfl 8 true 84 (og ho rfl) rfl rfl (by simp) (hf ⟨8, .guard⟩ (oa ho rfl) rfl)) (st_call0 rfl 7 (oo ho rfl) (fun _ _ => rfl) (known_any W (hg6.call hC) (hm6.call hC (by have := hB6.size; omega))) (by (intro u w9 h9; rw [Ending.returned.inj h9.1]; exact hK _ (below_call hC hC.size h9.2))) (by rintro ch w9 h9; revert h9; rintro ⟨h9, _⟩; cases h9) (by rintro w9 h9; revert h9; rintro ⟨h9, _⟩; cases h9))
     ·exact st_pickT (og ho rfl) (.tmp 84) (.tmp 85) (.const (.bool false)) (oo ho rfl) (ri 8 (hf ⟨8, .data⟩ (oa ho rfl) rfl)) (ri 9 (hf ⟨9, .data⟩ (oa ho rfl) rfl)) (hK _ hC)
     ·exact st_assign (og ho rfl) (.tmp 86) (oo ho rfl) (ri 10 (hf ⟨10, .data⟩ (oa ho rfl) rfl)) (hK _ hC)
    case hend =>
     intro W hC
     go_wp2_with fail
     refine bodyPost_ret (results_tmp (fn := Tryz.f4) Tryz.results4 _ _ _) (by rw [putL_defers]) ?_
     refine ⟨?_, below_call hB6 hB6.size hC⟩
     rw [slot_in rfl 11 rfl (by simp) rfl]
     rfl
end Go.Proofs.YtnpomigmeieofaaGreatDoor
