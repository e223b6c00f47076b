/- The law IndexTexts returns true at every set of pieces and every string that a start may hand it; the four listed variables hold what the program's own text lays in them. The arguments read behind the call as they read before. -/
import Derived.Test.YtnpomigmeieofaaGreatDoorH23
import Derived.Test.YtnpomigmeieofaaGreatDoorH33
import Derived.Test.YtnpomigmeieofaaGreatDoorH44
import Derived.Test.YtnpomigmeieofaaGreatDoorRows
import Derived.HandedShaped
import Derived.ProofKit
import Derived.Shelf.Vars
import Derived.LaidMore
import Derived.OpenShut
import Derived.Test.YtnpomigmeieofaaGreatDoorTie
import Derived.Test.YtnpomigmeieofaaGreatDoorCards
import Derived.SevenTiedAt
namespace Go.Proofs.YtnpomigmeieofaaGreatDoor
open Go.RowKit
attribute [local go_sem] Oper.semAt_some

theorem neq4 (b : Bool) (W : World) : (binOp .neq 4 (.bool b) (.bool b)).run Tryz.prog W = .ok (.bool false) W := by cases b <;> kernel_rfl
theorem neq9 (b : ByteArray) (W : World) : (binOp .neq 9 (.string b) (.string b)).run Tryz.prog W = .ok (.bool false) W := by simp [go_sem]
theorem wpList_eqlM {ops : Array Oper} {rest : List Oper} {o : Oper} {a : Act} {Q : Exit → Act → World → Prop} {w : World} (hg : o.guard = none) (x y : Operand) (hop : o.op = Op.binOp .eql 26 x y 26) (m : Men)
  (hx : a.eval x = .agg m.cs.toArray) (hy : a.eval y = .agg m.cs.toArray) (hK : wpList Tryz.prog ops Q rest (a.put o.dst (.bool true)) w) : wpList Tryz.prog ops Q (o :: rest) a w := by
 refine wpList_plain hg fun K' hK' => ?_
 have h := st_bin (P := Tryz.prog) (Q := Q) (t := fun _ => none) (X := False) hg .eql 26 26 x y hop hx hy (men_guard .eql _ _ _ _ _) ((men_eql m m w).trans (by rw [decide_eq_true rfl])) (hK' _ _ hK)
 rwa [if_pos (wanted_none hg)] at h
set_option maxRecDepth 100000 in
set_option maxHeartbeats 12800000 in
theorem IndexTexts_any (m : Men) (s : List UInt8) (hs : s.length ≤ 9223372036854775807) (w : World) (hg : GlobOk w) (hm : MaxOk w) :
  Calls Tryz.prog 3 #[.agg m.cs.toArray, .string (str s)] w fun e w' => e = .returned (.bool true) ∧ Below w.heap.size w w' := by
 have hw0 : 0 < w.heap.size := by obtain ⟨_, _, h⟩ := hm; exact h
 have hM := HasO.new w (.cells m.cs.toArray 26)
 have hB := below_box w (.cells m.cs.toArray 26)
 have hz := str_size s
 go_enter Tryz.func3, Tryz.ntmps3
 go_upto_region 1 with fail
 show Code.wp _ _ _ _ (w.alloc (.cells m.cs.toArray 26))
 generalize w.alloc (.cells m.cs.toArray 26) = w1 at *
 obtain ⟨q, hq⟩ : ∃ q, q = w.heap.size := ⟨_, rfl⟩
 rw [← hq] at hM ⊢
 replace hq := Lib.hid hq
 by_cases hl : 100 < s.length
 ·have hli : (s.length : Int) > 100 := by omega
  go_wp2_with fail
  refine (known_any w1 (hg.call hB) (hm.call hB hw0)).mono ?_
  rintro e w2 ⟨rfl, hb⟩
  have hB2 := below_call hB hB.size hb
  go_wp2_with fail
  go_ret
  exact ⟨rfl, hB2⟩
 ·have hli : ¬ (s.length : Int) > 100 := by omega
  have hl' : s.length ≤ 100 := by omega
  have htx := fun W => Text_any m W
  obtain ⟨vb, hvb⟩ : ∃ b, b = validB m := ⟨_, rfl⟩
  have hva := fun W => valid_any m W
  have hrv := fun W => refValid_any m W
  rw [← hvb] at htx hva hrv
  have hrt := fun (h : vb = true) W => refText_any m W (Lib.hid (hvb.symm.trans h))
  replace hvb := Lib.hid hvb
  cases vb
  ·simp only [Bool.false_eq_true, if_false] at htx
   simp only [show str [] = { data := #[] } from rfl] at htx
   clear hrt
   go_wp2_with (first | (refine wpList_loadO rfl 26 (.tmp 2) rfl q _ 26 rfl hM (by kernel_rfl) ?_) | fail)
   refine (htx w1).mono ?_
   rintro e w3 ⟨rfl, hb⟩
   have hM3 := hM.call hb
   have hB3 := below_call hB hB.size hb
   clear hM hB hb htx
   go_wp2_with fail
   refine wp_region_valsL (by kernel_rfl) (by kernel_rfl) [some 20, some 21, some 22, some 23, some 24] (by rfl) (by rfl) (fun i8 => match i8 with | 0 => .agg m.cs.toArray | 1 => .bool false | 2 => .agg m.cs.toArray | 3 => .bool false | 4 => .bool false | _ => undef) (fun W => Below w3.heap.size w3 W) ((Below.refl _ _).drew) ?hstep ?hend
   case hstep =>
    intro i9 o9 f9 W ho hi hC hf K hK
    have hi : i9 < 5 := hi
    rcases (by omega : i9 = 0 ∨ i9 = 1 ∨ i9 = 2 ∨ i9 = 3 ∨ i9 = 4) with rfl | rfl | rfl | rfl | rfl
    ·exact st_loadA (og ho rfl) 26 (.tmp 2) (oo ho rfl) (rd_out rfl rfl) m.cs (by kernel_rfl) (fun j v hv => by rw [Nat.zero_add, (hM3.call hC).cells j]; simpa using hv) (hK _ hC)
    ·exact st_call1 (og ho rfl) 9 (.tmp 20) #[26] (oo ho rfl) (ri 0 (hf ⟨0, .data⟩ (oa ho rfl) rfl)) (fun _ _ => rfl) (hva W) (by (intro u w9 h9; rw [Ending.returned.inj h9.1]; exact hK _ (below_call hC hC.size h9.2))) (by rintro ch w9 h9; revert h9; rintro ⟨h9, _⟩; cases h9) (by rintro w9 h9; revert h9; rintro ⟨h9, _⟩; cases h9)
    ·exact st_loadA (og ho rfl) 26 (.tmp 2) (oo ho rfl) (rd_out rfl rfl) m.cs (by kernel_rfl) (fun j v hv => by rw [Nat.zero_add, (hM3.call hC).cells j]; simpa using hv) (hK _ hC)
    ·exact st_call1 (og ho rfl) 10 (.tmp 22) #[26] (oo ho rfl) (ri 2 (hf ⟨2, .data⟩ (oa ho rfl) rfl)) (fun _ _ => rfl) (hrv W) (by (intro u w9 h9; rw [Ending.returned.inj h9.1]; exact hK _ (below_call hC hC.size h9.2))) (by rintro ch w9 h9; revert h9; rintro ⟨h9, _⟩; cases h9) (by rintro w9 h9; revert h9; rintro ⟨h9, _⟩; cases h9)
    ·exact st_bin (og ho rfl) .neq 4 4 (.tmp 21) (.tmp 23) (oo ho rfl) (ri 1 (hf ⟨1, .data⟩ (oa ho rfl) rfl)) (ri 3 (hf ⟨3, .data⟩ (oa ho rfl) rfl)) (by kernel_rfl) (neq4 false W) (hK _ hC)
   case hend =>
    intro W hC
    simp only [putL, Act.put, List.setIfInBounds_toArray, List.set_cons_succ, List.set_cons_zero]
    have hM4 := hM3.call hC
    have hB4 := below_call hB3 hB3.size hC
    clear hM3 hB3 hC hva
    generalize W = w4 at *
    go_wp2_with (first | (refine wpList_loadO rfl 26 (.tmp 2) rfl q _ 26 rfl hM4 (by kernel_rfl) ?_) | fail)
    refine (hrv w4).mono ?_
    rintro e w5 ⟨rfl, hb⟩
    have hB5 := below_call hB4 hB4.size hb
    have hg5 := hg.call hB5
    have hm5 := hm.call hB5 hw0
    clear hM4 hB4 hb hrv
    have hpa := fun W hm => parse_any s W (by omega) hm
    have hrp := fun W => refParse_any s W (by omega)
    go_wp2_with fail
    refine (hpa _ hm5).mono ?_
    rintro e w6 ⟨rfl, hb6⟩
    replace hB5 := below_call hB5 hB5.size hb6
    replace hg5 := hg5.call hb6
    replace hm5 := hm.call hB5 hw0
    clear hpa hb6
    rcases hps : parseC s with _ | mp
    ·have e1 : parseV s = .tuple #[.agg zeroMen.cs.toArray, .int .i64 6] := by unfold parseV; rw [hps]
     have e2 : parseR s = .tuple #[.agg zeroMen.cs.toArray, .bool false] := by unfold parseR; rw [hps]
     simp only [e2] at hrp
     rw [e1]
     clear e1 e2
     have hQ := HasO.new w6 (.cells zeroMen.cs.toArray 26)
     have hbx := below_box w6 (.cells zeroMen.cs.toArray 26)
     replace hB5 := below_call hB5 hB5.size hbx
     replace hg5 := hg5.call hbx
     replace hm5 := hm.call hB5 hw0
     clear hbx
     go_upto_region 12 with fail
     show Code.wp _ _ _ _ (w6.alloc (.cells zeroMen.cs.toArray 26))
     generalize w6.alloc (.cells zeroMen.cs.toArray 26) = w7 at *
     generalize w6.heap.size = q7 at *
     go_wp2_with fail
     refine (hrp w7).mono ?_
     rintro e w8 ⟨rfl, hb8⟩
     replace hB5 := below_call hB5 hB5.size hb8
     replace hg5 := hg5.call hb8
     replace hQ := hQ.call hb8
     have hbx := below_box w8 (.cells zeroMen.cs.toArray 26)
     replace hB5 := below_call hB5 hB5.size hbx
     replace hg5 := hg5.call hbx
     replace hm5 := hm.call hB5 hw0
     replace hQ := hQ.call hbx
     clear hbx hb8 hrp
     have hme := men_eql zeroMen zeroMen
     rw [decide_eq_true (rfl : zeroMen = zeroMen)] at hme
     go_upto_region 14 with fail
     show Code.wp _ _ _ _ (w8.alloc (.cells zeroMen.cs.toArray 26))
     generalize w8.alloc (.cells zeroMen.cs.toArray 26) = w9 at *
     go_wp2_with (first | (refine wpList_loadO rfl 26 (.tmp 7) rfl q7 _ 26 rfl hQ (by kernel_rfl) ?_) | (refine wpList_eqlM rfl (.tmp 54) (.tmp 55) rfl zeroMen rfl rfl ?_) | fail)
     refine (known_any w9 hg5 hm5).mono ?_
     rintro e w10 ⟨rfl, hb10⟩
     have hB10 := below_call hB5 hB5.size hb10
     go_wp2_with fail
     go_ret
     exact ⟨rfl, hB10⟩
    ·have e1 : parseV s = .tuple #[.agg mp.cs.toArray, .int .i64 0] := by unfold parseV; rw [hps]
     have e2 : parseR s = .tuple #[.agg mp.cs.toArray, .bool true] := by unfold parseR; rw [hps]
     simp only [e2] at hrp
     rw [e1]
     clear e1 e2
     have hQ := HasO.new w6 (.cells mp.cs.toArray 26)
     have hbx := below_box w6 (.cells mp.cs.toArray 26)
     replace hB5 := below_call hB5 hB5.size hbx
     replace hg5 := hg5.call hbx
     replace hm5 := hm.call hB5 hw0
     clear hbx
     go_upto_region 12 with fail
     show Code.wp _ _ _ _ (w6.alloc (.cells mp.cs.toArray 26))
     generalize w6.alloc (.cells mp.cs.toArray 26) = w7 at *
     generalize w6.heap.size = q7 at *
     go_wp2_with fail
     refine (hrp w7).mono ?_
     rintro e w8 ⟨rfl, hb8⟩
     replace hB5 := below_call hB5 hB5.size hb8
     replace hg5 := hg5.call hb8
     replace hQ := hQ.call hb8
     have hR := HasO.new w8 (.cells mp.cs.toArray 26)
     have hbx := below_box w8 (.cells mp.cs.toArray 26)
     replace hB5 := below_call hB5 hB5.size hbx
     replace hg5 := hg5.call hbx
     replace hm5 := hm.call hB5 hw0
     replace hQ := hQ.call hbx
     clear hbx hb8 hrp
     have hme := men_eql mp mp
     rw [decide_eq_true (rfl : mp = mp)] at hme
     go_upto_region 15 with fail
     show Code.wp _ _ _ _ (w8.alloc (.cells mp.cs.toArray 26))
     generalize w8.alloc (.cells mp.cs.toArray 26) = w9 at *
     generalize w8.heap.size = q9 at *
     go_wp2_with (first | (refine wpList_loadO rfl 26 (.tmp 7) rfl q7 _ 26 rfl hQ (by kernel_rfl) ?_) | (refine wpList_loadO rfl 26 (.tmp 9) rfl q9 _ 26 rfl hR (by kernel_rfl) ?_) | fail)
     refine (known_any w9 hg5 hm5).mono ?_
     rintro e w10 ⟨rfl, hb10⟩
     have hB10 := below_call hB5 hB5.size hb10
     go_wp2_with fail
     go_ret
     exact ⟨rfl, hB10⟩
  ·simp only [if_true] at htx
   replace hrt := hrt rfl
   have hne := neq9 (str (textL m))
   go_wp2_with (first | (refine wpList_loadO rfl 26 (.tmp 2) rfl q _ 26 rfl hM (by kernel_rfl) ?_) | fail)
   refine (htx w1).mono ?_
   rintro e w3 ⟨rfl, hb⟩
   have hM3 := hM.call hb
   have hB3 := below_call hB hB.size hb
   clear hM hB hb htx
   go_wp2_with fail
   refine wp_region_valsL (by kernel_rfl) (by kernel_rfl) [some 20, some 21, some 22, some 23, some 24] (by rfl) (by rfl) (fun i8 => match i8 with | 0 => .agg m.cs.toArray | 1 => .bool true | 2 => .agg m.cs.toArray | 3 => .bool true | 4 => .bool false | _ => undef) (fun W => Below w3.heap.size w3 W) ((Below.refl _ _).drew) ?hstep ?hend
   case hstep =>
    intro i9 o9 f9 W ho hi hC hf K hK
    have hi : i9 < 5 := hi
    rcases (by omega : i9 = 0 ∨ i9 = 1 ∨ i9 = 2 ∨ i9 = 3 ∨ i9 = 4) with rfl | rfl | rfl | rfl | rfl
    ·exact st_loadA (og ho rfl) 26 (.tmp 2) (oo ho rfl) (rd_out rfl rfl) m.cs (by kernel_rfl) (fun j v hv => by rw [Nat.zero_add, (hM3.call hC).cells j]; simpa using hv) (hK _ hC)
    ·exact st_call1 (og ho rfl) 9 (.tmp 20) #[26] (oo ho rfl) (ri 0 (hf ⟨0, .data⟩ (oa ho rfl) rfl)) (fun _ _ => rfl) (hva W) (by (intro u w9 h9; rw [Ending.returned.inj h9.1]; exact hK _ (below_call hC hC.size h9.2))) (by rintro ch w9 h9; revert h9; rintro ⟨h9, _⟩; cases h9) (by rintro w9 h9; revert h9; rintro ⟨h9, _⟩; cases h9)
    ·exact st_loadA (og ho rfl) 26 (.tmp 2) (oo ho rfl) (rd_out rfl rfl) m.cs (by kernel_rfl) (fun j v hv => by rw [Nat.zero_add, (hM3.call hC).cells j]; simpa using hv) (hK _ hC)
    ·exact st_call1 (og ho rfl) 10 (.tmp 22) #[26] (oo ho rfl) (ri 2 (hf ⟨2, .data⟩ (oa ho rfl) rfl)) (fun _ _ => rfl) (hrv W) (by (intro u w9 h9; rw [Ending.returned.inj h9.1]; exact hK _ (below_call hC hC.size h9.2))) (by rintro ch w9 h9; revert h9; rintro ⟨h9, _⟩; cases h9) (by rintro w9 h9; revert h9; rintro ⟨h9, _⟩; cases h9)
    ·exact st_bin (og ho rfl) .neq 4 4 (.tmp 21) (.tmp 23) (oo ho rfl) (ri 1 (hf ⟨1, .data⟩ (oa ho rfl) rfl)) (ri 3 (hf ⟨3, .data⟩ (oa ho rfl) rfl)) (by kernel_rfl) (neq4 true W) (hK _ hC)
   case hend =>
    intro W hC
    simp only [putL, Act.put, List.setIfInBounds_toArray, List.set_cons_succ, List.set_cons_zero]
    have hM4 := hM3.call hC
    have hB4 := below_call hB3 hB3.size hC
    clear hM3 hB3 hC hva
    generalize W = w4 at *
    go_wp2_with (first | (refine wpList_loadO rfl 26 (.tmp 2) rfl q _ 26 rfl hM4 (by kernel_rfl) ?_) | fail)
    refine (hrv w4).mono ?_
    rintro e w5 ⟨rfl, hb⟩
    replace hM4 := hM4.call hb
    have hB5 := below_call hB4 hB4.size hb
    clear hB4 hb hrv
    go_wp2_with (first | (refine wpList_loadO rfl 26 (.tmp 2) rfl q _ 26 rfl hM4 (by kernel_rfl) ?_) | fail)
    refine (hrt w5).mono ?_
    rintro e w4 ⟨rfl, hb⟩
    replace hB5 := below_call hB5 hB5.size hb
    have hg5 := hg.call hB5
    have hm5 := hm.call hB5 hw0
    clear hM4 hb hrt
    have hpa := fun W hm => parse_any s W (by omega) hm
    have hrp := fun W => refParse_any s W (by omega)
    go_wp2_with fail
    refine (hpa _ hm5).mono ?_
    rintro e w6 ⟨rfl, hb6⟩
    replace hB5 := below_call hB5 hB5.size hb6
    replace hg5 := hg5.call hb6
    replace hm5 := hm.call hB5 hw0
    clear hpa hb6
    rcases hps : parseC s with _ | mp
    ·have e1 : parseV s = .tuple #[.agg zeroMen.cs.toArray, .int .i64 6] := by unfold parseV; rw [hps]
     have e2 : parseR s = .tuple #[.agg zeroMen.cs.toArray, .bool false] := by unfold parseR; rw [hps]
     simp only [e2] at hrp
     rw [e1]
     clear e1 e2
     have hQ := HasO.new w6 (.cells zeroMen.cs.toArray 26)
     have hbx := below_box w6 (.cells zeroMen.cs.toArray 26)
     replace hB5 := below_call hB5 hB5.size hbx
     replace hg5 := hg5.call hbx
     replace hm5 := hm.call hB5 hw0
     clear hbx
     go_upto_region 12 with fail
     show Code.wp _ _ _ _ (w6.alloc (.cells zeroMen.cs.toArray 26))
     generalize w6.alloc (.cells zeroMen.cs.toArray 26) = w7 at *
     generalize w6.heap.size = q7 at *
     go_wp2_with fail
     refine (hrp w7).mono ?_
     rintro e w8 ⟨rfl, hb8⟩
     replace hB5 := below_call hB5 hB5.size hb8
     replace hg5 := hg5.call hb8
     replace hQ := hQ.call hb8
     have hbx := below_box w8 (.cells zeroMen.cs.toArray 26)
     replace hB5 := below_call hB5 hB5.size hbx
     replace hg5 := hg5.call hbx
     replace hm5 := hm.call hB5 hw0
     replace hQ := hQ.call hbx
     clear hbx hb8 hrp
     have hme := men_eql zeroMen zeroMen
     rw [decide_eq_true (rfl : zeroMen = zeroMen)] at hme
     go_upto_region 14 with fail
     show Code.wp _ _ _ _ (w8.alloc (.cells zeroMen.cs.toArray 26))
     generalize w8.alloc (.cells zeroMen.cs.toArray 26) = w9 at *
     go_wp2_with (first | (refine wpList_loadO rfl 26 (.tmp 7) rfl q7 _ 26 rfl hQ (by kernel_rfl) ?_) | (refine wpList_eqlM rfl (.tmp 54) (.tmp 55) rfl zeroMen rfl rfl ?_) | fail)
     refine (known_any w9 hg5 hm5).mono ?_
     rintro e w10 ⟨rfl, hb10⟩
     have hB10 := below_call hB5 hB5.size hb10
     go_wp2_with fail
     go_ret
     exact ⟨rfl, hB10⟩
    ·have e1 : parseV s = .tuple #[.agg mp.cs.toArray, .int .i64 0] := by unfold parseV; rw [hps]
     have e2 : parseR s = .tuple #[.agg mp.cs.toArray, .bool true] := by unfold parseR; rw [hps]
     simp only [e2] at hrp
     rw [e1]
     clear e1 e2
     have hQ := HasO.new w6 (.cells mp.cs.toArray 26)
     have hbx := below_box w6 (.cells mp.cs.toArray 26)
     replace hB5 := below_call hB5 hB5.size hbx
     replace hg5 := hg5.call hbx
     replace hm5 := hm.call hB5 hw0
     clear hbx
     go_upto_region 12 with fail
     show Code.wp _ _ _ _ (w6.alloc (.cells mp.cs.toArray 26))
     generalize w6.alloc (.cells mp.cs.toArray 26) = w7 at *
     generalize w6.heap.size = q7 at *
     go_wp2_with fail
     refine (hrp w7).mono ?_
     rintro e w8 ⟨rfl, hb8⟩
     replace hB5 := below_call hB5 hB5.size hb8
     replace hg5 := hg5.call hb8
     replace hQ := hQ.call hb8
     have hR := HasO.new w8 (.cells mp.cs.toArray 26)
     have hbx := below_box w8 (.cells mp.cs.toArray 26)
     replace hB5 := below_call hB5 hB5.size hbx
     replace hg5 := hg5.call hbx
     replace hm5 := hm.call hB5 hw0
     replace hQ := hQ.call hbx
     clear hbx hb8 hrp
     have hme := men_eql mp mp
     rw [decide_eq_true (rfl : mp = mp)] at hme
     go_upto_region 15 with fail
     show Code.wp _ _ _ _ (w8.alloc (.cells mp.cs.toArray 26))
     generalize w8.alloc (.cells mp.cs.toArray 26) = w9 at *
     generalize w8.heap.size = q9 at *
     go_wp2_with (first | (refine wpList_loadO rfl 26 (.tmp 7) rfl q7 _ 26 rfl hQ (by kernel_rfl) ?_) | (refine wpList_loadO rfl 26 (.tmp 9) rfl q9 _ 26 rfl hR (by kernel_rfl) ?_) | fail)
     refine (known_any w9 hg5 hm5).mono ?_
     rintro e w10 ⟨rfl, hb10⟩
     have hB10 := below_call hB5 hB5.size hb10
     go_wp2_with fail
     go_ret
     exact ⟨rfl, hB10⟩
end Go.Proofs.YtnpomigmeieofaaGreatDoor
namespace Go.Proofs.YtnpomigmeieofaaGreatDoor
open Go.ChangeShapes Go.WideShapes Go.ChangeAt Go.RowKit

theorem Tryz.own : ownKnob Tryz.prog.godebug = none := by kernel_rfl
theorem Tryz.cells233 : Tryz.prog.cellsOf 233 = 2 := by kernel_rfl
theorem cell_lt {w : World} {a : Addr} {v : Value} (h : w.cell? a = some v) : a.block < w.heap.size ∧ a.spot = none := by
 unfold World.cell? at h
 split at h
 ·rename_i e
  refine ⟨(Array.getElem?_eq_some_iff.1 e).1, ?_⟩
  split at h
  ·cases h
  ·rename_i e2; simpa using e2
 ·cases h
theorem max_of {w : World} (h : w.ShapedOpen Tryz.prog) : MaxOk w := by
 obtain ⟨m, hm⟩ := Go.Proofs.cell_of_shapedOpen_int (g := 0) (zero := #[.int .i64 0]) (t := 3) h (of_decide_eq_true (by kernel_rfl)) (by kernel_rfl) rfl (by kernel_rfl) (by kernel_rfl) Tryz.underlying3
 exact ⟨m, hm, (cell_lt hm).1⟩
set_option maxRecDepth 100000 in
theorem cell_int {W : World} {base : Nat} {c : Value} (h : Cell.okWide Tryz.prog W .any base 3 c) : ∃ n, c = .int .i64 n :=
 okWide_int Tryz.underlying3 (by simp only [Value.okWide, Tryz.underlying3]; exact h)
theorem steps_of {H : Type} {enc : TypeId × Value → H} {W : World} {base : Nat} {sp : Nat → Bool} {held : Bool} {fuel n : Nat} {t : TypeId} {cs : List Value} {L : List (Int × Int)} {ps : List MemPlace}
  (ht : Tryz.prog.underlying t = some (.array n 233)) (hn : L.length = n) (h : DataW.trod enc Tryz.prog W base sp held fuel t cs = some (.agg (L.map fun s => .agg [.lit (.int .i64 s.1), .lit (.int .i64 s.2)]), ps)) :
  ∀ j, j < n → cs[j * 2]? = some (.int .i64 (L[j]?.getD (0, 0)).1) ∧ cs[j * 2 + 1]? = some (.int .i64 (L[j]?.getD (0, 0)).2) := by
 obtain ⟨xs, m, _, hx, _, hn3, hel⟩ := DataW.trod_array ht h
 intro j hj
 have hj2 := hel j hj
 rw [Tryz.cells233, List.getElem?_eq_getElem (l := xs) (i := j) (by omega)] at hj2
 have hx1 := congrArg Prod.fst hx
 injection hx1 with hx1
 have hxj := congrArg (fun l => l[j]?) hx1
 simp only [List.getElem?_map] at hxj
 rw [List.getElem?_eq_getElem (l := xs) (i := j) (by omega), List.getElem?_eq_getElem (l := L) (i := j) (by omega)] at hxj
 simp only [Option.map_some, Option.some.injEq] at hxj
 obtain ⟨y0, y1, m2, e, _, h0, h1⟩ := trod_struct2 Tryz.underlying233 hj2
 rw [e] at hxj
 simp only [DataW.agg.injEq, List.cons.injEq, and_true] at hxj
 have h0 : DataW.trod enc Tryz.prog W base sp held m2 3 (((((cs.drop (j * 2)).take 2).drop 0)).take (Tryz.prog.cellsOf 3)) = some y0 := h0
 have h1 : DataW.trod enc Tryz.prog W base sp held m2 3 (((((cs.drop (j * 2)).take 2).drop 1)).take (Tryz.prog.cellsOf 3)) = some y1 := h1
 rw [Tryz.cells3] at h0 h1
 obtain ⟨k0, e0, f0, _⟩ := DataW.trod_int Tryz.underlying3 h0
 obtain ⟨k1, e1, f1, _⟩ := DataW.trod_int Tryz.underlying3 h1
 rw [f0, f1] at hxj
 have g0 : k0 = L[j].1 := by have := hxj.1; simp at this; exact this.symm
 have g1 : k1 = L[j].2 := by have := hxj.2; simp at this; exact this.symm
 rw [List.getElem?_eq_getElem (l := L) (i := j) (by omega)]
 simp only [Option.getD_some]
 constructor
 ·have := congrArg (fun l => l[0]?) e0
  simp [List.getElem?_drop] at this
  rw [this, g0]
 ·have := congrArg (fun l => l[0]?) e1
  simp [List.getElem?_drop] at this
  rw [this, g1]
def laid4 : List (String × DataW Unit) := [("caissa/ray.straight", Rows.laid_caissa_ray_straight), ("caissa/ray.diagonal", Rows.laid_caissa_ray_diagonal), ("caissa/ray.leaps", Rows.laid_caissa_ray_leaps), ("caissa/position.full", Rows.laid_caissa_position_full)]
theorem door_met (os : Os) (args : Array Value) : laidMetH Tryz.prog laid4 ((World.doorLaid Tryz.prog 45 os).forCall (fun _ _ => 0) ⟨#[], args, []⟩).memory :=
 laidMetH_of_parts3 (fuel := 8) (laidMet_of_run' 8 (by kernel_rfl) (by kernel_rfl)) (by kernel_rfl) (by kernel_rfl)
theorem gl4 : Tryz.prog.globalNamed "caissa/ray.straight" = some 4 ∧ (Tryz.prog.globals[4]?).map (·.type) = some 238 := ⟨by kernel_rfl, by kernel_rfl⟩
theorem gl3 : Tryz.prog.globalNamed "caissa/ray.diagonal" = some 3 ∧ (Tryz.prog.globals[3]?).map (·.type) = some 238 := ⟨by kernel_rfl, by kernel_rfl⟩
theorem gl2 : Tryz.prog.globalNamed "caissa/ray.leaps" = some 2 ∧ (Tryz.prog.globals[2]?).map (·.type) = some 236 := ⟨by kernel_rfl, by kernel_rfl⟩
theorem gl0 : Tryz.prog.globalNamed "caissa/position.full" = some 1 ∧ (Tryz.prog.globals[1]?).map (·.type) = some 23 := ⟨by kernel_rfl, by kernel_rfl⟩
theorem glob_of {W : World} (h : laidMetH Tryz.prog laid4 W) : GlobOk W := by
 rw [MakeChecks.laidMetH_plain _ _ _ (by kernel_rfl)] at h
 obtain ⟨ps, ⟨g0, t0, cs0, f0, p0, q0, hg0, ht0, hv0, hd0, ⟨g1, t1, cs1, f1, p1, q1, hg1, ht1, hv1, hd1, ⟨g2, t2, cs2, f2, p2, q2, hg2, ht2, hv2, hd2, ⟨g3, t3, cs3, f3, p3, q3, hg3, ht3, hv3, hd3, _, _⟩, _⟩, _⟩, _⟩, _, _⟩ := h
 obtain rfl := Option.some.inj (gl4.1.symm.trans hg0)
 obtain rfl := Option.some.inj (gl3.1.symm.trans hg1)
 obtain rfl := Option.some.inj (gl2.1.symm.trans hg2)
 obtain rfl := Option.some.inj (gl0.1.symm.trans hg3)
 obtain rfl := Option.some.inj (gl4.2.symm.trans ht0)
 obtain rfl := Option.some.inj (gl3.2.symm.trans ht1)
 obtain rfl := Option.some.inj (gl2.2.symm.trans ht2)
 obtain rfl := Option.some.inj (gl0.2.symm.trans ht3)
 have s4 := steps_of (L := strL) Tryz.underlying238 rfl hd0
 have s3 := steps_of (L := diagL) Tryz.underlying238 rfl hd1
 have s2 := steps_of (L := leapsL) Tryz.underlying236 rfl hd2
 have v4 := World.var?_cell hg0 hv0
 have v3 := World.var?_cell hg1 hv1
 have v2 := World.var?_cell hg2 hv2
 have v0 := World.var?_cell hg3 hv3
 have mk : ∀ (g n : Nat) (cs : Array Value) (L : List (Int × Int)), 0 < n → L.length = n → (∀ j, W.cell? ⟨g, j, none⟩ = cs[j]?) → (∀ j, j < n → cs.toList[j * 2]? = some (.int .i64 (L[j]?.getD (0, 0)).1) ∧ cs.toList[j * 2 + 1]? = some (.int .i64 (L[j]?.getD (0, 0)).2)) → StepArr W g 0 L := by
  intro g n cs L hn hl hv hs
  have hc : ∀ j, W.cell? ⟨g, j, none⟩ = cs.toList[j]? := fun j => by rw [hv j]; simp
  refine ⟨(cell_lt ((hc 0).trans (hs 0 hn).1)).1, fun j hj => ?_⟩
  rw [Nat.zero_add, hc, hc]
  exact hs j (by omega)
 refine ⟨mk 2 8 cs2 leapsL (by decide) rfl v2 s2, mk 3 4 cs1 diagL (by decide) rfl v3 s3, mk 4 4 cs0 strL (by decide) rfl v4 s4, ?_, ?_⟩
 all_goals
  obtain ⟨y0, y1, m2, e, _, h0, h1⟩ := trod_struct2 Tryz.underlying23 hd3
  have e' := congrArg Prod.fst e
  simp only [Rows.laid_caissa_position_full, DataW.agg.injEq, List.cons.injEq, and_true] at e'
  have c3 := Tryz.cells3
  simp only [c3] at h0 h1
  obtain ⟨k0, e0, f0, _⟩ := DataW.trod_int Tryz.underlying3 h0
  obtain ⟨k1, e1, f1, _⟩ := DataW.trod_int Tryz.underlying3 h1
  rw [f0, f1] at e'
  have g0 : k0 = 8 := by have := e'.1; simp at this; exact this.symm
  have g1 : k1 = 8 := by have := e'.2; simp at this; exact this.symm
  have a0 := congrArg (fun l => l[0]?) e0
  have a1 := congrArg (fun l => l[0]?) e1
  simp at a0 a1
  rw [v0]
  first
   | (rw [a0, g0])
   | (rw [a1, g1])
set_option maxRecDepth 100000 in
theorem rih4 {H : Type} {enc : TypeId × Value → H} {os : Os} {f : FuncId} {fn : Func} {s : ChangeSpec} (started : os.Started) (noInit : Tryz.checked.prog.inits.idxOf? f = none) (hfn : Tryz.checked.prog.funcs[f]? = some fn)
  (witness : ∃ (w : World) (tape : Tape) (i : Input), w.os = os ∧ (w.forCall tape i).Shaped Tryz.checked.prog ∧ i.vars = [] ∧ Input.okWide Tryz.checked.prog (w.forCall tape i) .any w.heap.size f i ∧
   ((s.pre enc Tryz.checked.prog fn [] false (w.forCall tape i).memory i.args ∧ laidMetH Tryz.prog laid4 (w.forCall tape i).memory) ∧ sizedMet enc Tryz.checked.prog fn (OpenSpec.ofChange s) false (w.forCall tape i).memory i.args) ∧ ({} : Assume).holds Tryz.checked.prog (lone (Frame.enter Tryz.checked.prog f i.args .normal) [] (w.forCall tape i)))
  (contract : ∀ (W : World) (base : Nat) (args : Array Value) (ds gs : List (DataW H)) (before : List MemPlace),
   (∀ (j : Nat) t v, fn.params[j]? = some t → args[j]? = some v → Value.okWide Tryz.prog W .any base t v) →
   DataW.Whole enc Tryz.prog fn.params.toList s.vars false W args.toList ds gs before → GlobOk W → MaxOk W →
   Calls Tryz.prog f args W fun e W' => ∃ v, e = .returned v ∧ s.post enc Tryz.checked.prog fn false true false false W args v W') :
  ReturnsInHanded {} Tryz.checked os f .any (fun w args => (s.pre enc Tryz.prog fn [] false w args ∧ laidMetH Tryz.prog laid4 w) ∧ sizedMet enc Tryz.prog fn (OpenSpec.ofChange s) false w args) (s.post enc Tryz.prog fn false true false false) := by
 refine returnsInHanded_of_calls Tryz.own started noInit witness ?_
 intro w tape i _ hsh _ hok hpre _
 obtain ⟨_, _, _, fn', hfn', _, _, _, _, hval⟩ := hok
 obtain rfl : fn' = fn := Option.some.inj (hfn'.symm.trans hfn)
 obtain ⟨⟨⟨ds, gs, before, hw, _⟩, hx⟩, _⟩ := hpre
 have hw' := DataW.Whole.of_heap (w' := w.forCall tape i) (by rfl) hw
 have hx' : laidMetH Tryz.prog laid4 (w.forCall tape i) := hx.of_heap (by rfl)
 refine (contract (w.forCall tape i) w.heap.size i.args ds gs before hval hw' (glob_of hx') (max_of hsh)).mono ?_
 rintro e W' ⟨v, rfl, hp⟩
 exact ChangeSpec.post_blind hp
end Go.Proofs.YtnpomigmeieofaaGreatDoor
namespace Go.Proofs.YtnpomigmeieofaaGreatDoor
open Go.ChangeShapes Go.WideShapes Go.ChangeAt Go.RowKit

theorem Tryz.cells26 : Tryz.prog.cellsOf 26 = 12 := by kernel_rfl
theorem Tryz.cellTypes26 : Tryz.prog.cellTypes Tryz.prog.depth 26 = some [3, 3, 3, 3, 3, 3, 3, 3, 3, 3, 3, 3] := by kernel_rfl
set_option maxRecDepth 100000 in
theorem open_men {W : World} {base : Nat} {v : Value} (h : Value.okWide Tryz.prog W .any base 26 v) : ∃ m : Men, v = .agg m.cs.toArray := by
 simp only [Value.okWide, Tryz.underlying26] at h
 obtain ⟨cs, rfl, hsz, ts, hts, _, hall⟩ := h
 rw [Tryz.cellTypes26] at hts
 cases hts
 rw [Tryz.cells26] at hsz
 obtain ⟨l⟩ := cs
 match l, hsz with
 | [c0, c1, c2, c3, c4, c5, c6, c7, c8, c9, c10, c11], _ =>
  have g : ∀ (i : Nat) (c : Value), i < 12 → [c0, c1, c2, c3, c4, c5, c6, c7, c8, c9, c10, c11][i]? = some c → ∃ n, c = .int .i64 n := by
   intro i c hi hc
   obtain ⟨u, h1, h2⟩ := hall i c (by rw [List.getElem?_toArray]; exact hc)
   have e : u = 3 := by
    rcases (by omega : i = 0 ∨ i = 1 ∨ i = 2 ∨ i = 3 ∨ i = 4 ∨ i = 5 ∨ i = 6 ∨ i = 7 ∨ i = 8 ∨ i = 9 ∨ i = 10 ∨ i = 11) with rfl | rfl | rfl | rfl | rfl | rfl | rfl | rfl | rfl | rfl | rfl | rfl <;> exact (Option.some.inj (show some 3 = some u from h1)).symm
   subst e
   exact cell_int h2
  obtain ⟨n0, rfl⟩ := g 0 _ (by omega) rfl
  obtain ⟨n1, rfl⟩ := g 1 _ (by omega) rfl
  obtain ⟨n2, rfl⟩ := g 2 _ (by omega) rfl
  obtain ⟨n3, rfl⟩ := g 3 _ (by omega) rfl
  obtain ⟨n4, rfl⟩ := g 4 _ (by omega) rfl
  obtain ⟨n5, rfl⟩ := g 5 _ (by omega) rfl
  obtain ⟨n6, rfl⟩ := g 6 _ (by omega) rfl
  obtain ⟨n7, rfl⟩ := g 7 _ (by omega) rfl
  obtain ⟨n8, rfl⟩ := g 8 _ (by omega) rfl
  obtain ⟨n9, rfl⟩ := g 9 _ (by omega) rfl
  obtain ⟨n10, rfl⟩ := g 10 _ (by omega) rfl
  obtain ⟨n11, rfl⟩ := g 11 _ (by omega) rfl
  exact ⟨⟨n0, n1, n2, n3, n4, n5, n6, n7, n8, n9, n10, n11⟩, rfl⟩
set_option maxRecDepth 100000 in
theorem open_str {H : Type} {enc : TypeId × Value → H} {W : World} {base : Nat} {d : DataW H} {p : List MemPlace} {v : Value} (hv : Value.okWide Tryz.prog W .any base 9 v) (h : DataW.Trod enc Tryz.prog W 0 (fun _ => true) true 9 v d p) : ∃ s : List UInt8, v = .string (str s) ∧ s.length ≤ 9223372036854775807 := by
 obtain ⟨fuel, hf⟩ := h
 have hmax : maxLen ≤ 9223372036854775807 := by decide
 obtain ⟨b0, rfl⟩ := okWide_string Tryz.underlying9 hv
 obtain ⟨b, hcs, _, hl⟩ := DataW.trod_string Tryz.underlying9 hf
 simp [Value.cells] at hcs
 subst hcs
 obtain ⟨a⟩ := b0
 refine ⟨a.toList, rfl, ?_⟩
 have h1 : (ByteArray.mk a).size = a.size := rfl
 rw [Array.length_toList]
 omega
set_option maxHeartbeats 1600000 in
set_option maxRecDepth 100000 in
theorem texts_lifted (os : Os) (started : os.Started) (H : Type) (enc : TypeId × Value → H) :
  ReturnsInHanded {} Tryz.checked os 3 .any (fun w args => (Rows.indexTextsSpec.pre enc Tryz.prog Tryz.f3 [] false w args ∧ laidMetH Tryz.prog laid4 w) ∧ sizedMet enc Tryz.prog Tryz.f3 (OpenSpec.ofChange Rows.indexTextsSpec) false w args)
   (Rows.indexTextsSpec.post enc Tryz.prog Tryz.f3 false true false false) := by
 refine rih4 started (by kernel_rfl) Tryz.func3
  (ChangeSpec.witness_shaped (enc := enc) (C := Tryz.checked) (os := os) (X := fun w _ => laidMetH Tryz.prog laid4 w) false (World.doorLaid Tryz.prog 45 os) #[.agg zeroMen.cs.toArray, .string (str [])] 8 rfl (World.shaped_of_RefB (by kernel_rfl) (by kernel_rfl)) (by kernel_rfl) (by kernel_rfl) (by kernel_rfl) (door_met os _)) ?_
 intro W base args ds gs before hval0 hW hg hm
 have hval : ∀ (j : Nat) t v, Tryz.f3.params[j]? = some t → args[j]? = some v → Value.okWide Tryz.prog W .any base t v := hval0
 have hW' := hW
 obtain ⟨p, q, hA0, hV, rfl, _, _⟩ := hW
 have hA : DataW.TrodAll enc Tryz.prog W 0 (fun _ => true) true Tryz.f3.params.toList args.toList ds p := hA0
 rw [Tryz.params3] at hA hval
 obtain ⟨v0, v1, d0, d1, p0, p1, rfl, rfl, rfl, h0, h1⟩ := trodAll_two hA
 obtain ⟨rfl, rfl⟩ := trodVars_none hV
 obtain ⟨m, rfl⟩ := open_men (hval 0 26 v0 rfl rfl)
 obtain ⟨s, rfl, hs⟩ := open_str (hval 1 9 v1 rfl rfl) h1
 clear hA0 hval0
 simp only [List.append_nil] at hW'
 have hlt : ∀ x ∈ p0 ++ p1, x.block < W.heap.size := fun x hx => by simpa using hW'.lt x hx
 have hargs : ∀ {t : TypeId} {v : Value} {d : DataW H} {q : List MemPlace}, DataW.Trod enc Tryz.prog W 0 (fun _ => true) true t v d q → (∀ x ∈ q, x.block < W.heap.size) → Tryz.prog.readableRec t = true → t < Tryz.prog.types.size → ∀ W', Below W.heap.size W W' → DataW.Trod enc Tryz.prog W' 0 (fun b => decide (b < W.heap.size)) true t v d q :=
  fun h hq hr ht W' hn => Below.trod Tryz.laidOut hr ht h hn hq
 refine (IndexTexts_any m s hs W hg hm).mono fun e W' ⟨he, hnx⟩ => ?_
 subst he
 have k0 := hargs h0 (fun x hx => hlt x (by simp [hx])) (by kernel_rfl) (of_decide_eq_true (by kernel_rfl)) W' hnx
 have k1 := hargs h1 (fun x hx => hlt x (by simp [hx])) (by kernel_rfl) (of_decide_eq_true (by kernel_rfl)) W' hnx
 refine ⟨_, rfl, _, _, _, [], p0 ++ p1, [], hW', trodAll_mk1 (shut_bool Tryz.underlying4 _), trodAll_mk2 k0 k1, rfl, ?_, fun h => by cases h⟩
 exact hnx.frame _
theorem indexTexts_row : Rows.IndexTextsSaid :=
 OpenClaim.holds_of_wide 3 Tryz.f3 rfl rfl rfl rfl rfl rfl rfl ⟨rfl, rfl, rfl, rfl, rfl⟩ rfl rfl rfl rfl rfl (by kernel_rfl) Tryz.func3 (by kernel_rfl)
  (of_decide_eq_true (by kernel_rfl)) (by unfold Func.isWrapper; first | (rw [if_pos (by decide +kernel)]; kernel_rfl) | (rw [if_neg (by decide +kernel)]; exact ⟨rfl, rfl⟩))
  (fun os started H enc _ => texts_lifted os started H enc)
theorem indexTexts_holds : Rows.IndexTextsCardSaid :=
 Claim7.holds_tied_plain_at .later [] [.widerDeep, .widerDeep, .widerDeep, .data] true (true, "3693be62ccb70268aa164561f281e984fe337b1a92e53ef4e47b14ab8b53f904") false
  indexTexts_row (fun _ h => by cases h) (by kernel_rfl) (fun _ h => by cases h) indexTexts_row_tie rfl ⟨rfl, rfl⟩ (by kernel_rfl) rfl
  (fun f fn hf hfn => by
   obtain rfl : f = 3 := Option.some.inj ((show Tryz.prog.funcNamed "caissa/caissalaw20.IndexTexts" = some 3 by kernel_rfl).symm.trans hf) |>.symm
   obtain rfl : fn = Tryz.f3 := (Option.some.inj (Tryz.func3.symm.trans hfn)).symm
   exact ⟨by kernel_rfl, fun j t ht => by
    rw [Tryz.params3] at ht
    have hm : t ∈ [26, 9] := by simpa using Array.mem_of_getElem? ht
    have hall : ([26, 9].all fun u => !Tryz.prog.wantsStandIn u) = true := by kernel_rfl
    exact (show Tryz.prog.wantsStandIn t = false by simpa using List.all_eq_true.1 hall t hm)⟩)
  (by kernel_rfl)
#print axioms indexTexts_holds
end Go.Proofs.YtnpomigmeieofaaGreatDoor
