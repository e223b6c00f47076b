import Derived.Test.YtnpomigmeieofaaGreatDoorS32
set_option maxHeartbeats 12800000
namespace Go.Proofs.YtnpomigmeieofaaGreatDoor
open Go.RowKit

set_option maxRecDepth 100000 in
theorem has_any (L : List Men) (m : Men) (n c : Nat) (p : Option Addr) (hn : n = L.length) (hn2 : n ≤ 10000000) (w : World) (hA : MArr w p L) :
  Calls Tryz.prog 77 #[.slice p n c, .agg m.cs.toArray] w fun e w' => e = .returned (.bool (decide (m ∈ L))) ∧ Below w.heap.size w w' := by
 have hM := HasO.new w (.cells m.cs.toArray 26)
 have hB := below_box w (.cells m.cs.toArray 26)
 replace hA := hA.call hB
 replace hn := Lib.hid hn
 go_enter Tryz.func77, Tryz.ntmps77
 go_upto_region 1 with fail
 show Code.wp _ _ _ _ (w.alloc (.cells m.cs.toArray 26))
 generalize w.alloc (.cells m.cs.toArray 26) = w1 at *
 obtain ⟨q, hq⟩ : ∃ q, q = w.heap.size := ⟨_, rfl⟩
 rw [← hq] at hM ⊢
 replace hq := Lib.hid hq
 go_wp2_with fail
 go_loopg [5] 20000000 (fun r kv wr => ∃ j : Nat, ∃ wz, wz = wr ∧ r + j = 20000000 ∧ j ≤ n ∧ kv = .int .i64 ((j : Nat) : Int) ∧ Hid (m ∉ L.take j) ∧ Below w1.heap.size w1 wr)
 case atStart => exact ⟨0, _, rfl, rfl, by omega, rfl, Lib.hid (by simp), Below.refl _ _⟩
 case round =>
  obtain ⟨j, w2, rfl, hq2, hj, rfl, hno, hB2⟩ := hrel
  have hM2 := hM.call hB2
  have hBw := below_call hB hB.size hB2
  by_cases hlt : j < n
  ·have hjL : j < L.length := by rw [← hn.out]; exact hlt
   have hii : (j : Int) < n := by omega
   obtain ⟨g, rfl, hgl0, hcx0⟩ := hA.at hjL
   have hgl : g < w2.heap.size := Nat.lt_of_lt_of_le hgl0 hB2.size
   obtain ⟨x, hx⟩ : ∃ x, x = L[j]?.getD zeroMen := ⟨_, rfl⟩
   rw [← hx] at hcx0
   have hcx : ∀ i v, x.cs[i]? = some v → w2.cell? ⟨g, j * 12 + i, none⟩ = some v := fun i v hv => (hB2.cell (p := ⟨g, j * 12 + i, none⟩) hgl0).trans (hcx0 i v hv)
   have hxL : L[j]? = some x := by rw [hx, List.getElem?_eq_getElem hjL]; rfl
   obtain ⟨b, hb⟩ : ∃ b, b = decide (x = m) := ⟨_, rfl⟩
   have heq : ∀ W, (binOp .eql 26 (.agg x.cs.toArray) (.agg m.cs.toArray)).run Tryz.prog W = .ok (.bool b) W := fun W => by rw [hb]; exact men_eql x m W
   replace hx := Lib.hid hx
   replace hxL := Lib.hid hxL
   replace hb := Lib.hid hb
   clear hcx0 hgl0
   go_wp2_with fail
   refine wp_region_valsL (by kernel_rfl) (by kernel_rfl) [some 12, some 13, some 14, some 15, some 16, some 17] (by rfl) (by rfl) (fun i8 => match i8 with | 0 => .slice (some ⟨g, 0, none⟩) n c | 1 => .int .i64 (j : Nat) | 2 => .pointer (some ⟨g, j * 12, none⟩) | 3 => .agg x.cs.toArray | 4 => .agg m.cs.toArray | 5 => .bool b | _ => undef) (fun W => Below w2.heap.size w2 W) ((Below.refl _ _).drew) ?hstep ?hend
   case hstep =>
    intro i9 o9 f9 W ho hi hC hf K hK
    have hi : i9 < 6 := hi
    rcases i9 with _ | _ | _ | _ | _ | _ | i9
    ·exact st_move (og ho) (.tmp 0) (oo ho) (rd_out rfl rfl) (hK _ hC)
    ·exact st_move (og ho) (.tmp 5) (oo ho) (rd_out rfl rfl) (hK _ hC)
    ·exact st_index (og ho) 57 (.tmp 12) (.tmp 13) (oo ho) (ri 0 (da ho hf 0)) (ri 1 (da ho hf 1)) (index57 W g n c j hlt) (hK _ hC)
    ·exact st_loadA (og ho) 26 (.tmp 14) (oo ho) (ri 2 (da ho hf 2)) x.cs (by kernel_rfl) (fun i v hv => (hC.cell (p := ⟨g, j * 12 + i, none⟩) hgl).trans (hcx i v hv)) (hK _ hC)
    ·exact st_loadA (og ho) 26 (.tmp 3) (oo ho) (rd_out rfl rfl) m.cs (by kernel_rfl) (fun i v hv => by rw [Nat.zero_add, (hM2.call hC).cells i]; simpa using hv) (hK _ hC)
    ·exact st_bin (og ho) .eql 26 26 (.tmp 15) (.tmp 16) (oo ho) (ri 3 (da ho hf 3)) (ri 4 (da ho hf 4)) (men_guard .eql _ _ _ _ _) (heq W) (hK _ hC)
    ·omega
   case hend =>
    intro W hC
    simp only [putL, Act.put, List.setIfInBounds_toArray, List.set_cons_succ, List.set_cons_zero]
    have hB5 := below_call hBw hBw.size hC
    have hB6 := below_call hB2 hB2.size hC
    clear hcx hgl heq hB2 hBw hM2 hC
    cases b
    ·go_wp2_with fail
     go_roundg (gk - 1)
     case measure => omega
     case rel =>
      refine ⟨j + 1, _, rfl, by omega, by omega, by go_num, Lib.hid ?_, hB6⟩
      have hne : x ≠ m := by have := hb.out; simpa using this
      rw [List.take_add_one, hxL.out]
      intro h
      rcases List.mem_append.1 h with h | h
      ·exact hno.out h
      ·simp at h; exact hne h.symm
    ·go_wp2_with fail
     go_ret
     refine ⟨?_, hB5⟩
     have he : x = m := by have := hb.out; simpa using this
     have hmem : m ∈ L := by rw [← he]; exact List.mem_of_getElem? hxL.out
     rw [decide_eq_true hmem]
     rfl
  ·have hii : ¬ (j : Int) < n := by omega
   go_wp2_with fail
   go_ret
   refine ⟨?_, hBw⟩
   have hno2 : m ∉ L := by have h := hno.out; rw [List.take_of_length_le (by rw [← hn.out]; omega)] at h; exact h
   rw [decide_eq_false hno2]
   rfl
set_option maxRecDepth 100000 in
theorem same_any (L : List Men) (n c c2 : Nat) (p p2 : Option Addr) (hn : n = L.length) (hn2 : n ≤ 10000000) (w : World) (hA : MArr w p L) (hA2 : MArr w p2 L) :
  Calls Tryz.prog 28 #[.slice p n c, .slice p2 n c2] w fun e w' => e = .returned (.bool true) ∧ Below w.heap.size w w' := by
 replace hn := Lib.hid hn
 go_enter Tryz.func28, Tryz.ntmps28
 go_wp2_with fail
 go_loopg [5] 20000000 (fun r kv wr => ∃ j : Nat, ∃ wz, wz = wr ∧ r + j = 20000000 ∧ j ≤ n ∧ kv = .int .i64 ((j : Nat) : Int) ∧ Below w.heap.size w wr)
 case atStart => exact ⟨0, _, rfl, rfl, by omega, rfl, Below.refl _ _⟩
 case round =>
  obtain ⟨j, w2, rfl, hq2, hj, rfl, hB2⟩ := hrel
  by_cases hlt : j < n
  ·have hjL : j < L.length := by rw [← hn.out]; exact hlt
   have hii : (j : Int) < n := by omega
   obtain ⟨g, rfl, hgl0, hcx0⟩ := hA.at hjL
   obtain ⟨g2, rfl, hgl20, hcy0⟩ := hA2.at hjL
   have hgl : g < w2.heap.size := Nat.lt_of_lt_of_le hgl0 hB2.size
   have hgl2 : g2 < w2.heap.size := Nat.lt_of_lt_of_le hgl20 hB2.size
   obtain ⟨x, hx⟩ : ∃ x, x = L[j]?.getD zeroMen := ⟨_, rfl⟩
   rw [← hx] at hcx0 hcy0
   have hcx : ∀ i v, x.cs[i]? = some v → w2.cell? ⟨g, j * 12 + i, none⟩ = some v := fun i v hv => (hB2.cell (p := ⟨g, j * 12 + i, none⟩) hgl0).trans (hcx0 i v hv)
   have hcy : ∀ i v, x.cs[i]? = some v → w2.cell? ⟨g2, j * 12 + i, none⟩ = some v := fun i v hv => (hB2.cell (p := ⟨g2, j * 12 + i, none⟩) hgl20).trans (hcy0 i v hv)
   have hne := fun W => men_neq x x W
   rw [decide_eq_true (rfl : x = x)] at hne
   replace hx := Lib.hid hx
   clear hcx0 hgl0 hcy0 hgl20
   go_wp2_with fail
   refine wp_region_valsL (by kernel_rfl) (by kernel_rfl) [some 17, some 18, some 19, some 20, some 21, some 22, some 23, some 24, some 25] (by rfl) (by rfl) (fun i8 => match i8 with | 0 => .slice (some ⟨g, 0, none⟩) n c | 1 => .int .i64 (j : Nat) | 2 => .pointer (some ⟨g, j * 12, none⟩) | 3 => .agg x.cs.toArray | 4 => .slice (some ⟨g2, 0, none⟩) n c2 | 5 => .int .i64 (j : Nat) | 6 => .pointer (some ⟨g2, j * 12, none⟩) | 7 => .agg x.cs.toArray | 8 => .bool false | _ => undef) (fun W => Below w2.heap.size w2 W) ((Below.refl _ _).drew) ?hstep ?hend
   case hstep =>
    intro i9 o9 f9 W ho hi hC hf K hK
    have hi : i9 < 9 := hi
    rcases i9 with _ | _ | _ | _ | _ | _ | _ | _ | _ | i9
    ·exact st_move (og ho) (.tmp 0) (oo ho) (rd_out rfl rfl) (hK _ hC)
    ·exact st_move (og ho) (.tmp 5) (oo ho) (rd_out rfl rfl) (hK _ hC)
    ·exact st_index (og ho) 57 (.tmp 17) (.tmp 18) (oo ho) (ri 0 (da ho hf 0)) (ri 1 (da ho hf 1)) (index57 W g n c j hlt) (hK _ hC)
    ·exact st_loadA (og ho) 26 (.tmp 19) (oo ho) (ri 2 (da ho hf 2)) x.cs (by kernel_rfl) (fun i v hv => (hC.cell (p := ⟨g, j * 12 + i, none⟩) hgl).trans (hcx i v hv)) (hK _ hC)
    ·exact st_move (og ho) (.tmp 1) (oo ho) (rd_out rfl rfl) (hK _ hC)
    ·exact st_move (og ho) (.tmp 5) (oo ho) (rd_out rfl rfl) (hK _ hC)
    ·exact st_index (og ho) 57 (.tmp 21) (.tmp 22) (oo ho) (ri 4 (da ho hf 4)) (ri 5 (da ho hf 5)) (index57 W g2 n c2 j hlt) (hK _ hC)
    ·exact st_loadA (og ho) 26 (.tmp 23) (oo ho) (ri 6 (da ho hf 6)) x.cs (by kernel_rfl) (fun i v hv => (hC.cell (p := ⟨g2, j * 12 + i, none⟩) hgl2).trans (hcy i v hv)) (hK _ hC)
    ·exact st_bin (og ho) .neq 26 26 (.tmp 20) (.tmp 24) (oo ho) (ri 3 (da ho hf 3)) (ri 7 (da ho hf 7)) (men_guard .neq _ _ _ _ _) (hne W) (hK _ hC)
    ·omega
   case hend =>
    intro W hC
    simp only [putL, Act.put, List.setIfInBounds_toArray, List.set_cons_succ, List.set_cons_zero]
    have hB6 := below_call hB2 hB2.size hC
    clear hcx hgl hcy hgl2 hne hB2 hC
    go_wp2_with fail
    go_roundg (gk - 1)
    case measure => omega
    case rel => exact ⟨j + 1, _, rfl, by omega, by omega, by go_num, hB6⟩
  ·have hii : ¬ (j : Int) < n := by omega
   go_wp2_with fail
   go_ret
   exact ⟨rfl, hB2⟩
theorem bl_eq : ∀ a b : List UInt8, Op.bytesLess a b = decide (Lib.compareBytes a b < 0) := by
 intro a
 induction a with
 | nil => intro b; cases b <;> simp [Op.bytesLess, Lib.compareBytes]
 | cons x a ih =>
  intro b
  cases b with
  | nil => simp [Op.bytesLess, Lib.compareBytes]
  | cons y b =>
   simp only [Op.bytesLess, Lib.compareBytes, ih b]
   by_cases h1 : x < y
   ·simp [h1]
   ·by_cases h2 : y < x
    ·have hne : ¬ x = y := by rintro rfl; exact h1 h2
     simp [h1, h2, hne]
    ·have he : x = y := by
      simp only [UInt8.lt_iff_toNat_lt] at h1 h2
      exact UInt8.toNat_inj.1 (by omega)
     simp [he]
theorem str_lss (a b : List UInt8) (W : World) : (binOp .lss 9 (.string (str a)) (.string (str b))).run Tryz.prog W = .ok (.bool (decide (Lib.compareBytes a b < 0))) W := by
 rw [binOp_string_lss, str_toList, str_toList, bl_eq]
 rfl
theorem gu_str (b : BinOp) (t : TypeId) (x y : Operand) (u v : ByteArray) (W : World) : (eqGuard b t x y (.string u) (.string v)).run Tryz.prog W = .ok () W := by
 simp [eqGuard, go_sem]
def ordR (all : Bool) : Men → Men → Int := if all = true then cmpC else cmpT
theorem cI_lt (a b : Int) : decide (cI a b < 0) = decide (a < b) := by
 unfold cI
 by_cases h1 : a < b
 ·simp [h1]
 ·by_cases h2 : b < a <;> simp [h1, h2]
set_option maxRecDepth 100000 in
theorem less_any (x y : Men) (all : Bool) (w : World) (hvx : validB x = true) (hvy : validB y = true) :
  Calls Tryz.prog 127 #[.agg x.cs.toArray, .agg y.cs.toArray, .bool all] w fun e w' => e = .returned (.bool (decide (ordR all x y < 0))) ∧ Below w.heap.size w w' := by
 have hX := (HasO.new w (.cells x.cs.toArray 26)).alloc (.cells y.cs.toArray 26)
 have hY := HasO.new' (w.alloc (.cells x.cs.toArray 26)) (.cells y.cs.toArray 26) (q := w.heap.size + 1) (by simp)
 have hB := (below_box w (.cells x.cs.toArray 26)).alloc (by simp) (.cells y.cs.toArray 26)
 have hpx := fun W => pieces_any x W (validB_ok hvx)
 have hpy := fun W => pieces_any y W (validB_ok hvy)
 have htx := fun W => refText_any x W (Lib.hid hvx)
 have hty := fun W => refText_any y W (Lib.hid hvy)
 have hbx := (vN_iff x).1 hvx
 have hby := (vN_iff y).1 hvy
 obtain ⟨res, hres⟩ : ∃ r, r = decide (ordR all x y < 0) := ⟨_, rfl⟩
 rw [← hres]
 obtain ⟨px, hpxe⟩ : ∃ p, p = x.upto 5 := ⟨_, rfl⟩
 obtain ⟨py, hpye⟩ : ∃ p, p = y.upto 5 := ⟨_, rfl⟩
 obtain ⟨tx, htxe⟩ : ∃ p, p = textL x := ⟨_, rfl⟩
 obtain ⟨ty, htye⟩ : ∃ p, p = textL y := ⟨_, rfl⟩
 rw [← hpxe] at hpx
 rw [← hpye] at hpy
 rw [← htxe] at htx
 rw [← htye] at hty
 obtain ⟨dT, hdT⟩ : ∃ d, d = decide (Lib.compareBytes tx ty < 0) := ⟨_, rfl⟩
 have hlt := fun W => str_lss tx ty W
 rw [← hdT] at hlt
 obtain ⟨d, hd⟩ : ∃ d, (px != py) = d := ⟨_, rfl⟩
 obtain ⟨d2, hd2⟩ : ∃ d, decide (px < py) = d := ⟨_, rfl⟩
 have hw0 : -100 ≤ x.w0 ∧ x.w0 ≤ 100 ∧ -100 ≤ x.b0 ∧ x.b0 ≤ 100 := by unfold vN at hbx; omega
 have hw1 : -100 ≤ y.w0 ∧ y.w0 ≤ 100 ∧ -100 ≤ y.b0 ∧ y.b0 ≤ 100 := by unfold vN at hby; omega
 have hT : cmpT x y = Lib.compareBytes tx ty := by rw [htxe, htye]; rfl
 have hC : cmpC x y = orI (cI px py) (cI (x.w0 + x.b0) (y.w0 + y.b0)) (Lib.compareBytes tx ty) := by rw [hpxe, hpye, htxe, htye]; rfl
 replace hbx := Lib.hid hbx
 replace hby := Lib.hid hby
 replace hpxe := Lib.hid hpxe
 replace hpye := Lib.hid hpye
 replace htxe := Lib.hid htxe
 replace htye := Lib.hid htye
 replace hdT := Lib.hid hdT
 replace hT := Lib.hid hT
 replace hC := Lib.hid hC
 have hres0 := hres
 replace hres := Lib.hid hres
 clear hvx hvy
 go_enter Tryz.func127, Tryz.ntmps127
 go_upto_region 1 with fail
 show Code.wp _ _ _ _ ((w.alloc (.cells x.cs.toArray 26)).alloc (.cells y.cs.toArray 26))
 generalize (w.alloc (.cells x.cs.toArray 26)).alloc (.cells y.cs.toArray 26) = w1 at *
 obtain ⟨q, hq⟩ : ∃ q, q = w.heap.size := ⟨_, rfl⟩
 rw [← hq] at hX hY ⊢
 replace hq := Lib.hid hq
 have hOT : ordR false = cmpT := rfl
 have hOC : ordR true = cmpC := rfl
 cases all
 ·rw [hOT, hT.out] at hres0
  replace hres : Hid (res = dT) := Lib.hid (by rw [hres0, hdT.out])
  clear hres0
  refine wp_region_valsL (by kernel_rfl) (by kernel_rfl) [some 7, some 8, some 9, some 10, some 11, some 12, some 13, some 14] (by rfl) (by rfl) (fun i8 => match i8 with | 0 => .bool false | 1 => .bool false | 7 => .bool false | _ => undef) (fun W => Below w1.heap.size w1 W) ((Below.refl _ _).drew) ?hstep ?hend
  case hstep =>
   intro i9 o9 f9 W ho hi hC hf K hK
   have hi : i9 < 8 := hi
   rcases i9 with _ | _ | _ | _ | _ | _ | _ | _ | i9
   ·exact st_move (og ho) (.tmp 2) (oo ho) (rd_out rfl rfl) (hK _ hC)
   ·exact st_move (og ho) (.tmp 7) (oo ho) (ri 0 (da ho hf 0)) (hK _ hC)
   iterate 5 exact skip_gd (uw ho (dg ho hf 1)) (hK _ hC)
   ·exact st_pickF (og ho) (.tmp 8) (.tmp 13) (.const (.bool false)) (oo ho) (ri 1 (da ho hf 1)) rfl (hK _ hC)
   ·omega
  case hend =>
   intro W hC1
   simp only [putL, Act.put, List.setIfInBounds_toArray, List.set_cons_succ, List.set_cons_zero]
   replace hX := hX.call hC1
   replace hY := hY.call hC1
   have hB2 := below_call hB hB.size hC1
   clear hC1 hB
   generalize W = w2 at *
   go_wp2_with fail
   refine wp_region_valsL (by kernel_rfl) (by kernel_rfl) [some 53, some 54, some 55, some 56, some 57, some 6] (by rfl) (by rfl) (fun i8 => match i8 with | 0 => .agg x.cs.toArray | 1 => .string (str tx) | 2 => .agg y.cs.toArray | 3 => .string (str ty) | 4 => .bool dT | 5 => .bool dT | _ => undef) (fun W => Below w2.heap.size w2 W) ((Below.refl _ _).drew) ?hstep ?hend
   case hstep =>
    intro i9 o9 f9 W ho hi hC hf K hK
    have hi : i9 < 6 := hi
    rcases i9 with _ | _ | _ | _ | _ | _ | i9
    ·exact st_loadA (og ho) 26 (.tmp 3) (oo ho) (rd_out rfl rfl) x.cs (by kernel_rfl) (fun i v hv => by rw [Nat.zero_add, (hX.call hC).cells i]; simpa using hv) (hK _ hC)
    ·exact st_call1 (og ho) 11 (.tmp 53) #[26] (oo ho) (ri 0 (da ho hf 0)) (fun _ _ => rfl) (htx W) (by (rintro u w9 ⟨h9, hb9⟩; injection h9 with h9; subst h9; exact hK _ (below_call hC hC.size hb9))) (fun _ _ h => nomatch h.1) (fun _ h => nomatch h.1)
    ·exact st_loadA (og ho) 26 (.tmp 4) (oo ho) (rd_out rfl rfl) y.cs (by kernel_rfl) (fun i v hv => by rw [Nat.zero_add, (hY.call hC).cells i]; simpa using hv) (hK _ hC)
    ·exact st_call1 (og ho) 11 (.tmp 55) #[26] (oo ho) (ri 2 (da ho hf 2)) (fun _ _ => rfl) (hty W) (by (rintro u w9 ⟨h9, hb9⟩; injection h9 with h9; subst h9; exact hK _ (below_call hC hC.size hb9))) (fun _ _ h => nomatch h.1) (fun _ h => nomatch h.1)
    ·exact st_bin (og ho) .lss 9 9 (.tmp 54) (.tmp 56) (oo ho) (ri 1 (da ho hf 1)) (ri 3 (da ho hf 3)) (gu_str _ _ _ _ _ _ _) (hlt W) (hK _ hC)
    ·exact st_assign (og ho) (.tmp 57) (oo ho) (ri 4 (da ho hf 4)) (hK _ hC)
    ·omega
   case hend =>
    intro W hC
    simp only [putL, Act.put, List.setIfInBounds_toArray, List.set_cons_succ, List.set_cons_zero]
    have hBe := below_call hB2 hB2.size hC
    go_wp2_with fail
    go_ret
    refine ⟨?_, hBe⟩
    rw [hres.out]
    rfl
 ·rw [hOC, hC.out, orI_eq] at hres0
  refine wp_region_valsL (by kernel_rfl) (by kernel_rfl) [some 7, some 8, some 9, some 10, some 11, some 12, some 13, some 14] (by rfl) (by rfl) (fun i8 => match i8 with | 0 => .bool true | 1 => .bool true | 2 => .agg x.cs.toArray | 3 => .int .i64 (px) | 4 => .agg y.cs.toArray | 5 => .int .i64 (py) | 6 => .bool d | 7 => .bool d | _ => undef) (fun W => Below w1.heap.size w1 W) ((Below.refl _ _).drew) ?hstep ?hend
  case hstep =>
   intro i9 o9 f9 W ho hi hC hf K hK
   have hi : i9 < 8 := hi
   rcases i9 with _ | _ | _ | _ | _ | _ | _ | _ | i9
   ·exact st_move (og ho) (.tmp 2) (oo ho) (rd_out rfl rfl) (hK _ hC)
   ·exact st_move (og ho) (.tmp 7) (oo ho) (ri 0 (da ho hf 0)) (hK _ hC)
   ·exact gd (wo ho (dg ho hf 1)) (st_loadA rfl 26 (.tmp 3) (oo ho) (rd_out rfl rfl) x.cs (by kernel_rfl) (fun i v hv => by rw [Nat.zero_add, (hX.call hC).cells i]; simpa using hv) (hK _ hC))
   ·exact gd (wo ho (dg ho hf 1)) (st_call1 rfl 40 (.tmp 9) #[26] (oo ho) (ri 2 (da ho hf 2)) (fun _ _ => rfl) (hpx W) (by (rintro u w9 ⟨h9, hb9⟩; injection h9 with h9; subst h9; exact hK _ (below_call hC hC.size hb9))) (fun _ _ h => nomatch h.1) (fun _ h => nomatch h.1))
   ·exact gd (wo ho (dg ho hf 1)) (st_loadA rfl 26 (.tmp 4) (oo ho) (rd_out rfl rfl) y.cs (by kernel_rfl) (fun i v hv => by rw [Nat.zero_add, (hY.call hC).cells i]; simpa using hv) (hK _ hC))
   ·exact gd (wo ho (dg ho hf 1)) (st_call1 rfl 40 (.tmp 11) #[26] (oo ho) (ri 4 (da ho hf 4)) (fun _ _ => rfl) (hpy W) (by (rintro u w9 ⟨h9, hb9⟩; injection h9 with h9; subst h9; exact hK _ (below_call hC hC.size hb9))) (fun _ _ h => nomatch h.1) (fun _ h => nomatch h.1))
   ·exact gd (wo ho (dg ho hf 1)) (st_bin rfl .neq 3 3 (.tmp 10) (.tmp 12) (oo ho) (ri 3 (da ho hf 3)) (ri 5 (da ho hf 5)) (gu_i _ _ _ _ _ _ _ _) (bin_neqE hd) (hK _ hC))
   ·exact st_pickT (og ho) (.tmp 8) (.tmp 13) (.const (.bool false)) (oo ho) (ri 1 (da ho hf 1)) (ri 6 (da ho hf 6)) (hK _ hC)
   ·omega
  case hend =>
   intro W hC1
   simp only [putL, Act.put, List.setIfInBounds_toArray, List.set_cons_succ, List.set_cons_zero]
   replace hX := hX.call hC1
   replace hY := hY.call hC1
   have hB2 := below_call hB hB.size hC1
   clear hC1 hB
   generalize W = w2 at *
   cases d
   ·have hpe : px = py := by simpa using hd
    have hcI : cI px py = 0 := by unfold cI; rw [hpe]; simp
    rw [hcI, show ∀ z, or2 0 z = z from fun _ => rfl] at hres0
    have hcx := hX.cells
    have hlx := hX.lt
    have hcy := hY.cells
    have hly := hY.lt
    replace hd := Lib.hid hd
    replace hd2 := Lib.hid hd2
    replace hres0 := Lib.hid hres0
    clear hpe hcI
    by_cases hs : x.w0 + x.b0 = y.w0 + y.b0
    ·have hsb : (x.w0 + x.b0 != y.w0 + y.b0) = false := by simp [hs]
     have hres : Hid (res = dT) := Lib.hid (by
      have h := hres0.out
      rw [show cI (x.w0 + x.b0) (y.w0 + y.b0) = 0 from by unfold cI; rw [hs]; simp] at h
      rw [h, hdT.out]; rfl)
     replace hs := Lib.hid hs
     go_wp2_with fail
     clear hcx hlx hcy hly
     refine wp_region_valsL (by kernel_rfl) (by kernel_rfl) [some 53, some 54, some 55, some 56, some 57, some 6] (by rfl) (by rfl) (fun i8 => match i8 with | 0 => .agg x.cs.toArray | 1 => .string (str tx) | 2 => .agg y.cs.toArray | 3 => .string (str ty) | 4 => .bool dT | 5 => .bool dT | _ => undef) (fun W => Below w2.heap.size w2 W) ((Below.refl _ _).drew) ?hstep ?hend
     case hstep =>
      intro i9 o9 f9 W ho hi hC hf K hK
      have hi : i9 < 6 := hi
      rcases i9 with _ | _ | _ | _ | _ | _ | i9
      ·exact st_loadA (og ho) 26 (.tmp 3) (oo ho) (rd_out rfl rfl) x.cs (by kernel_rfl) (fun i v hv => by rw [Nat.zero_add, (hX.call hC).cells i]; simpa using hv) (hK _ hC)
      ·exact st_call1 (og ho) 11 (.tmp 53) #[26] (oo ho) (ri 0 (da ho hf 0)) (fun _ _ => rfl) (htx W) (by (rintro u w9 ⟨h9, hb9⟩; injection h9 with h9; subst h9; exact hK _ (below_call hC hC.size hb9))) (fun _ _ h => nomatch h.1) (fun _ h => nomatch h.1)
      ·exact st_loadA (og ho) 26 (.tmp 4) (oo ho) (rd_out rfl rfl) y.cs (by kernel_rfl) (fun i v hv => by rw [Nat.zero_add, (hY.call hC).cells i]; simpa using hv) (hK _ hC)
      ·exact st_call1 (og ho) 11 (.tmp 55) #[26] (oo ho) (ri 2 (da ho hf 2)) (fun _ _ => rfl) (hty W) (by (rintro u w9 ⟨h9, hb9⟩; injection h9 with h9; subst h9; exact hK _ (below_call hC hC.size hb9))) (fun _ _ h => nomatch h.1) (fun _ h => nomatch h.1)
      ·exact st_bin (og ho) .lss 9 9 (.tmp 54) (.tmp 56) (oo ho) (ri 1 (da ho hf 1)) (ri 3 (da ho hf 3)) (gu_str _ _ _ _ _ _ _) (hlt W) (hK _ hC)
      ·exact st_assign (og ho) (.tmp 57) (oo ho) (ri 4 (da ho hf 4)) (hK _ hC)
      ·omega
     case hend =>
      intro W hC
      simp only [putL, Act.put, List.setIfInBounds_toArray, List.set_cons_succ, List.set_cons_zero]
      have hBe := below_call hB2 hB2.size hC
      go_wp2_with fail
      go_ret
      refine ⟨?_, hBe⟩
      rw [hres.out]
      rfl
    ·have hsb : (x.w0 + x.b0 != y.w0 + y.b0) = true := by simp [hs]
     have hres : Hid (res = decide (x.w0 + x.b0 < y.w0 + y.b0)) := Lib.hid (by
      rw [hres0.out, ← cI_lt (x.w0 + x.b0) (y.w0 + y.b0)]
      unfold or2
      have h0 : cI (x.w0 + x.b0) (y.w0 + y.b0) ≠ 0 := by unfold cI; split; · omega
                                                         ·split <;> omega
      rw [if_pos h0])
     replace hs := Lib.hid hs
     go_wp2_with fail
     go_ret
     refine ⟨?_, hB2⟩
     rw [hres.out]
     rfl
   ·have hpe : ¬ px = py := by simpa using hd
    have hres : Hid (res = d2) := Lib.hid (by
     rw [hres0, ← hd2, ← cI_lt px py]
     unfold or2
     have h0 : cI px py ≠ 0 := by unfold cI; split; · omega
                                  ·split <;> omega
     rw [if_pos h0])
    replace hres0 := Lib.hid hres0
    clear hpe
    go_wp2_with fail
    refine wp_region_valsL (by kernel_rfl) (by kernel_rfl) [some 15, some 16, some 17, some 18, some 19, some 6] (by rfl) (by rfl) (fun i8 => match i8 with | 0 => .agg x.cs.toArray | 1 => .int .i64 (px) | 2 => .agg y.cs.toArray | 3 => .int .i64 (py) | 4 => .bool d2 | 5 => .bool d2 | _ => undef) (fun W => Below w2.heap.size w2 W) ((Below.refl _ _).drew) ?hstep ?hend
    case hstep =>
     intro i9 o9 f9 W ho hi hC hf K hK
     have hi : i9 < 6 := hi
     rcases i9 with _ | _ | _ | _ | _ | _ | i9
     ·exact st_loadA (og ho) 26 (.tmp 3) (oo ho) (rd_out rfl rfl) x.cs (by kernel_rfl) (fun i v hv => by rw [Nat.zero_add, (hX.call hC).cells i]; simpa using hv) (hK _ hC)
     ·exact st_call1 (og ho) 40 (.tmp 15) #[26] (oo ho) (ri 0 (da ho hf 0)) (fun _ _ => rfl) (hpx W) (by (rintro u w9 ⟨h9, hb9⟩; injection h9 with h9; subst h9; exact hK _ (below_call hC hC.size hb9))) (fun _ _ h => nomatch h.1) (fun _ h => nomatch h.1)
     ·exact st_loadA (og ho) 26 (.tmp 4) (oo ho) (rd_out rfl rfl) y.cs (by kernel_rfl) (fun i v hv => by rw [Nat.zero_add, (hY.call hC).cells i]; simpa using hv) (hK _ hC)
     ·exact st_call1 (og ho) 40 (.tmp 17) #[26] (oo ho) (ri 2 (da ho hf 2)) (fun _ _ => rfl) (hpy W) (by (rintro u w9 ⟨h9, hb9⟩; injection h9 with h9; subst h9; exact hK _ (below_call hC hC.size hb9))) (fun _ _ h => nomatch h.1) (fun _ h => nomatch h.1)
     ·exact st_bin (og ho) .lss 3 3 (.tmp 16) (.tmp 18) (oo ho) (ri 1 (da ho hf 1)) (ri 3 (da ho hf 3)) (gu_i _ _ _ _ _ _ _ _) (bin_lssE hd2) (hK _ hC)
     ·exact st_assign (og ho) (.tmp 19) (oo ho) (ri 4 (da ho hf 4)) (hK _ hC)
     ·omega
    case hend =>
     intro W hC
     simp only [putL, Act.put, List.setIfInBounds_toArray, List.set_cons_succ, List.set_cons_zero]
     have hBe := below_call hB2 hB2.size hC
     go_wp2_with fail
     go_ret
     refine ⟨?_, hBe⟩
     rw [hres.out]
     rfl
end Go.Proofs.YtnpomigmeieofaaGreatDoor
