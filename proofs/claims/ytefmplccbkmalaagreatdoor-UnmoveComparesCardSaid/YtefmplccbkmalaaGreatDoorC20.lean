import Derived.Test.YtefmplccbkmalaaGreatDoorC19
set_option maxHeartbeats 12800000
namespace Go.Proofs.YtefmplccbkmalaaGreatDoor
open Go.RowKit

set_option maxRecDepth 100000 in
theorem rights_any (w : World) : Calls Tryz.prog 138 #[] w fun e w' => e = .returned (.agg #[.int .u8 1, .string { data := #[75] }, .bool false, .int .i64 4, .int .i64 7, .int .u8 2, .string { data := #[81] }, .bool false, .int .i64 4, .int .i64 0, .int .u8 4, .string { data := #[107] }, .bool true, .int .i64 60, .int .i64 63, .int .u8 8, .string { data := #[113] }, .bool true, .int .i64 60, .int .i64 56]) ∧ Below w.heap.size w w' := by
 have hu168 : (Tryz.prog.info? 171).map (·.size) = some 20 := by kernel_rfl
 go_enter Tryz.func138, Tryz.ntmps138
 go_wp2_with (first | (refine wpList_storeAgg rfl 171 (.tmp 0) (.tmp 5) rfl w.heap.size _ rfl rfl 171 _ (HasO.new _ _) hu168 rfl (by kernel_rfl) ?_; rintro w' rfl) | fail)
 refine bodyPost_ret (results_cell (fn := Tryz.f138) Tryz.results138 rfl (setRow_hasO (HasO.new _ _)) (by kernel_rfl)) rfl ?_
 exact ⟨rfl, setRow_below (below_box _ _) (Nat.le_refl _) (by simp)⟩
theorem size_neq (F R : Nat) (W : World) : (binOp .neq 23 (.agg #[.int .i64 (F : Int), .int .i64 (R : Int)]) (.agg #[.int .i64 8, .int .i64 8])).run Tryz.prog W = .ok (.bool (!(decide (F = 8) && decide (R = 8)))) W := by
 rw [run_neq_struct]
 simp [go_sem]
 by_cases h1 : F = 8 <;> by_cases h2 : R = 8 <;> simp [h1, h2] <;> omega
theorem size_guard (op : BinOp) (x y : Operand) (xs ys : Array Value) (W : World) : (eqGuard op 23 x y (.agg xs) (.agg ys)).run Tryz.prog W = .ok () W := run_eqGuard_agg _ op 23 x y xs ys (by kernel_rfl)
theorem size_neqE {F R : Nat} {d : Bool} {W : World} (h : (!(decide (F = 8) && decide (R = 8))) = d) : (binOp .neq 23 (.agg #[.int .i64 (F : Int), .int .i64 (R : Int)]) (.agg #[.int .i64 8, .int .i64 8])).run Tryz.prog W = .ok (.bool d) W := by rw [size_neq, h]
theorem bin5_and (x y : Int) (W : World) : (binOp .and 5 (.int .u8 x) (.int .u8 y)).run Tryz.prog W = .ok (.int .u8 (bits .and .u8 x y)) W := by simp [go_sem]
theorem bin5_andE {x y z : Int} {W : World} (h : bits .and .u8 x y = z) : (binOp .and 5 (.int .u8 x) (.int .u8 y)).run Tryz.prog W = .ok (.int .u8 z) W := by rw [bin5_and, h]
theorem bin5_neqE {x y : Int} {d : Bool} {W : World} (h : (x != y) = d) : (binOp .neq 5 (.int .u8 x) (.int .u8 y)).run Tryz.prog W = .ok (.bool d) W := by rw [← h]; simp [go_sem]
theorem bin8_neqE {x y : Int} {d : Bool} {W : World} (h : (x != y) = d) : (binOp .neq 38 (.int .i8 x) (.int .i8 y)).run Tryz.prog W = .ok (.bool d) W := by rw [← h]; simp [go_sem]
theorem ca_bit {ca : Int} (h : 0 ≤ ca ∧ ca < 256) (k : Nat) (hk : k < 4) : (bits .and .u8 ca (bitI k) != 0) = (ca / bitI k % 2 == 1) := by
 obtain ⟨n, rfl⟩ : ∃ n : Nat, ca = n := ⟨ca.toNat, by omega⟩
 have key : ∀ k, k < 4 → ∀ n, n < 256 → (bits .and .u8 ((n : Nat) : Int) (bitI k) != 0) = (((n : Nat) : Int) / bitI k % 2 == 1) := by decide +kernel
 exact key k hk n (by omega)
theorem sl_168_0 (W : World) : (Instr.index 171 (.agg #[.int .u8 1, .string { data := #[75] }, .bool false, .int .i64 4, .int .i64 7, .int .u8 2, .string { data := #[81] }, .bool false, .int .i64 4, .int .i64 0, .int .u8 4, .string { data := #[107] }, .bool true, .int .i64 60, .int .i64 63, .int .u8 8, .string { data := #[113] }, .bool true, .int .i64 60, .int .i64 56]) (.int .i64 0)).run Tryz.prog W = .ok (.agg #[.int .u8 1, .string { data := #[75] }, .bool false, .int .i64 4, .int .i64 7]) W := by kernel_rfl
theorem sl_168_1 (W : World) : (Instr.index 171 (.agg #[.int .u8 1, .string { data := #[75] }, .bool false, .int .i64 4, .int .i64 7, .int .u8 2, .string { data := #[81] }, .bool false, .int .i64 4, .int .i64 0, .int .u8 4, .string { data := #[107] }, .bool true, .int .i64 60, .int .i64 63, .int .u8 8, .string { data := #[113] }, .bool true, .int .i64 60, .int .i64 56]) (.int .i64 1)).run Tryz.prog W = .ok (.agg #[.int .u8 2, .string { data := #[81] }, .bool false, .int .i64 4, .int .i64 0]) W := by kernel_rfl
theorem sl_168_2 (W : World) : (Instr.index 171 (.agg #[.int .u8 1, .string { data := #[75] }, .bool false, .int .i64 4, .int .i64 7, .int .u8 2, .string { data := #[81] }, .bool false, .int .i64 4, .int .i64 0, .int .u8 4, .string { data := #[107] }, .bool true, .int .i64 60, .int .i64 63, .int .u8 8, .string { data := #[113] }, .bool true, .int .i64 60, .int .i64 56]) (.int .i64 2)).run Tryz.prog W = .ok (.agg #[.int .u8 4, .string { data := #[107] }, .bool true, .int .i64 60, .int .i64 63]) W := by kernel_rfl
theorem sl_168_3 (W : World) : (Instr.index 171 (.agg #[.int .u8 1, .string { data := #[75] }, .bool false, .int .i64 4, .int .i64 7, .int .u8 2, .string { data := #[81] }, .bool false, .int .i64 4, .int .i64 0, .int .u8 4, .string { data := #[107] }, .bool true, .int .i64 60, .int .i64 63, .int .u8 8, .string { data := #[113] }, .bool true, .int .i64 60, .int .i64 56]) (.int .i64 3)).run Tryz.prog W = .ok (.agg #[.int .u8 8, .string { data := #[113] }, .bool true, .int .i64 60, .int .i64 56]) W := by kernel_rfl
theorem rights_at (xs : List Int) (i : Nat) (hi : i < 4) : ∃ (bb : Int) (sb : ByteArray) (bk : Bool) (kq rq : Nat), (∀ W, (Instr.index 171 (.agg #[.int .u8 1, .string { data := #[75] }, .bool false, .int .i64 4, .int .i64 7, .int .u8 2, .string { data := #[81] }, .bool false, .int .i64 4, .int .i64 0, .int .u8 4, .string { data := #[107] }, .bool true, .int .i64 60, .int .i64 63, .int .u8 8, .string { data := #[113] }, .bool true, .int .i64 60, .int .i64 56]) (.int .i64 i)).run Tryz.prog W = .ok (.agg #[.int .u8 bb, .string sb, .bool bk, .int .i64 (kq : Nat), .int .i64 (rq : Nat)]) W) ∧ bitI i = bb ∧ kq < 64 ∧ rq < 64 ∧ homeB 8 8 xs bb = ((xs[kq]?.getD 0 == pcI 6 bk) && (xs[rq]?.getD 0 == pcI 4 bk)) := by
 rcases (by omega : i = 0 ∨ i = 1 ∨ i = 2 ∨ i = 3) with rfl | rfl | rfl | rfl
 ·exact ⟨1, _, false, 4, 7, sl_168_0, rfl, by decide, by decide, by simp [homeB, homeV, pcI]⟩
 ·exact ⟨2, _, false, 4, 0, sl_168_1, rfl, by decide, by decide, by simp [homeB, homeV, pcI]⟩
 ·exact ⟨4, _, true, 60, 63, sl_168_2, rfl, by decide, by decide, by simp [homeB, homeV, pcI]⟩
 ·exact ⟨8, _, true, 60, 56, sl_168_3, rfl, by decide, by decide, by simp [homeB, homeV, pcI]⟩
set_option maxRecDepth 100000 in
theorem castles_any (F R : Nat) (ca pa ha fu : Int) (bl : Bool) (p : Option Addr) (c : Nat) (xs : List Int) (hlen : xs.length = F * R) (hpos : 0 < xs.length) (hca : 0 ≤ ca ∧ ca < 256) (w : World) (hg : GlobOk w) (hx : Arr .i8 w p xs) :
  Calls Tryz.prog 79 #[.agg (posCs F R p xs.length c bl ca pa ha fu).toArray] w fun e w' => e = .returned (.bool (cstB F R xs ca)) ∧ Below w.heap.size w w' := by
 have hA := HasO.new w (.cells (posCs F R p xs.length c bl ca pa ha fu).toArray 26)
 have hB := below_box w (.cells (posCs F R p xs.length c bl ca pa ha fu).toArray 26)
 have hx1 := hx.call hB
 have hg1 := hg.call hB
 obtain ⟨g, o, rfl, hgl, hcc⟩ := hx1.at (i := 0) hpos
 have h64 : F = 8 → R = 8 → xs.length = 64 := by rintro rfl rfl; exact hlen
 have hcab := ca_bit hca
 obtain ⟨V, hV⟩ : ∃ V, V = cstB F R xs ca := ⟨_, rfl⟩
 have e0 : V = (!decide (15 < ca) && cstK F R xs ca 4) := hV
 rw [← hV]
 clear hV
 replace e0 := Lib.hid e0
 replace hlen := Lib.hid hlen
 go_enter Tryz.func79, Tryz.ntmps79
 go_wp2_with fail
 refine (rights_any _).mono ?_
 rintro e w2 ⟨rfl, hb2⟩
 have hA2 := hA.call hb2
 have hB2 := below_call hB hB.size hb2
 have hg2 := hg1.call hb2
 have hgl2 : g < w2.heap.size := Nat.lt_of_lt_of_le hgl hb2.size
 have hcc2 : ∀ j, j < xs.length → w2.cell? ⟨g, o + j, none⟩ = some (.int .i8 (xs[j]?.getD 0)) := fun j hj => (hb2.cell (p := ⟨g, o + j, none⟩) hgl).trans (hcc j hj)
 clear hA hB hb2 hg1 hgl hcc hx1 hx hg
 go_wp2_with fail
 go_loopg [6] 5 (fun q iv wr => ∃ i : Nat, q + i = 5 ∧ i ≤ 4 ∧ iv = .int .i64 i ∧ cstK F R xs ca i = true ∧ Below w2.heap.size w2 wr)
 case atStart => exact ⟨0, rfl, Nat.zero_le _, rfl, rfl, Below.refl _ _⟩
 case round =>
  obtain ⟨i, hq, hi, rfl, hok, hbr⟩ := hrel
  have hAr := hA2.call hbr
  have hBr := below_call hB2 hB2.size hbr
  have hgr := hg2.call hbr
  have hglr : g < wr.heap.size := Nat.lt_of_lt_of_le hgl2 hbr.size
  have hccr : ∀ j, j < xs.length → wr.cell? ⟨g, o + j, none⟩ = some (.int .i8 (xs[j]?.getD 0)) := fun j hj => (hbr.cell (p := ⟨g, o + j, none⟩) hgl2).trans (hcc2 j hj)
  replace hok := Lib.hid hok
  by_cases hlt : i < 4
  ·have hnx : cstK F R xs ca (i + 1) = (cstK F R xs ca i && (!(ca / bitI i % 2 == 1) || homeB F R xs (bitI i))) := rfl
   have hcb := hcab i hlt
   rw [hok.out, Bool.true_and, ← hcb] at hnx
   obtain ⟨bb, sb, bk, kq, rq, hix, hbits, hkq, hrq, hhome⟩ := rights_at xs i hlt
   rw [hbits] at hnx
   replace hnx := Lib.hid hnx
   clear hcb hA2 hg2 hcc2 hcab hbits
   have hii : (i : Int) < 4 := by omega
   ·go_wp2_with fail
    show Code.wp _ _ _ _ (wr.alloc (.cells #[.int .u8 bb, .string sb, .bool bk, .int .i64 (kq : Nat), .int .i64 (rq : Nat)] 170))
    have hQ := HasO.new wr (.cells #[.int .u8 bb, .string sb, .bool bk, .int .i64 (kq : Nat), .int .i64 (rq : Nat)] 170)
    have hb3 := below_box wr (.cells #[.int .u8 bb, .string sb, .bool bk, .int .i64 (kq : Nat), .int .i64 (rq : Nat)] 170)
    obtain ⟨q, hq9⟩ : ∃ q, q = wr.heap.size := ⟨_, rfl⟩
    rw [← hq9] at hQ ⊢
    generalize wr.alloc (.cells #[.int .u8 bb, .string sb, .bool bk, .int .i64 (kq : Nat), .int .i64 (rq : Nat)] 170) = w3 at *
    obtain ⟨av, hav⟩ : ∃ av, bits .and .u8 ca bb = av := ⟨_, rfl⟩
    have hav0 : bits .and .u8 ca bb = av := hav
    replace hq9 := Lib.hid hq9
    rcases hb1 : (av != 0) with _ | _
    ·skip
     refine wp_region_vl (by kernel_rfl) (by kernel_rfl) [some 9, some 10, some 11, some 12, some 13, some 14, some 15, some 16, some 17, some 18, some 19, some 20, some 21, some 22, some 23, some 24, some 25, some 26, some 27, some 28, some 29, some 30, some 31, some 32, some 33, some 34, some 35, some 36, some 37, some 38, some 39, some 40, some 41, some 42, some 43, some 44] (by rfl) (by rfl) w3.heap.size (fun i8 => match i8 with | 0 => .pointer (some ⟨w.heap.size, 4, none⟩) | 1 => .int .u8 ca | 2 => .pointer (some ⟨q, 0, none⟩) | 3 => .int .u8 bb | 4 => .int .u8 av | 5 => .bool false | 6 => .bool false | 35 => .bool false | _ => undef) (fun _ => none) ?hstep ?hend
     case hstep =>
      intro i9 o9 f9 W ho hi hC hf K hK
      have hC0 := below_call hb3 hb3.size hC
      have hi : i9 < 36 := hi
      rcases i9 with _ | _ | _ | _ | _ | _ | _ | _ | _ | _ | _ | _ | _ | _ | _ | _ | _ | _ | _ | _ | _ | _ | _ | _ | _ | _ | _ | _ | _ | _ | _ | _ | _ | _ | _ | _ | i9
      ·exact st_field (og ho) 26 (.tmp 1) 3 (oo ho) (rd_out rfl rfl) (n := 4) (by kernel_rfl) (kk hK)
      ·exact st_loadS (og ho) 5 (.tmp 9) (oo ho) (ri 0 (da ho hf 0)) (by kernel_rfl) ((hAr.call hC0).cells 4) (kk hK)
      ·exact st_field (og ho) 170 (.tmp 4) 0 (oo ho) (rd_out rfl rfl) (n := 0) (by kernel_rfl) (kk hK)
      ·exact st_loadS (og ho) 5 (.tmp 11) (oo ho) (ri 2 (da ho hf 2)) (by kernel_rfl) ((hQ.call hC).cells 0) (kk hK)
      ·exact st_bin (og ho) .and 5 5 (.tmp 10) (.tmp 12) (oo ho) (ri 1 (da ho hf 1)) (ri 3 (da ho hf 3)) (gu_i _ _ _ _ _ _ _ _) (bin5_andE hav) (kk hK)
      ·exact st_bin (og ho) .neq 5 5 (.tmp 13) (.const (.int .u8 0)) (oo ho) (ri 4 (da ho hf 4)) rfl (gu_i _ _ _ _ _ _ _ _) (bin5_neqE hb1) (kk hK)
      ·exact st_move (og ho) (.tmp 14) (oo ho) (ri 5 (da ho hf 5)) (kk hK)
      iterate 5 exact skip_gd (uw ho (dg ho hf 6)) (kk hK)
      iterate 10 exact skip_gd (unwanted_undef rfl 11 false 20 (og ho) rfl rfl (by simp) (dg ho hf 11)) (kk hK)
      iterate 2 exact skip_gd (uw ho (dg ho hf 6)) (kk hK)
      iterate 10 exact skip_gd (unwanted_undef rfl 23 false 32 (og ho) rfl rfl (by simp) (dg ho hf 23)) (kk hK)
      ·exact skip_gd (uw ho (dg ho hf 6)) (kk hK)
      ·exact st_pickF (og ho) (.tmp 15) (.tmp 43) (.const (.bool false)) (oo ho) (ri 6 (da ho hf 6)) rfl (kk hK)
      ·omega
     case hend =>
      intro f9 W hC hf
      have hv : f9 35 = .bool false := hf 35 (by decide)
      have hbW := below_call hbr hbr.size (below_call hb3 hb3.size hC)
      have hBW := below_call hBr hBr.size (below_call hb3 hb3.size hC)
      clear hf
      simp only [putL, Act.put, List.setIfInBounds_toArray, List.set_cons_succ, List.set_cons_zero]
      rw [hv]
      have hn1 : Hid (cstK F R xs ca (i + 1) = true) := Lib.hid (by rw [hnx.out, hav0, hb1]; rfl)
      go_wp2_with fail
      go_roundg (gk - 1)
      case measure => omega
      case rel => exact ⟨i + 1, by omega, by omega, by go_num, hn1.out, hbW⟩
    ·by_cases hsz : F = 8 ∧ R = 8
     ·obtain ⟨hF8, hR8⟩ := hsz
      have hb2 : (!(decide (F = 8) && decide (R = 8))) = false := by simp [hF8, hR8]
      have hl64 := h64 hF8 hR8
      have hxk := hccr kq (by omega)
      have hxr := hccr rq (by omega)
      have hhd : homeB F R xs bb = ((xs[kq]?.getD 0 == (pcI 6 bk)) && (xs[rq]?.getD 0 == (pcI 4 bk))) := by
       subst hF8 hR8; exact hhome
      generalize xs[kq]?.getD 0 = xk at hxk hhd
      generalize xs[rq]?.getD 0 = xr at hxr hhd
      rcases hb3' : (xk != (pcI 6 bk)) with _ | _
      ·have hbk : (xk != (pcI 6 bk)) = false := hb3'
       have hk3 : (xk == (pcI 6 bk)) = true := by simpa using hbk
       rcases hb4 : (xr != (pcI 4 bk)) with _ | _
       ·have hh : homeB F R xs bb = true := by rw [hhd, hk3]; simpa using hb4
        refine wp_region_vl (by kernel_rfl) (by kernel_rfl) [some 9, some 10, some 11, some 12, some 13, some 14, some 15, some 16, some 17, some 18, some 19, some 20, some 21, some 22, some 23, some 24, some 25, some 26, some 27, some 28, some 29, some 30, some 31, some 32, some 33, some 34, some 35, some 36, some 37, some 38, some 39, some 40, some 41, some 42, some 43, some 44] (by rfl) (by rfl) w3.heap.size (fun i8 => match i8 with | 0 => .pointer (some ⟨w.heap.size, 4, none⟩) | 1 => .int .u8 ca | 2 => .pointer (some ⟨q, 0, none⟩) | 3 => .int .u8 bb | 4 => .int .u8 av | 5 => .bool true | 6 => .bool true | 7 => .pointer (some ⟨w.heap.size, 0, none⟩) | 8 => .agg #[.int .i64 (F : Int), .int .i64 (R : Int)] | 9 => .agg #[.int .i64 8, .int .i64 8] | 10 => .bool false | 11 => .bool false | 12 => .pointer (some ⟨w.heap.size, 2, none⟩) | 13 => .slice (some ⟨g, o, none⟩) xs.length c | 14 => .pointer (some ⟨q, 3, none⟩) | 15 => .int .i64 (kq : Nat) | 16 => .pointer (some ⟨g, o + kq, none⟩) | 17 => .int .i8 xk | 18 => .pointer (some ⟨q, 2, none⟩) | 19 => .bool bk | 20 => .int .i8 (pcI 6 bk) | 21 => .bool false | 22 => .bool false | 23 => .bool false | 24 => .pointer (some ⟨w.heap.size, 2, none⟩) | 25 => .slice (some ⟨g, o, none⟩) xs.length c | 26 => .pointer (some ⟨q, 4, none⟩) | 27 => .int .i64 (rq : Nat) | 28 => .pointer (some ⟨g, o + rq, none⟩) | 29 => .int .i8 xr | 30 => .pointer (some ⟨q, 2, none⟩) | 31 => .bool bk | 32 => .int .i8 (pcI 4 bk) | 33 => .bool false | 34 => .bool false | 35 => .bool false | _ => undef) (fun _ => none) ?hstep ?hend
        case hstep =>
         intro i9 o9 f9 W ho hi hC hf K hK
         have hC0 := below_call hb3 hb3.size hC
         have hi : i9 < 36 := hi
         rcases i9 with _ | _ | _ | _ | _ | _ | _ | _ | _ | _ | _ | _ | _ | _ | _ | _ | _ | _ | _ | _ | _ | _ | _ | _ | _ | _ | _ | _ | _ | _ | _ | _ | _ | _ | _ | _ | i9
         ·exact st_field (og ho) 26 (.tmp 1) 3 (oo ho) (rd_out rfl rfl) (n := 4) (by kernel_rfl) (kk hK)
         ·exact st_loadS (og ho) 5 (.tmp 9) (oo ho) (ri 0 (da ho hf 0)) (by kernel_rfl) ((hAr.call hC0).cells 4) (kk hK)
         ·exact st_field (og ho) 170 (.tmp 4) 0 (oo ho) (rd_out rfl rfl) (n := 0) (by kernel_rfl) (kk hK)
         ·exact st_loadS (og ho) 5 (.tmp 11) (oo ho) (ri 2 (da ho hf 2)) (by kernel_rfl) ((hQ.call hC).cells 0) (kk hK)
         ·exact st_bin (og ho) .and 5 5 (.tmp 10) (.tmp 12) (oo ho) (ri 1 (da ho hf 1)) (ri 3 (da ho hf 3)) (gu_i _ _ _ _ _ _ _ _) (bin5_andE hav) (kk hK)
         ·exact st_bin (og ho) .neq 5 5 (.tmp 13) (.const (.int .u8 0)) (oo ho) (ri 4 (da ho hf 4)) rfl (gu_i _ _ _ _ _ _ _ _) (bin5_neqE hb1) (kk hK)
         ·exact st_move (og ho) (.tmp 14) (oo ho) (ri 5 (da ho hf 5)) (kk hK)
         ·exact gd (wo ho (dg ho hf 6)) (st_field rfl 26 (.tmp 1) 0 (oo ho) (rd_out rfl rfl) (n := 0) (by kernel_rfl) (kk hK))
         ·exact gd (wo ho (dg ho hf 6)) (st_loadA rfl 23 (.tmp 16) (oo ho) (ri 7 (da ho hf 7)) [.int .i64 (F : Int), .int .i64 (R : Int)] (by kernel_rfl) (fun j v hv => by rw [Nat.zero_add, (hAr.call hC0).cells j]; match j, hv with | 0, hv => simpa using hv | 1, hv => simpa using hv) (kk hK))
         ·exact gd (wo ho (dg ho hf 6)) (st_loadA rfl 23 (.global 3) (oo ho) rfl [.int .i64 8, .int .i64 8] (by kernel_rfl) (fun j v hv => by match j, hv with | 0, hv => exact (hgr.call hC0).2.2.2.1.trans (by simpa using hv) | 1, hv => exact (hgr.call hC0).2.2.2.2.trans (by simpa using hv)) (kk hK))
         ·exact gd (wo ho (dg ho hf 6)) (st_bin rfl .neq 23 23 (.tmp 17) (.tmp 18) (oo ho) (ri 8 (da ho hf 8)) (ri 9 (da ho hf 9)) (size_guard _ _ _ _ _ _) (size_neqE hb2) (kk hK))
         ·exact gd (wo ho (dg ho hf 6)) (st_move rfl (.tmp 19) (oo ho) (ri 10 (da ho hf 10)) (kk hK))
         ·exact gd (wo ho (dg ho hf 11)) (st_field rfl 26 (.tmp 1) 1 (oo ho) (rd_out rfl rfl) (n := 2) (by kernel_rfl) (kk hK))
         ·exact gd (wo ho (dg ho hf 11)) (st_loadS rfl 24 (.tmp 21) (oo ho) (ri 12 (da ho hf 12)) (by kernel_rfl) ((hAr.call hC0).cells 2) (kk hK))
         ·exact gd (wo ho (dg ho hf 11)) (st_field rfl 170 (.tmp 4) 3 (oo ho) (rd_out rfl rfl) (n := 3) (by kernel_rfl) (kk hK))
         ·exact gd (wo ho (dg ho hf 11)) (st_loadS rfl 3 (.tmp 23) (oo ho) (ri 14 (da ho hf 14)) (by kernel_rfl) ((hQ.call hC).cells 3) (kk hK))
         ·exact gd (wo ho (dg ho hf 11)) (st_index rfl 24 (.tmp 22) (.tmp 24) (oo ho) (ri 13 (da ho hf 13)) (ri 15 (da ho hf 15)) (index25 W g o xs.length c kq (by omega)) (kk hK))
         ·exact gd (wo ho (dg ho hf 11)) (st_loadS rfl 38 (.tmp 25) (oo ho) (ri 16 (da ho hf 16)) (by kernel_rfl) ((hC0.cell (p := ⟨g, o + kq, none⟩) hglr).trans hxk) (kk hK))
         ·exact gd (wo ho (dg ho hf 11)) (st_field rfl 170 (.tmp 4) 2 (oo ho) (rd_out rfl rfl) (n := 2) (by kernel_rfl) (kk hK))
         ·exact gd (wo ho (dg ho hf 11)) (st_loadS rfl 4 (.tmp 27) (oo ho) (ri 18 (da ho hf 18)) (by kernel_rfl) ((hQ.call hC).cells 2) (kk hK))
         ·exact gd (wo ho (dg ho hf 11)) (st_call2 rfl 139 (.const (.int .i8 6)) (.tmp 28) #[38, 4] (oo ho) rfl (ri 19 (da ho hf 19)) (fun _ _ => rfl) (piece_any 6 bk (by decide) W) (by rintro u w9 ⟨h9, h10⟩; injection h9 with h9; subst h9; subst h10; exact hK _ _ (Below.refl _ _) rfl) (fun _ _ h => nomatch h.1) (fun _ h => nomatch h.1))
         ·exact gd (wo ho (dg ho hf 11)) (st_bin rfl .neq 38 38 (.tmp 26) (.tmp 29) (oo ho) (ri 17 (da ho hf 17)) (ri 20 (da ho hf 20)) (gu_i _ _ _ _ _ _ _ _) (bin8_neqE hbk) (kk hK))
         ·exact gd (wo ho (dg ho hf 6)) (st_pickF rfl (.tmp 20) (.const (.bool true)) (.tmp 30) (oo ho) (ri 11 (da ho hf 11)) (ri 21 (da ho hf 21)) (kk hK))
         ·exact gd (wo ho (dg ho hf 6)) (st_move rfl (.tmp 31) (oo ho) (ri 22 (da ho hf 22)) (kk hK))
         ·exact gd (wo ho (dg ho hf 23)) (st_field rfl 26 (.tmp 1) 1 (oo ho) (rd_out rfl rfl) (n := 2) (by kernel_rfl) (kk hK))
         ·exact gd (wo ho (dg ho hf 23)) (st_loadS rfl 24 (.tmp 33) (oo ho) (ri 24 (da ho hf 24)) (by kernel_rfl) ((hAr.call hC0).cells 2) (kk hK))
         ·exact gd (wo ho (dg ho hf 23)) (st_field rfl 170 (.tmp 4) 4 (oo ho) (rd_out rfl rfl) (n := 4) (by kernel_rfl) (kk hK))
         ·exact gd (wo ho (dg ho hf 23)) (st_loadS rfl 3 (.tmp 35) (oo ho) (ri 26 (da ho hf 26)) (by kernel_rfl) ((hQ.call hC).cells 4) (kk hK))
         ·exact gd (wo ho (dg ho hf 23)) (st_index rfl 24 (.tmp 34) (.tmp 36) (oo ho) (ri 25 (da ho hf 25)) (ri 27 (da ho hf 27)) (index25 W g o xs.length c rq (by omega)) (kk hK))
         ·exact gd (wo ho (dg ho hf 23)) (st_loadS rfl 38 (.tmp 37) (oo ho) (ri 28 (da ho hf 28)) (by kernel_rfl) ((hC0.cell (p := ⟨g, o + rq, none⟩) hglr).trans hxr) (kk hK))
         ·exact gd (wo ho (dg ho hf 23)) (st_field rfl 170 (.tmp 4) 2 (oo ho) (rd_out rfl rfl) (n := 2) (by kernel_rfl) (kk hK))
         ·exact gd (wo ho (dg ho hf 23)) (st_loadS rfl 4 (.tmp 39) (oo ho) (ri 30 (da ho hf 30)) (by kernel_rfl) ((hQ.call hC).cells 2) (kk hK))
         ·exact gd (wo ho (dg ho hf 23)) (st_call2 rfl 139 (.const (.int .i8 4)) (.tmp 40) #[38, 4] (oo ho) rfl (ri 31 (da ho hf 31)) (fun _ _ => rfl) (piece_any 4 bk (by decide) W) (by rintro u w9 ⟨h9, h10⟩; injection h9 with h9; subst h9; subst h10; exact hK _ _ (Below.refl _ _) rfl) (fun _ _ h => nomatch h.1) (fun _ h => nomatch h.1))
         ·exact gd (wo ho (dg ho hf 23)) (st_bin rfl .neq 38 38 (.tmp 38) (.tmp 41) (oo ho) (ri 29 (da ho hf 29)) (ri 32 (da ho hf 32)) (gu_i _ _ _ _ _ _ _ _) (bin8_neqE hb4) (kk hK))
         ·exact gd (wo ho (dg ho hf 6)) (st_pickF rfl (.tmp 32) (.const (.bool true)) (.tmp 42) (oo ho) (ri 23 (da ho hf 23)) (ri 33 (da ho hf 33)) (kk hK))
         ·exact st_pickT (og ho) (.tmp 15) (.tmp 43) (.const (.bool false)) (oo ho) (ri 6 (da ho hf 6)) (ri 34 (da ho hf 34)) (kk hK)
         ·omega
        case hend =>
         intro f9 W hC hf
         have hv : f9 35 = .bool false := hf 35 (by decide)
         have hbW := below_call hbr hbr.size (below_call hb3 hb3.size hC)
         have hBW := below_call hBr hBr.size (below_call hb3 hb3.size hC)
         clear hf
         simp only [putL, Act.put, List.setIfInBounds_toArray, List.set_cons_succ, List.set_cons_zero]
         rw [hv]
         have hn1 : Hid (cstK F R xs ca (i + 1) = true) := Lib.hid (by rw [hnx.out, hav0, hb1]; simp only [Bool.not_true, Bool.false_or]; exact hh)
         go_wp2_with fail
         go_roundg (gk - 1)
         case measure => omega
         case rel => exact ⟨i + 1, by omega, by omega, by go_num, hn1.out, hbW⟩
       ·have hh : homeB F R xs bb = false := by rw [hhd, hk3]; simpa using hb4
        refine wp_region_vl (by kernel_rfl) (by kernel_rfl) [some 9, some 10, some 11, some 12, some 13, some 14, some 15, some 16, some 17, some 18, some 19, some 20, some 21, some 22, some 23, some 24, some 25, some 26, some 27, some 28, some 29, some 30, some 31, some 32, some 33, some 34, some 35, some 36, some 37, some 38, some 39, some 40, some 41, some 42, some 43, some 44] (by rfl) (by rfl) w3.heap.size (fun i8 => match i8 with | 0 => .pointer (some ⟨w.heap.size, 4, none⟩) | 1 => .int .u8 ca | 2 => .pointer (some ⟨q, 0, none⟩) | 3 => .int .u8 bb | 4 => .int .u8 av | 5 => .bool true | 6 => .bool true | 7 => .pointer (some ⟨w.heap.size, 0, none⟩) | 8 => .agg #[.int .i64 (F : Int), .int .i64 (R : Int)] | 9 => .agg #[.int .i64 8, .int .i64 8] | 10 => .bool false | 11 => .bool false | 12 => .pointer (some ⟨w.heap.size, 2, none⟩) | 13 => .slice (some ⟨g, o, none⟩) xs.length c | 14 => .pointer (some ⟨q, 3, none⟩) | 15 => .int .i64 (kq : Nat) | 16 => .pointer (some ⟨g, o + kq, none⟩) | 17 => .int .i8 xk | 18 => .pointer (some ⟨q, 2, none⟩) | 19 => .bool bk | 20 => .int .i8 (pcI 6 bk) | 21 => .bool false | 22 => .bool false | 23 => .bool false | 24 => .pointer (some ⟨w.heap.size, 2, none⟩) | 25 => .slice (some ⟨g, o, none⟩) xs.length c | 26 => .pointer (some ⟨q, 4, none⟩) | 27 => .int .i64 (rq : Nat) | 28 => .pointer (some ⟨g, o + rq, none⟩) | 29 => .int .i8 xr | 30 => .pointer (some ⟨q, 2, none⟩) | 31 => .bool bk | 32 => .int .i8 (pcI 4 bk) | 33 => .bool true | 34 => .bool true | 35 => .bool true | _ => undef) (fun _ => none) ?hstep ?hend
        case hstep =>
         intro i9 o9 f9 W ho hi hC hf K hK
         have hC0 := below_call hb3 hb3.size hC
         have hi : i9 < 36 := hi
         rcases i9 with _ | _ | _ | _ | _ | _ | _ | _ | _ | _ | _ | _ | _ | _ | _ | _ | _ | _ | _ | _ | _ | _ | _ | _ | _ | _ | _ | _ | _ | _ | _ | _ | _ | _ | _ | _ | i9
         ·exact st_field (og ho) 26 (.tmp 1) 3 (oo ho) (rd_out rfl rfl) (n := 4) (by kernel_rfl) (kk hK)
         ·exact st_loadS (og ho) 5 (.tmp 9) (oo ho) (ri 0 (da ho hf 0)) (by kernel_rfl) ((hAr.call hC0).cells 4) (kk hK)
         ·exact st_field (og ho) 170 (.tmp 4) 0 (oo ho) (rd_out rfl rfl) (n := 0) (by kernel_rfl) (kk hK)
         ·exact st_loadS (og ho) 5 (.tmp 11) (oo ho) (ri 2 (da ho hf 2)) (by kernel_rfl) ((hQ.call hC).cells 0) (kk hK)
         ·exact st_bin (og ho) .and 5 5 (.tmp 10) (.tmp 12) (oo ho) (ri 1 (da ho hf 1)) (ri 3 (da ho hf 3)) (gu_i _ _ _ _ _ _ _ _) (bin5_andE hav) (kk hK)
         ·exact st_bin (og ho) .neq 5 5 (.tmp 13) (.const (.int .u8 0)) (oo ho) (ri 4 (da ho hf 4)) rfl (gu_i _ _ _ _ _ _ _ _) (bin5_neqE hb1) (kk hK)
         ·exact st_move (og ho) (.tmp 14) (oo ho) (ri 5 (da ho hf 5)) (kk hK)
         ·exact gd (wo ho (dg ho hf 6)) (st_field rfl 26 (.tmp 1) 0 (oo ho) (rd_out rfl rfl) (n := 0) (by kernel_rfl) (kk hK))
         ·exact gd (wo ho (dg ho hf 6)) (st_loadA rfl 23 (.tmp 16) (oo ho) (ri 7 (da ho hf 7)) [.int .i64 (F : Int), .int .i64 (R : Int)] (by kernel_rfl) (fun j v hv => by rw [Nat.zero_add, (hAr.call hC0).cells j]; match j, hv with | 0, hv => simpa using hv | 1, hv => simpa using hv) (kk hK))
         ·exact gd (wo ho (dg ho hf 6)) (st_loadA rfl 23 (.global 3) (oo ho) rfl [.int .i64 8, .int .i64 8] (by kernel_rfl) (fun j v hv => by match j, hv with | 0, hv => exact (hgr.call hC0).2.2.2.1.trans (by simpa using hv) | 1, hv => exact (hgr.call hC0).2.2.2.2.trans (by simpa using hv)) (kk hK))
         ·exact gd (wo ho (dg ho hf 6)) (st_bin rfl .neq 23 23 (.tmp 17) (.tmp 18) (oo ho) (ri 8 (da ho hf 8)) (ri 9 (da ho hf 9)) (size_guard _ _ _ _ _ _) (size_neqE hb2) (kk hK))
         ·exact gd (wo ho (dg ho hf 6)) (st_move rfl (.tmp 19) (oo ho) (ri 10 (da ho hf 10)) (kk hK))
         ·exact gd (wo ho (dg ho hf 11)) (st_field rfl 26 (.tmp 1) 1 (oo ho) (rd_out rfl rfl) (n := 2) (by kernel_rfl) (kk hK))
         ·exact gd (wo ho (dg ho hf 11)) (st_loadS rfl 24 (.tmp 21) (oo ho) (ri 12 (da ho hf 12)) (by kernel_rfl) ((hAr.call hC0).cells 2) (kk hK))
         ·exact gd (wo ho (dg ho hf 11)) (st_field rfl 170 (.tmp 4) 3 (oo ho) (rd_out rfl rfl) (n := 3) (by kernel_rfl) (kk hK))
         ·exact gd (wo ho (dg ho hf 11)) (st_loadS rfl 3 (.tmp 23) (oo ho) (ri 14 (da ho hf 14)) (by kernel_rfl) ((hQ.call hC).cells 3) (kk hK))
         ·exact gd (wo ho (dg ho hf 11)) (st_index rfl 24 (.tmp 22) (.tmp 24) (oo ho) (ri 13 (da ho hf 13)) (ri 15 (da ho hf 15)) (index25 W g o xs.length c kq (by omega)) (kk hK))
         ·exact gd (wo ho (dg ho hf 11)) (st_loadS rfl 38 (.tmp 25) (oo ho) (ri 16 (da ho hf 16)) (by kernel_rfl) ((hC0.cell (p := ⟨g, o + kq, none⟩) hglr).trans hxk) (kk hK))
         ·exact gd (wo ho (dg ho hf 11)) (st_field rfl 170 (.tmp 4) 2 (oo ho) (rd_out rfl rfl) (n := 2) (by kernel_rfl) (kk hK))
         ·exact gd (wo ho (dg ho hf 11)) (st_loadS rfl 4 (.tmp 27) (oo ho) (ri 18 (da ho hf 18)) (by kernel_rfl) ((hQ.call hC).cells 2) (kk hK))
         ·exact gd (wo ho (dg ho hf 11)) (st_call2 rfl 139 (.const (.int .i8 6)) (.tmp 28) #[38, 4] (oo ho) rfl (ri 19 (da ho hf 19)) (fun _ _ => rfl) (piece_any 6 bk (by decide) W) (by rintro u w9 ⟨h9, h10⟩; injection h9 with h9; subst h9; subst h10; exact hK _ _ (Below.refl _ _) rfl) (fun _ _ h => nomatch h.1) (fun _ h => nomatch h.1))
         ·exact gd (wo ho (dg ho hf 11)) (st_bin rfl .neq 38 38 (.tmp 26) (.tmp 29) (oo ho) (ri 17 (da ho hf 17)) (ri 20 (da ho hf 20)) (gu_i _ _ _ _ _ _ _ _) (bin8_neqE hbk) (kk hK))
         ·exact gd (wo ho (dg ho hf 6)) (st_pickF rfl (.tmp 20) (.const (.bool true)) (.tmp 30) (oo ho) (ri 11 (da ho hf 11)) (ri 21 (da ho hf 21)) (kk hK))
         ·exact gd (wo ho (dg ho hf 6)) (st_move rfl (.tmp 31) (oo ho) (ri 22 (da ho hf 22)) (kk hK))
         ·exact gd (wo ho (dg ho hf 23)) (st_field rfl 26 (.tmp 1) 1 (oo ho) (rd_out rfl rfl) (n := 2) (by kernel_rfl) (kk hK))
         ·exact gd (wo ho (dg ho hf 23)) (st_loadS rfl 24 (.tmp 33) (oo ho) (ri 24 (da ho hf 24)) (by kernel_rfl) ((hAr.call hC0).cells 2) (kk hK))
         ·exact gd (wo ho (dg ho hf 23)) (st_field rfl 170 (.tmp 4) 4 (oo ho) (rd_out rfl rfl) (n := 4) (by kernel_rfl) (kk hK))
         ·exact gd (wo ho (dg ho hf 23)) (st_loadS rfl 3 (.tmp 35) (oo ho) (ri 26 (da ho hf 26)) (by kernel_rfl) ((hQ.call hC).cells 4) (kk hK))
         ·exact gd (wo ho (dg ho hf 23)) (st_index rfl 24 (.tmp 34) (.tmp 36) (oo ho) (ri 25 (da ho hf 25)) (ri 27 (da ho hf 27)) (index25 W g o xs.length c rq (by omega)) (kk hK))
         ·exact gd (wo ho (dg ho hf 23)) (st_loadS rfl 38 (.tmp 37) (oo ho) (ri 28 (da ho hf 28)) (by kernel_rfl) ((hC0.cell (p := ⟨g, o + rq, none⟩) hglr).trans hxr) (kk hK))
         ·exact gd (wo ho (dg ho hf 23)) (st_field rfl 170 (.tmp 4) 2 (oo ho) (rd_out rfl rfl) (n := 2) (by kernel_rfl) (kk hK))
         ·exact gd (wo ho (dg ho hf 23)) (st_loadS rfl 4 (.tmp 39) (oo ho) (ri 30 (da ho hf 30)) (by kernel_rfl) ((hQ.call hC).cells 2) (kk hK))
         ·exact gd (wo ho (dg ho hf 23)) (st_call2 rfl 139 (.const (.int .i8 4)) (.tmp 40) #[38, 4] (oo ho) rfl (ri 31 (da ho hf 31)) (fun _ _ => rfl) (piece_any 4 bk (by decide) W) (by rintro u w9 ⟨h9, h10⟩; injection h9 with h9; subst h9; subst h10; exact hK _ _ (Below.refl _ _) rfl) (fun _ _ h => nomatch h.1) (fun _ h => nomatch h.1))
         ·exact gd (wo ho (dg ho hf 23)) (st_bin rfl .neq 38 38 (.tmp 38) (.tmp 41) (oo ho) (ri 29 (da ho hf 29)) (ri 32 (da ho hf 32)) (gu_i _ _ _ _ _ _ _ _) (bin8_neqE hb4) (kk hK))
         ·exact gd (wo ho (dg ho hf 6)) (st_pickF rfl (.tmp 32) (.const (.bool true)) (.tmp 42) (oo ho) (ri 23 (da ho hf 23)) (ri 33 (da ho hf 33)) (kk hK))
         ·exact st_pickT (og ho) (.tmp 15) (.tmp 43) (.const (.bool false)) (oo ho) (ri 6 (da ho hf 6)) (ri 34 (da ho hf 34)) (kk hK)
         ·omega
        case hend =>
         intro f9 W hC hf
         have hv : f9 35 = .bool true := hf 35 (by decide)
         have hbW := below_call hbr hbr.size (below_call hb3 hb3.size hC)
         have hBW := below_call hBr hBr.size (below_call hb3 hb3.size hC)
         clear hf
         simp only [putL, Act.put, List.setIfInBounds_toArray, List.set_cons_succ, List.set_cons_zero]
         rw [hv]
         have hn1 : cstK F R xs ca (i + 1) = false := by rw [hnx.out, hav0, hb1]; simp only [Bool.not_true, Bool.false_or]; exact hh
         have hn3 := cstK_le hn1 (3 - i)
         rw [show i + 1 + (3 - i) = 4 by omega] at hn3
         have hn2 : Hid (V = false) := Lib.hid (by rw [e0.out, hn3]; simp)
         clear hn1 hn3
         go_wp2_with fail
         go_ret
         exact ⟨by rw [hn2.out]; rfl, hBW⟩
      ·have hbk : (xk != (pcI 6 bk)) = true := hb3'
       have hh : homeB F R xs bb = false := by rw [hhd]; simp at hbk; simp [hbk]
       refine wp_region_vl (by kernel_rfl) (by kernel_rfl) [some 9, some 10, some 11, some 12, some 13, some 14, some 15, some 16, some 17, some 18, some 19, some 20, some 21, some 22, some 23, some 24, some 25, some 26, some 27, some 28, some 29, some 30, some 31, some 32, some 33, some 34, some 35, some 36, some 37, some 38, some 39, some 40, some 41, some 42, some 43, some 44] (by rfl) (by rfl) w3.heap.size (fun i8 => match i8 with | 0 => .pointer (some ⟨w.heap.size, 4, none⟩) | 1 => .int .u8 ca | 2 => .pointer (some ⟨q, 0, none⟩) | 3 => .int .u8 bb | 4 => .int .u8 av | 5 => .bool true | 6 => .bool true | 7 => .pointer (some ⟨w.heap.size, 0, none⟩) | 8 => .agg #[.int .i64 (F : Int), .int .i64 (R : Int)] | 9 => .agg #[.int .i64 8, .int .i64 8] | 10 => .bool false | 11 => .bool false | 12 => .pointer (some ⟨w.heap.size, 2, none⟩) | 13 => .slice (some ⟨g, o, none⟩) xs.length c | 14 => .pointer (some ⟨q, 3, none⟩) | 15 => .int .i64 (kq : Nat) | 16 => .pointer (some ⟨g, o + kq, none⟩) | 17 => .int .i8 xk | 18 => .pointer (some ⟨q, 2, none⟩) | 19 => .bool bk | 20 => .int .i8 (pcI 6 bk) | 21 => .bool true | 22 => .bool true | 23 => .bool true | 34 => .bool true | 35 => .bool true | _ => undef) (fun _ => none) ?hstep ?hend
       case hstep =>
        intro i9 o9 f9 W ho hi hC hf K hK
        have hC0 := below_call hb3 hb3.size hC
        have hi : i9 < 36 := hi
        rcases i9 with _ | _ | _ | _ | _ | _ | _ | _ | _ | _ | _ | _ | _ | _ | _ | _ | _ | _ | _ | _ | _ | _ | _ | _ | _ | _ | _ | _ | _ | _ | _ | _ | _ | _ | _ | _ | i9
        ·exact st_field (og ho) 26 (.tmp 1) 3 (oo ho) (rd_out rfl rfl) (n := 4) (by kernel_rfl) (kk hK)
        ·exact st_loadS (og ho) 5 (.tmp 9) (oo ho) (ri 0 (da ho hf 0)) (by kernel_rfl) ((hAr.call hC0).cells 4) (kk hK)
        ·exact st_field (og ho) 170 (.tmp 4) 0 (oo ho) (rd_out rfl rfl) (n := 0) (by kernel_rfl) (kk hK)
        ·exact st_loadS (og ho) 5 (.tmp 11) (oo ho) (ri 2 (da ho hf 2)) (by kernel_rfl) ((hQ.call hC).cells 0) (kk hK)
        ·exact st_bin (og ho) .and 5 5 (.tmp 10) (.tmp 12) (oo ho) (ri 1 (da ho hf 1)) (ri 3 (da ho hf 3)) (gu_i _ _ _ _ _ _ _ _) (bin5_andE hav) (kk hK)
        ·exact st_bin (og ho) .neq 5 5 (.tmp 13) (.const (.int .u8 0)) (oo ho) (ri 4 (da ho hf 4)) rfl (gu_i _ _ _ _ _ _ _ _) (bin5_neqE hb1) (kk hK)
        ·exact st_move (og ho) (.tmp 14) (oo ho) (ri 5 (da ho hf 5)) (kk hK)
        ·exact gd (wo ho (dg ho hf 6)) (st_field rfl 26 (.tmp 1) 0 (oo ho) (rd_out rfl rfl) (n := 0) (by kernel_rfl) (kk hK))
        ·exact gd (wo ho (dg ho hf 6)) (st_loadA rfl 23 (.tmp 16) (oo ho) (ri 7 (da ho hf 7)) [.int .i64 (F : Int), .int .i64 (R : Int)] (by kernel_rfl) (fun j v hv => by rw [Nat.zero_add, (hAr.call hC0).cells j]; match j, hv with | 0, hv => simpa using hv | 1, hv => simpa using hv) (kk hK))
        ·exact gd (wo ho (dg ho hf 6)) (st_loadA rfl 23 (.global 3) (oo ho) rfl [.int .i64 8, .int .i64 8] (by kernel_rfl) (fun j v hv => by match j, hv with | 0, hv => exact (hgr.call hC0).2.2.2.1.trans (by simpa using hv) | 1, hv => exact (hgr.call hC0).2.2.2.2.trans (by simpa using hv)) (kk hK))
        ·exact gd (wo ho (dg ho hf 6)) (st_bin rfl .neq 23 23 (.tmp 17) (.tmp 18) (oo ho) (ri 8 (da ho hf 8)) (ri 9 (da ho hf 9)) (size_guard _ _ _ _ _ _) (size_neqE hb2) (kk hK))
        ·exact gd (wo ho (dg ho hf 6)) (st_move rfl (.tmp 19) (oo ho) (ri 10 (da ho hf 10)) (kk hK))
        ·exact gd (wo ho (dg ho hf 11)) (st_field rfl 26 (.tmp 1) 1 (oo ho) (rd_out rfl rfl) (n := 2) (by kernel_rfl) (kk hK))
        ·exact gd (wo ho (dg ho hf 11)) (st_loadS rfl 24 (.tmp 21) (oo ho) (ri 12 (da ho hf 12)) (by kernel_rfl) ((hAr.call hC0).cells 2) (kk hK))
        ·exact gd (wo ho (dg ho hf 11)) (st_field rfl 170 (.tmp 4) 3 (oo ho) (rd_out rfl rfl) (n := 3) (by kernel_rfl) (kk hK))
        ·exact gd (wo ho (dg ho hf 11)) (st_loadS rfl 3 (.tmp 23) (oo ho) (ri 14 (da ho hf 14)) (by kernel_rfl) ((hQ.call hC).cells 3) (kk hK))
        ·exact gd (wo ho (dg ho hf 11)) (st_index rfl 24 (.tmp 22) (.tmp 24) (oo ho) (ri 13 (da ho hf 13)) (ri 15 (da ho hf 15)) (index25 W g o xs.length c kq (by omega)) (kk hK))
        ·exact gd (wo ho (dg ho hf 11)) (st_loadS rfl 38 (.tmp 25) (oo ho) (ri 16 (da ho hf 16)) (by kernel_rfl) ((hC0.cell (p := ⟨g, o + kq, none⟩) hglr).trans hxk) (kk hK))
        ·exact gd (wo ho (dg ho hf 11)) (st_field rfl 170 (.tmp 4) 2 (oo ho) (rd_out rfl rfl) (n := 2) (by kernel_rfl) (kk hK))
        ·exact gd (wo ho (dg ho hf 11)) (st_loadS rfl 4 (.tmp 27) (oo ho) (ri 18 (da ho hf 18)) (by kernel_rfl) ((hQ.call hC).cells 2) (kk hK))
        ·exact gd (wo ho (dg ho hf 11)) (st_call2 rfl 139 (.const (.int .i8 6)) (.tmp 28) #[38, 4] (oo ho) rfl (ri 19 (da ho hf 19)) (fun _ _ => rfl) (piece_any 6 bk (by decide) W) (by rintro u w9 ⟨h9, h10⟩; injection h9 with h9; subst h9; subst h10; exact hK _ _ (Below.refl _ _) rfl) (fun _ _ h => nomatch h.1) (fun _ h => nomatch h.1))
        ·exact gd (wo ho (dg ho hf 11)) (st_bin rfl .neq 38 38 (.tmp 26) (.tmp 29) (oo ho) (ri 17 (da ho hf 17)) (ri 20 (da ho hf 20)) (gu_i _ _ _ _ _ _ _ _) (bin8_neqE hbk) (kk hK))
        ·exact gd (wo ho (dg ho hf 6)) (st_pickF rfl (.tmp 20) (.const (.bool true)) (.tmp 30) (oo ho) (ri 11 (da ho hf 11)) (ri 21 (da ho hf 21)) (kk hK))
        ·exact gd (wo ho (dg ho hf 6)) (st_move rfl (.tmp 31) (oo ho) (ri 22 (da ho hf 22)) (kk hK))
        iterate 10 exact skip_gd (uw ho (dg ho hf 23)) (kk hK)
        ·exact gd (wo ho (dg ho hf 6)) (st_pickT rfl (.tmp 32) (.const (.bool true)) (.tmp 42) (oo ho) (ri 23 (da ho hf 23)) rfl (kk hK))
        ·exact st_pickT (og ho) (.tmp 15) (.tmp 43) (.const (.bool false)) (oo ho) (ri 6 (da ho hf 6)) (ri 34 (da ho hf 34)) (kk hK)
        ·omega
       case hend =>
        intro f9 W hC hf
        have hv : f9 35 = .bool true := hf 35 (by decide)
        have hbW := below_call hbr hbr.size (below_call hb3 hb3.size hC)
        have hBW := below_call hBr hBr.size (below_call hb3 hb3.size hC)
        clear hf
        simp only [putL, Act.put, List.setIfInBounds_toArray, List.set_cons_succ, List.set_cons_zero]
        rw [hv]
        have hn1 : cstK F R xs ca (i + 1) = false := by rw [hnx.out, hav0, hb1]; simp only [Bool.not_true, Bool.false_or]; exact hh
        have hn3 := cstK_le hn1 (3 - i)
        rw [show i + 1 + (3 - i) = 4 by omega] at hn3
        have hn2 : Hid (V = false) := Lib.hid (by rw [e0.out, hn3]; simp)
        clear hn1 hn3
        go_wp2_with fail
        go_ret
        exact ⟨by rw [hn2.out]; rfl, hBW⟩
     ·have hb2 : (!(decide (F = 8) && decide (R = 8))) = true := by simp; omega
      have hh : homeB F R xs bb = false := by
       unfold homeB
       by_cases h8 : F = 8
       ·have : R ≠ 8 := fun h => hsz ⟨h8, h⟩
        have h9 : ((R : Int) == 8) = false := by simp; omega
        rw [h9]; simp
       ·have h9 : ((F : Int) == 8) = false := by simp; omega
        rw [h9]; simp
      refine wp_region_vl (by kernel_rfl) (by kernel_rfl) [some 9, some 10, some 11, some 12, some 13, some 14, some 15, some 16, some 17, some 18, some 19, some 20, some 21, some 22, some 23, some 24, some 25, some 26, some 27, some 28, some 29, some 30, some 31, some 32, some 33, some 34, some 35, some 36, some 37, some 38, some 39, some 40, some 41, some 42, some 43, some 44] (by rfl) (by rfl) w3.heap.size (fun i8 => match i8 with | 0 => .pointer (some ⟨w.heap.size, 4, none⟩) | 1 => .int .u8 ca | 2 => .pointer (some ⟨q, 0, none⟩) | 3 => .int .u8 bb | 4 => .int .u8 av | 5 => .bool true | 6 => .bool true | 7 => .pointer (some ⟨w.heap.size, 0, none⟩) | 8 => .agg #[.int .i64 (F : Int), .int .i64 (R : Int)] | 9 => .agg #[.int .i64 8, .int .i64 8] | 10 => .bool true | 11 => .bool true | 22 => .bool true | 23 => .bool true | 34 => .bool true | 35 => .bool true | _ => undef) (fun _ => none) ?hstep ?hend
      case hstep =>
       intro i9 o9 f9 W ho hi hC hf K hK
       have hC0 := below_call hb3 hb3.size hC
       have hi : i9 < 36 := hi
       rcases i9 with _ | _ | _ | _ | _ | _ | _ | _ | _ | _ | _ | _ | _ | _ | _ | _ | _ | _ | _ | _ | _ | _ | _ | _ | _ | _ | _ | _ | _ | _ | _ | _ | _ | _ | _ | _ | i9
       ·exact st_field (og ho) 26 (.tmp 1) 3 (oo ho) (rd_out rfl rfl) (n := 4) (by kernel_rfl) (kk hK)
       ·exact st_loadS (og ho) 5 (.tmp 9) (oo ho) (ri 0 (da ho hf 0)) (by kernel_rfl) ((hAr.call hC0).cells 4) (kk hK)
       ·exact st_field (og ho) 170 (.tmp 4) 0 (oo ho) (rd_out rfl rfl) (n := 0) (by kernel_rfl) (kk hK)
       ·exact st_loadS (og ho) 5 (.tmp 11) (oo ho) (ri 2 (da ho hf 2)) (by kernel_rfl) ((hQ.call hC).cells 0) (kk hK)
       ·exact st_bin (og ho) .and 5 5 (.tmp 10) (.tmp 12) (oo ho) (ri 1 (da ho hf 1)) (ri 3 (da ho hf 3)) (gu_i _ _ _ _ _ _ _ _) (bin5_andE hav) (kk hK)
       ·exact st_bin (og ho) .neq 5 5 (.tmp 13) (.const (.int .u8 0)) (oo ho) (ri 4 (da ho hf 4)) rfl (gu_i _ _ _ _ _ _ _ _) (bin5_neqE hb1) (kk hK)
       ·exact st_move (og ho) (.tmp 14) (oo ho) (ri 5 (da ho hf 5)) (kk hK)
       ·exact gd (wo ho (dg ho hf 6)) (st_field rfl 26 (.tmp 1) 0 (oo ho) (rd_out rfl rfl) (n := 0) (by kernel_rfl) (kk hK))
       ·exact gd (wo ho (dg ho hf 6)) (st_loadA rfl 23 (.tmp 16) (oo ho) (ri 7 (da ho hf 7)) [.int .i64 (F : Int), .int .i64 (R : Int)] (by kernel_rfl) (fun j v hv => by rw [Nat.zero_add, (hAr.call hC0).cells j]; match j, hv with | 0, hv => simpa using hv | 1, hv => simpa using hv) (kk hK))
       ·exact gd (wo ho (dg ho hf 6)) (st_loadA rfl 23 (.global 3) (oo ho) rfl [.int .i64 8, .int .i64 8] (by kernel_rfl) (fun j v hv => by match j, hv with | 0, hv => exact (hgr.call hC0).2.2.2.1.trans (by simpa using hv) | 1, hv => exact (hgr.call hC0).2.2.2.2.trans (by simpa using hv)) (kk hK))
       ·exact gd (wo ho (dg ho hf 6)) (st_bin rfl .neq 23 23 (.tmp 17) (.tmp 18) (oo ho) (ri 8 (da ho hf 8)) (ri 9 (da ho hf 9)) (size_guard _ _ _ _ _ _) (size_neqE hb2) (kk hK))
       ·exact gd (wo ho (dg ho hf 6)) (st_move rfl (.tmp 19) (oo ho) (ri 10 (da ho hf 10)) (kk hK))
       iterate 10 exact skip_gd (uw ho (dg ho hf 11)) (kk hK)
       ·exact gd (wo ho (dg ho hf 6)) (st_pickT rfl (.tmp 20) (.const (.bool true)) (.tmp 30) (oo ho) (ri 11 (da ho hf 11)) rfl (kk hK))
       ·exact gd (wo ho (dg ho hf 6)) (st_move rfl (.tmp 31) (oo ho) (ri 22 (da ho hf 22)) (kk hK))
       iterate 10 exact skip_gd (uw ho (dg ho hf 23)) (kk hK)
       ·exact gd (wo ho (dg ho hf 6)) (st_pickT rfl (.tmp 32) (.const (.bool true)) (.tmp 42) (oo ho) (ri 23 (da ho hf 23)) rfl (kk hK))
       ·exact st_pickT (og ho) (.tmp 15) (.tmp 43) (.const (.bool false)) (oo ho) (ri 6 (da ho hf 6)) (ri 34 (da ho hf 34)) (kk hK)
       ·omega
      case hend =>
       intro f9 W hC hf
       have hv : f9 35 = .bool true := hf 35 (by decide)
       have hbW := below_call hbr hbr.size (below_call hb3 hb3.size hC)
       have hBW := below_call hBr hBr.size (below_call hb3 hb3.size hC)
       clear hf
       simp only [putL, Act.put, List.setIfInBounds_toArray, List.set_cons_succ, List.set_cons_zero]
       rw [hv]
       have hn1 : cstK F R xs ca (i + 1) = false := by rw [hnx.out, hav0, hb1]; simp only [Bool.not_true, Bool.false_or]; exact hh
       have hn3 := cstK_le hn1 (3 - i)
       rw [show i + 1 + (3 - i) = 4 by omega] at hn3
       have hn2 : Hid (V = false) := Lib.hid (by rw [e0.out, hn3]; simp)
       clear hn1 hn3
       go_wp2_with fail
       go_ret
       exact ⟨by rw [hn2.out]; rfl, hBW⟩
  ·have hn4 : ¬ (i : Int) < 4 := by omega
   obtain rfl : i = 4 := by omega
   have hc0 := hAr.cells 4
   have hl0 := hAr.lt
   have e1 : Hid (V = decide (ca < 16)) := Lib.hid (by rw [e0.out, hok.out, Bool.and_true]; by_cases h : ca < 16 <;> simp [h] <;> omega)
   go_wp2_with fail
   go_ret
   exact ⟨by rw [e1.out]; rfl, hBr⟩
end Go.Proofs.YtefmplccbkmalaaGreatDoor
