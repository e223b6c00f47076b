import Derived.Test.YtefmplccbkmalaaGreatDoorF09
import Derived.Test.YtefmplccbkmalaaGreatDoorF17
import Derived.Deep.CutRange
set_option maxHeartbeats 12800000
namespace Go.Proofs.YtefmplccbkmalaaGreatDoor
open Go.RowKit Go.Sort Go.BigFrame

set_option maxRecDepth 100000 in
theorem rights_any (w : World) : Calls Tryz.prog 138 #[] w fun e w' => e = .returned (.agg #[.int .u8 1, .string { data := #[75] }, .bool false, .int .i64 4, .int .i64 7, .int .u8 2, .string { data := #[81] }, .bool false, .int .i64 4, .int .i64 0, .int .u8 4, .string { data := #[107] }, .bool true, .int .i64 60, .int .i64 63, .int .u8 8, .string { data := #[113] }, .bool true, .int .i64 60, .int .i64 56]) ∧ Below w.heap.size w w' := by
 have hu168 : (Tryz.prog.info? 171).map (·.size) = some 20 := by kernel_rfl
 go_enter Tryz.func138, Tryz.ntmps138
 go_wp2_with (first | (refine wpList_storeAgg rfl 171 (.tmp 0) (.tmp 5) rfl w.heap.size _ rfl rfl 171 _ (HasO.new _ _) hu168 rfl (by kernel_rfl) ?_; rintro w' rfl) | fail)
 refine bodyPost_ret (results_cell (fn := Tryz.f138) Tryz.results138 rfl (setRow_hasO (HasO.new _ _)) (by kernel_rfl)) rfl ?_
 exact ⟨rfl, setRow_below (below_box _ _) (Nat.le_refl _) (by simp)⟩
theorem size_neq (F R : Nat) (W : World) : (binOp .neq 23 (.agg #[.int .i64 (F : Int), .int .i64 (R : Int)]) (.agg #[.int .i64 8, .int .i64 8])).run Tryz.prog W = .ok (.bool (!(decide (F = 8) && decide (R = 8)))) W := by
 rw [run_neq_struct]
 simp [go_sem]
 by_cases h1 : F = 8 <;> by_cases h2 : R = 8 <;> simp [h1, h2] <;> omega
theorem size_neqE {F R : Nat} {d : Bool} {W : World} (h : (!(decide (F = 8) && decide (R = 8))) = d) : (binOp .neq 23 (.agg #[.int .i64 (F : Int), .int .i64 (R : Int)]) (.agg #[.int .i64 8, .int .i64 8])).run Tryz.prog W = .ok (.bool d) W := by rw [size_neq, h]
theorem ca_bit {ca : Int} (h : 0 ≤ ca ∧ ca < 256) (k : Nat) (hk : k < 4) : (bits .and .u8 ca (bitI k) != 0) = (ca / bitI k % 2 == 1) := by
 obtain ⟨n, rfl⟩ : ∃ n : Nat, ca = n := ⟨ca.toNat, by omega⟩
 have key : ∀ k, k < 4 → ∀ n, n < 256 → (bits .and .u8 ((n : Nat) : Int) (bitI k) != 0) = (((n : Nat) : Int) / bitI k % 2 == 1) := by decide +kernel
 exact key k hk n (by omega)
theorem sl_168_0 (W : World) : (Instr.index 171 (.agg #[.int .u8 1, .string { data := #[75] }, .bool false, .int .i64 4, .int .i64 7, .int .u8 2, .string { data := #[81] }, .bool false, .int .i64 4, .int .i64 0, .int .u8 4, .string { data := #[107] }, .bool true, .int .i64 60, .int .i64 63, .int .u8 8, .string { data := #[113] }, .bool true, .int .i64 60, .int .i64 56]) (.int .i64 0)).run Tryz.prog W = .ok (.agg #[.int .u8 1, .string { data := #[75] }, .bool false, .int .i64 4, .int .i64 7]) W := by kernel_rfl
theorem sl_168_1 (W : World) : (Instr.index 171 (.agg #[.int .u8 1, .string { data := #[75] }, .bool false, .int .i64 4, .int .i64 7, .int .u8 2, .string { data := #[81] }, .bool false, .int .i64 4, .int .i64 0, .int .u8 4, .string { data := #[107] }, .bool true, .int .i64 60, .int .i64 63, .int .u8 8, .string { data := #[113] }, .bool true, .int .i64 60, .int .i64 56]) (.int .i64 1)).run Tryz.prog W = .ok (.agg #[.int .u8 2, .string { data := #[81] }, .bool false, .int .i64 4, .int .i64 0]) W := by kernel_rfl
theorem sl_168_2 (W : World) : (Instr.index 171 (.agg #[.int .u8 1, .string { data := #[75] }, .bool false, .int .i64 4, .int .i64 7, .int .u8 2, .string { data := #[81] }, .bool false, .int .i64 4, .int .i64 0, .int .u8 4, .string { data := #[107] }, .bool true, .int .i64 60, .int .i64 63, .int .u8 8, .string { data := #[113] }, .bool true, .int .i64 60, .int .i64 56]) (.int .i64 2)).run Tryz.prog W = .ok (.agg #[.int .u8 4, .string { data := #[107] }, .bool true, .int .i64 60, .int .i64 63]) W := by kernel_rfl
theorem sl_168_3 (W : World) : (Instr.index 171 (.agg #[.int .u8 1, .string { data := #[75] }, .bool false, .int .i64 4, .int .i64 7, .int .u8 2, .string { data := #[81] }, .bool false, .int .i64 4, .int .i64 0, .int .u8 4, .string { data := #[107] }, .bool true, .int .i64 60, .int .i64 63, .int .u8 8, .string { data := #[113] }, .bool true, .int .i64 60, .int .i64 56]) (.int .i64 3)).run Tryz.prog W = .ok (.agg #[.int .u8 8, .string { data := #[113] }, .bool true, .int .i64 60, .int .i64 56]) W := by kernel_rfl
theorem rights_at (xs : List Int) (i : Nat) (hi : i < 4) : ∃ (bb : Int) (sb : ByteArray) (bk : Bool) (kq rq : Nat), (∀ W, (Instr.index 171 (.agg #[.int .u8 1, .string { data := #[75] }, .bool false, .int .i64 4, .int .i64 7, .int .u8 2, .string { data := #[81] }, .bool false, .int .i64 4, .int .i64 0, .int .u8 4, .string { data := #[107] }, .bool true, .int .i64 60, .int .i64 63, .int .u8 8, .string { data := #[113] }, .bool true, .int .i64 60, .int .i64 56]) (.int .i64 i)).run Tryz.prog W = .ok (.agg #[.int .u8 bb, .string sb, .bool bk, .int .i64 (kq : Nat), .int .i64 (rq : Nat)]) W) ∧ bitI i = bb ∧ kq < 64 ∧ rq < 64 ∧ homeB 8 8 xs bb = ((xs[kq]?.getD 0 == pcI 6 bk) && (xs[rq]?.getD 0 == pcI 4 bk)) := by
 rcases (by omega : i = 0 ∨ i = 1 ∨ i = 2 ∨ i = 3) with rfl | rfl | rfl | rfl
 ·exact ⟨1, _, false, 4, 7, sl_168_0, rfl, by decide, by decide, by simp [homeB, homeV, pcI]⟩
 ·exact ⟨2, _, false, 4, 0, sl_168_1, rfl, by decide, by decide, by simp [homeB, homeV, pcI]⟩
 ·exact ⟨4, _, true, 60, 63, sl_168_2, rfl, by decide, by decide, by simp [homeB, homeV, pcI]⟩
 ·exact ⟨8, _, true, 60, 56, sl_168_3, rfl, by decide, by decide, by simp [homeB, homeV, pcI]⟩
set_option maxRecDepth 100000 in
theorem castles_any (F R : Nat) (ca pa ha fu : Int) (bl : Bool) (p : Option Addr) (c : Nat) (xs : List Int) (hlen : xs.length = F * R) (hpos : 0 < xs.length) (hca : 0 ≤ ca ∧ ca < 256) (w : World) (hg : GlobOk w) (hx : Arr .i8 w p xs) :
  Calls Tryz.prog 79 #[.agg (posCs F R p xs.length c bl ca pa ha fu).toArray] w fun e w' => e = .returned (.bool (cstB F R xs ca)) ∧ Below w.heap.size w w' := by
 have hA := HasO.new w (.cells (posCs F R p xs.length c bl ca pa ha fu).toArray 26)
 have hB := below_box w (.cells (posCs F R p xs.length c bl ca pa ha fu).toArray 26)
 have hx1 := hx.call hB
 have hg1 := hg.call hB
 obtain ⟨g, o, rfl, hgl, hcc⟩ := hx1.at (i := 0) hpos
 have h64 : F = 8 → R = 8 → xs.length = 64 := by rintro rfl rfl; exact hlen
 have hcab := ca_bit hca
 obtain ⟨V, hV⟩ : ∃ V, V = cstB F R xs ca := ⟨_, rfl⟩
 have e0 : V = (!decide (15 < ca) && cstK F R xs ca 4) := hV
 rw [← hV]
 clear hV
 replace e0 := Lib.hid e0
 replace hlen := Lib.hid hlen
 go_enter Tryz.func79, Tryz.ntmps79
 go_wp2_with fail
 refine (rights_any _).mono ?_
 rintro e w2 ⟨rfl, hb2⟩
 have hA2 := hA.call hb2
 have hB2 := below_call hB hB.size hb2
 have hg2 := hg1.call hb2
 have hgl2 : g < w2.heap.size := Nat.lt_of_lt_of_le hgl hb2.size
 have hcc2 : ∀ j, j < xs.length → w2.cell? ⟨g, o + j, none⟩ = some (.int .i8 (xs[j]?.getD 0)) := fun j hj => (hb2.cell (p := ⟨g, o + j, none⟩) hgl).trans (hcc j hj)
 clear hA hB hb2 hg1 hgl hcc hx1 hx hg
 go_wp2_with fail
 go_loopg [6] 5 (fun q iv wr => ∃ i : Nat, q + i = 5 ∧ i ≤ 4 ∧ iv = .int .i64 i ∧ cstK F R xs ca i = true ∧ Below w2.heap.size w2 wr)
 case atStart => exact ⟨0, rfl, Nat.zero_le _, rfl, rfl, Below.refl _ _⟩
 case round =>
  obtain ⟨i, hq, hi, rfl, hok, hbr⟩ := hrel
  have hAr := hA2.call hbr
  have hBr := below_call hB2 hB2.size hbr
  have hgr := hg2.call hbr
  have hglr : g < wr.heap.size := Nat.lt_of_lt_of_le hgl2 hbr.size
  have hccr : ∀ j, j < xs.length → wr.cell? ⟨g, o + j, none⟩ = some (.int .i8 (xs[j]?.getD 0)) := fun j hj => (hbr.cell (p := ⟨g, o + j, none⟩) hgl2).trans (hcc2 j hj)
  replace hok := Lib.hid hok
  by_cases hlt : i < 4
  ·have hnx : cstK F R xs ca (i + 1) = (cstK F R xs ca i && (!(ca / bitI i % 2 == 1) || homeB F R xs (bitI i))) := rfl
   have hcb := hcab i hlt
   rw [hok.out, Bool.true_and, ← hcb] at hnx
   obtain ⟨bb, sb, bk, kq, rq, hix, hbits, hkq, hrq, hhome⟩ := rights_at xs i hlt
   rw [hbits] at hnx
   replace hnx := Lib.hid hnx
   clear hcb hA2 hg2 hcc2 hcab hbits
   have hii : (i : Int) < 4 := by omega
   ·go_wp2_with fail
    show Code.wp _ _ _ _ (wr.alloc (.cells #[.int .u8 bb, .string sb, .bool bk, .int .i64 (kq : Nat), .int .i64 (rq : Nat)] 170))
    have hQ := HasO.new wr (.cells #[.int .u8 bb, .string sb, .bool bk, .int .i64 (kq : Nat), .int .i64 (rq : Nat)] 170)
    have hb3 := below_box wr (.cells #[.int .u8 bb, .string sb, .bool bk, .int .i64 (kq : Nat), .int .i64 (rq : Nat)] 170)
    obtain ⟨q, hq9⟩ : ∃ q, q = wr.heap.size := ⟨_, rfl⟩
    rw [← hq9] at hQ ⊢
    generalize wr.alloc (.cells #[.int .u8 bb, .string sb, .bool bk, .int .i64 (kq : Nat), .int .i64 (rq : Nat)] 170) = w3 at *
    obtain ⟨av, hav⟩ : ∃ av, bits .and .u8 ca bb = av := ⟨_, rfl⟩
    have hav0 : bits .and .u8 ca bb = av := hav
    replace hq9 := Lib.hid hq9
    rcases hb1 : (av != 0) with _ | _
    ·skip
     have m1 := row_gr (hAr.call hb3)
     have m2 := row_gr hQ
     refine wp_region_all (by kernel_rfl) (by kernel_rfl) ?_
     repeat (go_big_quiet_step (fail))
     refine wpQuiet_nil ?_
     intro W hC
     clear m1 m2
     have hbW := below_call hbr hbr.size (below_call hb3 hb3.size hC)
     have hBW := below_call hBr hBr.size (below_call hb3 hb3.size hC)
     have hn1 : Hid (cstK F R xs ca (i + 1) = true) := Lib.hid (by rw [hnx.out, hav0, hb1]; rfl)
     go_wp2_with fail
     go_roundg (gk - 1)
     case measure => omega
     case rel => exact ⟨i + 1, by omega, by omega, by go_num, hn1.out, hbW⟩
    ·by_cases hsz : F = 8 ∧ R = 8
     ·obtain ⟨hF8, hR8⟩ := hsz
      have hb2 : (!(decide (F = 8) && decide (R = 8))) = false := by simp [hF8, hR8]
      have hl64 := h64 hF8 hR8
      have hxk := hccr kq (by omega)
      have hxr := hccr rq (by omega)
      have hhd : homeB F R xs bb = ((xs[kq]?.getD 0 == (pcI 6 bk)) && (xs[rq]?.getD 0 == (pcI 4 bk))) := by
       subst hF8 hR8; exact hhome
      generalize xs[kq]?.getD 0 = xk at hxk hhd
      generalize xs[rq]?.getD 0 = xr at hxr hhd
      rcases hb3' : (xk != (pcI 6 bk)) with _ | _
      ·have hbk : (xk != (pcI 6 bk)) = false := hb3'
       have hk3 : (xk == (pcI 6 bk)) = true := by simpa using hbk
       rcases hb4 : (xr != (pcI 4 bk)) with _ | _
       ·have hh : homeB F R xs bb = true := by rw [hhd, hk3]; simpa using hb4
        have m1 := row_gr (hAr.call hb3)
        have m2 := row_gr hQ
        have m3 := cell_regrown (hgr.call hb3).2.2.2.1
        have m4 := cell_regrown (hgr.call hb3).2.2.2.2
        have m5 := cell_regrown ((hb3.cell (p := ⟨g, o + kq, none⟩) hglr).trans hxk)
        have m6 := cell_regrown ((hb3.cell (p := ⟨g, o + rq, none⟩) hglr).trans hxr)
        have t1 := call_eq (w := w3) (fun W => piece_any 6 bk (by decide) W)
        have t2 := call_eq (w := w3) (fun W => piece_any 4 bk (by decide) W)
        have s1 := fun W => size_neqE (W := W) hb2
        refine wp_region_all (by kernel_rfl) (by kernel_rfl) ?_
        repeat (go_big_quiet_step (first | with_reducible exact t1 _ _ | with_reducible exact t2 _ _ | fail))
        refine wpQuiet_nil ?_
        intro W hC
        clear m1 m2 m3 m4 m5 m6 t1 t2 s1
        have hbW := below_call hbr hbr.size (below_call hb3 hb3.size hC)
        have hBW := below_call hBr hBr.size (below_call hb3 hb3.size hC)
        have hn1 : Hid (cstK F R xs ca (i + 1) = true) := Lib.hid (by rw [hnx.out, hav0, hb1]; simp only [Bool.not_true, Bool.false_or]; exact hh)
        go_wp2_with fail
        go_roundg (gk - 1)
        case measure => omega
        case rel => exact ⟨i + 1, by omega, by omega, by go_num, hn1.out, hbW⟩
       ·have hh : homeB F R xs bb = false := by rw [hhd, hk3]; simpa using hb4
        have m1 := row_gr (hAr.call hb3)
        have m2 := row_gr hQ
        have m3 := cell_regrown (hgr.call hb3).2.2.2.1
        have m4 := cell_regrown (hgr.call hb3).2.2.2.2
        have m5 := cell_regrown ((hb3.cell (p := ⟨g, o + kq, none⟩) hglr).trans hxk)
        have m6 := cell_regrown ((hb3.cell (p := ⟨g, o + rq, none⟩) hglr).trans hxr)
        have t1 := call_eq (w := w3) (fun W => piece_any 6 bk (by decide) W)
        have t2 := call_eq (w := w3) (fun W => piece_any 4 bk (by decide) W)
        have s1 := fun W => size_neqE (W := W) hb2
        refine wp_region_all (by kernel_rfl) (by kernel_rfl) ?_
        repeat (go_big_quiet_step (first | with_reducible exact t1 _ _ | with_reducible exact t2 _ _ | fail))
        refine wpQuiet_nil ?_
        intro W hC
        clear m1 m2 m3 m4 m5 m6 t1 t2 s1
        have hbW := below_call hbr hbr.size (below_call hb3 hb3.size hC)
        have hBW := below_call hBr hBr.size (below_call hb3 hb3.size hC)
        have hn1 : cstK F R xs ca (i + 1) = false := by rw [hnx.out, hav0, hb1]; simp only [Bool.not_true, Bool.false_or]; exact hh
        have hn3 := cstK_le hn1 (3 - i)
        rw [show i + 1 + (3 - i) = 4 by omega] at hn3
        have hn2 : Hid (V = false) := Lib.hid (by rw [e0.out, hn3]; simp)
        clear hn1 hn3
        go_wp2_with fail
        go_ret
        exact ⟨by rw [hn2.out]; rfl, hBW⟩
      ·have hbk : (xk != (pcI 6 bk)) = true := hb3'
       have hh : homeB F R xs bb = false := by rw [hhd]; simp at hbk; simp [hbk]
       have m1 := row_gr (hAr.call hb3)
       have m2 := row_gr hQ
       have m3 := cell_regrown (hgr.call hb3).2.2.2.1
       have m4 := cell_regrown (hgr.call hb3).2.2.2.2
       have m5 := cell_regrown ((hb3.cell (p := ⟨g, o + kq, none⟩) hglr).trans hxk)
       have m6 := cell_regrown ((hb3.cell (p := ⟨g, o + rq, none⟩) hglr).trans hxr)
       have t1 := call_eq (w := w3) (fun W => piece_any 6 bk (by decide) W)
       have t2 := call_eq (w := w3) (fun W => piece_any 4 bk (by decide) W)
       have s1 := fun W => size_neqE (W := W) hb2
       refine wp_region_all (by kernel_rfl) (by kernel_rfl) ?_
       repeat (go_big_quiet_step (first | with_reducible exact t1 _ _ | with_reducible exact t2 _ _ | fail))
       refine wpQuiet_nil ?_
       intro W hC
       clear m1 m2 m3 m4 m5 m6 t1 t2 s1
       have hbW := below_call hbr hbr.size (below_call hb3 hb3.size hC)
       have hBW := below_call hBr hBr.size (below_call hb3 hb3.size hC)
       have hn1 : cstK F R xs ca (i + 1) = false := by rw [hnx.out, hav0, hb1]; simp only [Bool.not_true, Bool.false_or]; exact hh
       have hn3 := cstK_le hn1 (3 - i)
       rw [show i + 1 + (3 - i) = 4 by omega] at hn3
       have hn2 : Hid (V = false) := Lib.hid (by rw [e0.out, hn3]; simp)
       clear hn1 hn3
       go_wp2_with fail
       go_ret
       exact ⟨by rw [hn2.out]; rfl, hBW⟩
     ·have hb2 : (!(decide (F = 8) && decide (R = 8))) = true := by simp; omega
      have hh : homeB F R xs bb = false := by
       unfold homeB
       by_cases h8 : F = 8
       ·have : R ≠ 8 := fun h => hsz ⟨h8, h⟩
        have h9 : ((R : Int) == 8) = false := by simp; omega
        rw [h9]; simp
       ·have h9 : ((F : Int) == 8) = false := by simp; omega
        rw [h9]; simp
      have m1 := row_gr (hAr.call hb3)
      have m2 := row_gr hQ
      have m3 := cell_regrown (hgr.call hb3).2.2.2.1
      have m4 := cell_regrown (hgr.call hb3).2.2.2.2
      have s1 := fun W => size_neqE (W := W) hb2
      refine wp_region_all (by kernel_rfl) (by kernel_rfl) ?_
      repeat (go_big_quiet_step (fail))
      refine wpQuiet_nil ?_
      intro W hC
      clear m1 m2 m3 m4 s1
      have hbW := below_call hbr hbr.size (below_call hb3 hb3.size hC)
      have hBW := below_call hBr hBr.size (below_call hb3 hb3.size hC)
      have hn1 : cstK F R xs ca (i + 1) = false := by rw [hnx.out, hav0, hb1]; simp only [Bool.not_true, Bool.false_or]; exact hh
      have hn3 := cstK_le hn1 (3 - i)
      rw [show i + 1 + (3 - i) = 4 by omega] at hn3
      have hn2 : Hid (V = false) := Lib.hid (by rw [e0.out, hn3]; simp)
      clear hn1 hn3
      go_wp2_with fail
      go_ret
      exact ⟨by rw [hn2.out]; rfl, hBW⟩
  ·have hn4 : ¬ (i : Int) < 4 := by omega
   obtain rfl : i = 4 := by omega
   have hc0 := hAr.cells 4
   have hl0 := hAr.lt
   have e1 : Hid (V = decide (ca < 16)) := Lib.hid (by rw [e0.out, hok.out, Bool.and_true]; by_cases h : ca < 16 <;> simp [h] <;> omega)
   go_wp2_with fail
   go_ret
   exact ⟨by rw [e1.out]; rfl, hBr⟩
theorem rank_bd {F R a k : Nat} (hk : a / F = k) (h2 : 1 ≤ k) (h3 : k + 1 < R) (hF : 0 < F) : F ≤ a ∧ a + F < F * R ∧ (k - 1) * F + a % F = a - F ∧ (k + 1) * F + a % F = a + F := by
 have h4 := Nat.div_add_mod a F
 have h5 := Nat.mod_lt a hF
 rw [hk] at h4
 obtain ⟨j, rfl⟩ : ∃ j, k = j + 1 := ⟨k - 1, by omega⟩
 have h6 : F * (j + 3) ≤ F * R := Nat.mul_le_mul_left F (by omega)
 have e1 : F * (j + 1) = F * j + F := by rw [Nat.mul_add, Nat.mul_one]
 have e2 : F * (j + 3) = F * j + F + F + F := by rw [Nat.mul_add]; omega
 have e3 : (j + 1 + 1) * F = F * j + F + F := by rw [Nat.mul_comm, Nat.mul_add, Nat.mul_add]; omega
 have e4 : (j + 1 - 1) * F = F * j := by rw [Nat.add_sub_cancel, Nat.mul_comm]
 rw [e3, e4]
 omega
def upI (F : Nat) (bl : Bool) : Int := if bl then F else -F
def rkI (R : Nat) (bl : Bool) : Int := if bl then 2 else (R : Int) - 3
def frN (F a : Nat) (bl : Bool) : Nat := if bl then a - F else a + F
def toN (F a : Nat) (bl : Bool) : Nat := if bl then a + F else a - F
theorem psB_at {F R a : Nat} {xs : List Int} {bl : Bool} (hF : 3 ≤ F ∧ F ≤ 8) (hR : 6 ≤ R ∧ R ≤ 8) (h : (((a / F : Nat) : Int) == rkI R bl) = true) : frN F a bl < F * R ∧ toN F a bl < F * R ∧ IntKind.i64.wrap ((a : Int) - upI F bl) = (frN F a bl : Nat) ∧ IntKind.i64.wrap ((a : Int) + upI F bl) = (toN F a bl : Nat) ∧
  psB F R xs bl a = ((xs[a]?.getD 0 == 0) && ((xs[frN F a bl]?.getD 0 == 0) && (xs[toN F a bl]?.getD 0 == pcI 1 (!bl)))) := by
 have h1 : F * R ≤ 64 := Nat.mul_le_mul hF.2 hR.2
 rw [beq_iff_eq] at h
 cases bl
 ·simp only [rkI, Bool.false_eq_true, if_false] at h
  obtain ⟨k, hk⟩ : ∃ k, a / F = k := ⟨_, rfl⟩
  obtain ⟨b1, b2, b3, b4⟩ := rank_bd (R := R) hk (by omega) (by omega) (by omega)
  have q1 : sqN F (a % F) (rankI R true 2) = a + F := by unfold sqN rankI; simp only [if_true]; rw [show ((R : Int) - 2).toNat = k + 1 by omega]; exact b4
  have q2 : sqN F (a % F) (rankI R true 4) = a - F := by unfold sqN rankI; simp only [if_true]; rw [show ((R : Int) - 4).toNat = k - 1 by omega]; exact b3
  have q3 : (2 * ((a / F : Nat) : Int) == rankI R true 2 + rankI R true 4) = true := by unfold rankI; simp; omega
  refine ⟨?_, ?_, ?_, ?_, ?_⟩
  ·simp [frN]; omega
  ·simp [toN]; omega
  ·simp only [upI, frN, Bool.false_eq_true, if_false]; rw [IntWalk.i64_in _ (by omega)]; omega
  ·simp only [upI, toN, Bool.false_eq_true, if_false]; rw [IntWalk.i64_in _ (by omega)]; omega
  ·simp only [psB, Bool.not_false, q1, q2, q3, frN, toN, Bool.true_and, Bool.false_eq_true, if_false]
 ·simp only [rkI, if_true] at h
  obtain ⟨k, hk⟩ : ∃ k, a / F = k := ⟨_, rfl⟩
  obtain ⟨b1, b2, b3, b4⟩ := rank_bd (R := R) hk (by omega) (by omega) (by omega)
  have hk2 : k = 2 := by omega
  subst hk2
  have q1 : sqN F (a % F) (rankI R false 2) = a - F := by unfold sqN rankI; simpa using b3
  have q2 : sqN F (a % F) (rankI R false 4) = a + F := by unfold sqN rankI; simpa using b4
  have q3 : (2 * ((a / F : Nat) : Int) == rankI R false 2 + rankI R false 4) = true := by unfold rankI; simp; omega
  refine ⟨?_, ?_, ?_, ?_, ?_⟩
  ·simp [frN]; omega
  ·simp [toN]; omega
  ·simp only [upI, frN, if_true]; rw [IntWalk.i64_in _ (by omega)]; omega
  ·simp only [upI, toN, if_true]; rw [IntWalk.i64_in _ (by omega)]; omega
  ·simp only [psB, Bool.not_true, q1, q2, q3, frN, toN, Bool.true_and, if_true]
theorem psB_not {F R a : Nat} {xs : List Int} {bl : Bool} (h : (((a / F : Nat) : Int) == rkI R bl) = false) : psB F R xs bl a = false := by
 have : (2 * ((a / F : Nat) : Int) == rankI R (!bl) 2 + rankI R (!bl) 4) = false := by
  rw [beq_eq_false_iff_ne] at h ⊢
  cases bl
  ·simp only [rkI, rankI, Bool.false_eq_true, if_false, Bool.not_false, if_true] at h ⊢; omega
  ·simp only [rkI, rankI, Bool.false_eq_true, if_false, Bool.not_true, if_true] at h ⊢; omega
 simp only [psB, this, Bool.false_and]
set_option maxRecDepth 100000 in
theorem passant_any (F R : Nat) (ca pa ha fu : Int) (bl : Bool) (p : Option Addr) (c : Nat) (xs : List Int) (hF : 3 ≤ F ∧ F ≤ 8) (hR : 3 ≤ R ∧ R ≤ 8) (hlen : xs.length = F * R) (hpos : 0 < xs.length) (w : World) (hx : Arr .i8 w p xs) :
  Calls Tryz.prog 81 #[.agg (posCs F R p xs.length c bl ca pa ha fu).toArray] w fun e w' => e = .returned (.bool (passB F R xs bl pa ha)) ∧ Below w.heap.size w w' := by
 have hA := HasO.new w (.cells (posCs F R p xs.length c bl ca pa ha fu).toArray 26)
 have hB := below_box w (.cells (posCs F R p xs.length c bl ca pa ha fu).toArray 26)
 have hx1 := hx.call hB
 obtain ⟨g, o, rfl, hgl, hcc⟩ := hx1.at (i := 0) hpos
 obtain ⟨V, hV⟩ : ∃ V, V = passB F R xs bl pa ha := ⟨_, rfl⟩
 have e0 : V = ((pa == -1) || (!decide ((R : Int) < 6) && ((ha == 0) && (sqB F R pa && psB F R xs bl pa.toNat)))) := hV
 rw [← hV]
 clear hV hx1 hx hpos
 have h0 := hA.cells 0
 have h1 := hA.cells 1
 have h3 := hA.cells 3
 have h5 := hA.cells 5
 have hl0 := hA.lt
 replace hlen := Lib.hid hlen
 by_cases hp1 : pa = -1
 ·subst hp1
  have e1 : Hid (V = true) := Lib.hid (by rw [e0]; rfl)
  clear e0
  go_enter Tryz.func81, Tryz.ntmps81
  go_wp2_with fail
  go_ret
  exact ⟨by rw [e1.out]; rfl, hB⟩
 rw [beq_false_of_ne hp1, Bool.false_or] at e0
 have hFn : IntKind.i64.wrap (-(F : Int)) = upI F false := IntWalk.i64_in _ (by omega)
 have hRn : IntKind.i64.wrap ((R : Int) - 3) = rkI R false := IntWalk.i64_in _ (by omega)
 have hpsn := fun a => psB_not (F := F) (R := R) (a := a) (xs := xs) (bl := bl)
 have hpsa := fun a hR => psB_at (F := F) (R := R) (a := a) (xs := xs) (bl := bl) hF hR
 replace e0 := Lib.hid e0
 go_enter Tryz.func81, Tryz.ntmps81
 go_upto_if 13 with fail
 show Code.wp _ _ _ _ (w.alloc (.cells (posCs F R (some ⟨g, o, none⟩) xs.length c bl ca pa ha fu).toArray 26))
 generalize w.alloc (.cells (posCs F R (some ⟨g, o, none⟩) xs.length c bl ca pa ha fu).toArray 26) = w1 at *
 go_cut [3, 4] from 11 to 19 (fun uv rv wx => uv = .int .i64 (upI F bl) ∧ rv = .int .i64 (rkI R bl) ∧ Below w1.heap.size w1 wx)
 case first =>
  cases bl
  ·go_wp2_with fail
   have m1 := row_gr hA
   refine wp_region_all (by kernel_rfl) (by kernel_rfl) ?_
   repeat (go_big_quiet_step (fail))
   refine wpQuiet_nil ?_
   intro w2 hC8
   clear m1
   go_wp2_with fail
   go_meet
   exact ⟨rfl, rfl, hC8⟩
  ·go_wp2_with fail
   go_meet
   exact ⟨rfl, rfl, Below.refl _ _⟩
 case rest =>
  obtain ⟨rfl, rfl, hC8⟩ := hcut
  have hA2 := hA.call hC8
  have hB2 := below_call hB hB.size hC8
  have hgl2 : g < wc.heap.size := Nat.lt_of_lt_of_le hgl hC8.size
  have hcc2 : ∀ j, j < xs.length → wc.cell? ⟨g, o + j, none⟩ = some (.int .i8 (xs[j]?.getD 0)) := fun j hj => (hC8.cell (p := ⟨g, o + j, none⟩) hgl).trans (hcc j hj)
  clear hA hB hgl hcc h0 h1 h3 h5 hl0 hC8
  have hA := hA2
  have hB := hB2
  have hgl := hgl2
  have hcc := hcc2
  clear hA2 hB2 hgl2 hcc2
  go_wp2_with fail
  have hsv := fun W => sqValid_any F R pa W
  obtain ⟨a, ha_⟩ : ∃ a, a = pa.toNat := ⟨_, rfl⟩
  obtain ⟨fr, hfr⟩ : ∃ x, x = frN F a bl := ⟨_, rfl⟩
  obtain ⟨tg, htg⟩ : ∃ x, x = toN F a bl := ⟨_, rfl⟩
  obtain ⟨xa, hxa⟩ : ∃ x, x = xs[a]?.getD 0 := ⟨_, rfl⟩
  obtain ⟨xf, hxf⟩ : ∃ x, x = xs[fr]?.getD 0 := ⟨_, rfl⟩
  obtain ⟨xt, hxt⟩ : ∃ x, x = xs[tg]?.getD 0 := ⟨_, rfl⟩
  obtain ⟨a0, hb0⟩ : ∃ d, decide ((6 : Int) ≤ (R : Int)) = d := ⟨_, rfl⟩
  obtain ⟨a1, hb1⟩ : ∃ d, ((ha : Int) == 0) = d := ⟨_, rfl⟩
  obtain ⟨a2, hb2⟩ : ∃ d, sqB F R pa = d := ⟨_, rfl⟩
  obtain ⟨a3, hb3⟩ : ∃ d, (((a / F : Nat) : Int) == rkI R bl) = d := ⟨_, rfl⟩
  obtain ⟨a4, hb4⟩ : ∃ d, ((xa : Int) == 0) = d := ⟨_, rfl⟩
  obtain ⟨a5, hb5⟩ : ∃ d, ((xf : Int) == 0) = d := ⟨_, rfl⟩
  obtain ⟨a6, hb6⟩ : ∃ d, (xt == pcI 1 (!bl)) = d := ⟨_, rfl⟩
  have e1 : Hid (V = (a0 && a1 && a2 && a3 && a4 && a5 && a6)) := Lib.hid (by
   rw [e0.out, hb1, hb2, ← ha_, show decide ((R : Int) < 6) = !a0 by rw [← hb0]; by_cases h : (6 : Int) ≤ R <;> simp [h] <;> omega, Bool.not_not]
   cases a0
   ·rfl
   cases a3
   ·rw [hpsn a hb3]; simp
   ·rw [(hpsa a ⟨by simp at hb0; omega, hR.2⟩ hb3).2.2.2.2, ← hxa, ← hfr, ← htg, ← hxf, ← hxt, hb4, hb5, hb6]
    simp [Bool.and_assoc])
  have hpa : a2 = true → pa = (a : Int) ∧ a < xs.length ∧ a < 64 := fun h => by
   rw [h] at hb2
   have hpb : 0 ≤ pa ∧ pa < (F : Int) * R := by unfold sqB at hb2; simp at hb2; exact hb2.2
   have haF : a < F * R := by have := hpb.2; rw [← Int.natCast_mul] at this; omega
   exact ⟨by omega, by rw [hlen.out]; exact haF, Nat.lt_of_lt_of_le haF (Nat.mul_le_mul hF.2 hR.2)⟩
  have hcla : a2 = true → ∀ W, Below wc.heap.size wc W → W.cell? ⟨g, o + a, none⟩ = some (.int .i8 xa) := fun h W hC => by rw [hxa]; exact (hC.cell (p := ⟨g, o + a, none⟩) hgl).trans (hcc a (hpa h).2.1)
  have hat : a0 = true → a2 = true → a3 = true → IntKind.i64.wrap (pa - upI F bl) = (fr : Nat) ∧ fr < xs.length ∧ (∀ W, Below wc.heap.size wc W → W.cell? ⟨g, o + fr, none⟩ = some (.int .i8 xf)) ∧
    IntKind.i64.wrap (pa + upI F bl) = (tg : Nat) ∧ tg < xs.length ∧ (∀ W, Below wc.heap.size wc W → W.cell? ⟨g, o + tg, none⟩ = some (.int .i8 xt)) := fun h0 h2 h3 => by
   rw [h0] at hb0
   rw [h3] at hb3
   obtain ⟨hfl, htl, e2, e3, _⟩ := hpsa a ⟨by simp at hb0; omega, hR.2⟩ hb3
   rw [← hlen.out, ← hfr] at hfl
   rw [← hlen.out, ← htg] at htl
   rw [(hpa h2).1, hxf, hxt]
   rw [← hfr] at e2
   rw [← htg] at e3
   exact ⟨e2, hfl, fun W hC => (hC.cell (p := ⟨g, o + fr, none⟩) hgl).trans (hcc fr hfl), e3, htl, fun W hC => (hC.cell (p := ⟨g, o + tg, none⟩) hgl).trans (hcc tg htl)⟩
  rw [hb2] at hsv
  clear hpsn hpsa hb2 e0 hfr htg hxa hxf hxt ha_ hcc
  have htd : (a : Int).tdiv (F : Int) = ((a / F : Nat) : Int) := rfl
  have hnq2 : a / F ≤ a := Nat.div_le_self _ _
  generalize a / F = nq at hnq2 hb3 htd
  have m1 := row_gr hA
  have t1 := call_gr (w := wc) (fun W _ => hsv W)
  have t2 := call_eq (w := wc) (fun W => piece_any 1 (!bl) (by decide) W)
  have rg := below_regrown wc
  cases a0
  ·refine wp_region_all (by kernel_rfl) (by kernel_rfl) ?_
   repeat (go_big_quiet_step (fail))
   refine wpQuiet_nil ?_
   intro W hC
   clear m1
   go_wp2_with fail
   go_ret
   exact ⟨by rw [e1.out]; rfl, below_call hB hB.size hC⟩
  ·cases a1
   ·refine wp_region_all (by kernel_rfl) (by kernel_rfl) ?_
    repeat (go_big_quiet_step (fail))
    refine wpQuiet_nil ?_
    intro W hC
    clear m1
    go_wp2_with fail
    go_ret
    exact ⟨by rw [e1.out]; rfl, below_call hB hB.size hC⟩
   ·cases a2
    ·refine wp_region_all (by kernel_rfl) (by kernel_rfl) ?_
     repeat (go_big_quiet_step (first | with_reducible exact t1 _ _ | fail))
     refine wpQuiet_nil ?_
     intro W hC
     clear m1
     go_wp2_with fail
     go_ret
     exact ⟨by rw [e1.out]; rfl, below_call hB hB.size hC⟩
    ·obtain ⟨p1, p2, p3⟩ := hpa rfl
     subst p1
     have s1 : IntKind.i64.wrap (nq : Int) = nq := IntWalk.i64_in _ (by omega)
     have p4 : (a : Int) < xs.length := by omega
     have m2 : ∀ d os, (grow (redrawn wc d) os).cell? ⟨g, o + a, none⟩ = some (.int .i8 xa) := fun d os => hcla rfl _ (rg d os)
     cases a3
     ·refine wp_region_all (by kernel_rfl) (by kernel_rfl) ?_
      repeat (go_big_quiet_step (first | with_reducible exact t1 _ _ | fail))
      refine wpQuiet_nil ?_
      intro W hC
      clear m1
      go_wp2_with fail
      go_ret
      exact ⟨by rw [e1.out]; rfl, below_call hB hB.size hC⟩
     ·obtain ⟨f1, f2, f3, f4, f5, f6⟩ := hat rfl rfl rfl
      have f2' : (fr : Int) < xs.length := by omega
      have f5' : (tg : Int) < xs.length := by omega
      have m3 : ∀ d os, (grow (redrawn wc d) os).cell? ⟨g, o + fr, none⟩ = some (.int .i8 xf) := fun d os => f3 _ (rg d os)
      have m4 : ∀ d os, (grow (redrawn wc d) os).cell? ⟨g, o + tg, none⟩ = some (.int .i8 xt) := fun d os => f6 _ (rg d os)
      cases a4
      ·refine wp_region_all (by kernel_rfl) (by kernel_rfl) ?_
       repeat (go_big_quiet_step (first | with_reducible exact t1 _ _ | fail))
       refine wpQuiet_nil ?_
       intro W hC
       clear m1
       go_wp2_with fail
       go_ret
       exact ⟨by rw [e1.out]; rfl, below_call hB hB.size hC⟩
      ·cases a5
       ·refine wp_region_all (by kernel_rfl) (by kernel_rfl) ?_
        repeat (go_big_quiet_step (first | with_reducible exact t1 _ _ | fail))
        refine wpQuiet_nil ?_
        intro W hC
        clear m1
        go_wp2_with fail
        go_ret
        exact ⟨by rw [e1.out]; rfl, below_call hB hB.size hC⟩
       ·refine wp_region_all (by kernel_rfl) (by kernel_rfl) ?_
        repeat (go_big_quiet_step (first | with_reducible exact t1 _ _ | with_reducible exact t2 _ _ | fail))
        refine wpQuiet_nil ?_
        intro W hC
        clear m1
        go_wp2_with fail
        go_ret
        exact ⟨by rw [e1.out]; rfl, below_call hB hB.size hC⟩
end Go.Proofs.YtefmplccbkmalaaGreatDoor
