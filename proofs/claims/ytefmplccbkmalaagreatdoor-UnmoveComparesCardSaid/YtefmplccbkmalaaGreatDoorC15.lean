import Derived.Test.YtefmplccbkmalaaGreatDoorC14
set_option maxHeartbeats 12800000
namespace Go.Proofs.YtefmplccbkmalaaGreatDoor
open Go.RowKit

section ops
variable {P : Program} {o : Oper} {a : Act} {w : World} {K : Act → World → Prop} {Q : Exit → Act → World → Prop} {t : Nat → Option Bool} {X : Prop}
theorem st_fieldV (hg : o.guard = none) (ty : TypeId) (x : Operand) (k : Nat) (ho : o.op = .field ty x k) {v u : Value} (hx : a.eval x = v) (hr : (Instr.field ty v k).run P w = .ok u w) (hk : K (a.put o.dst u) w) : if Region.wanted o t = true then o.wp P a w K Q else X := by
 refine st_wp hg ?_
 unfold Oper.wp execOp
 simp only [ho, hx, Sem.run_bind, hr, Result.andThen_ok, Sem.run_pure]
 exact hk
end ops
theorem field99 (x y : Int) (W : World) : (Instr.field 85 (.agg #[.int .i64 x, .int .i64 y]) 1).run Tryz.prog W = .ok (.int .i64 y) W := by kernel_rfl
def lastK (F R : Nat) (xs : List Int) : Nat → Bool
 | 0 => true
 | k + 1 => lastK F R xs k && !((kindI (xs[k]?.getD 0) == 1) && (((k / F : Nat) : Int) == lastI R (decide (xs[k]?.getD 0 < 0))))
theorem lastK_le {F R : Nat} {xs : List Int} {k : Nat} (h : lastK F R xs k = false) : ∀ n, lastK F R xs (k + n) = false := by
 intro n
 induction n with
 | zero => exact h
 | succ n ih => rw [← Nat.add_assoc]; simp only [lastK, ih]; rfl
def pvN (F R : Nat) (xs : List Int) (bl : Bool) (ca pa ha fu : Int) : Bool :=
 !decide (kgI xs false < 0) && (!decide (kgI xs true < 0) && (!chkB F R xs (kgI xs (!bl)).toNat (!bl) && (lastK F R xs xs.length && (cstB F R xs ca && (passB F R xs bl pa ha && (decide (0 ≤ ha) && (decide (ha ≤ 10000) && (decide (1 ≤ fu) && decide (fu ≤ 10000)))))))))
def pvB (f r : Int) (xs : List Int) (bl : Bool) (ca pa ha fu : Int) : Bool := orthB f r xs && pvN f.toNat r.toNat xs bl ca pa ha fu
theorem kgI_bd (xs : List Int) (bl : Bool) : kgI xs bl = -1 ∨ ∃ k : Nat, kgI xs bl = k ∧ k < xs.length := by
 unfold kgI
 split
 ·rename_i h
  right
  have h0 : (kgL xs bl)[0]?.getD 0 ∈ kgL xs bl := by
   rw [List.getElem?_eq_getElem (by omega)]; exact List.getElem_mem _
  unfold kgL at h0 ⊢
  rw [idxs_mem] at h0
  obtain ⟨j, hj, _, e⟩ := h0
  exact ⟨j, e, hj⟩
 ·left; rfl
theorem orthB_fact {f r : Int} {xs : List Int} (h : orthB f r xs = true) : ∃ F R : Nat, f = F ∧ r = R ∧ (3 ≤ F ∧ F ≤ 8) ∧ (3 ≤ R ∧ R ≤ 8) ∧ xs.length = F * R ∧ (∀ x ∈ xs, pOk x = true) ∧ ∀ x ∈ xs, -6 ≤ x ∧ x ≤ 6 := by
 unfold orthB at h
 rw [Bool.and_eq_true] at h
 obtain ⟨h1, h2, h3⟩ := boardB_fact h.1
 obtain ⟨b1, b2, b3, b4⟩ := size_bd h1
 refine ⟨f.toNat, r.toNat, by omega, by omega, by omega, by omega, ?_, h3, ?_⟩
 ·have e1 : f = (f.toNat : Int) := by omega
  have e2 : r = (r.toNat : Int) := by omega
  rw [e1, e2, ← Int.natCast_mul] at h2
  omega
 ·intro x hx
  have := (List.all_eq_true.1 h.2) x hx
  simp [orB] at this
  exact this
set_option maxRecDepth 100000 in
theorem refPos_good (F R : Nat) (ca pa ha fu : Int) (bl : Bool) (p : Option Addr) (c : Nat) (xs : List Int) (hF : 3 ≤ F ∧ F ≤ 8) (hR : 3 ≤ R ∧ R ≤ 8) (hlen : xs.length = F * R) (hok : ∀ x ∈ xs, pOk x = true) (hor : orthB F R xs = true) (hca : 0 ≤ ca) (w : World) (hx : Arr .i8 w p xs) :
  Calls Tryz.prog 13 #[.agg (posCs F R p xs.length c bl ca pa ha fu).toArray] w fun e w' => e = .returned (.bool (pvN F R xs bl ca pa ha fu)) ∧ Below w.heap.size w w' := by
 have hB := below_box w (.cells (posCs F R p xs.length c bl ca pa ha fu).toArray 26)
 have hA := HasO.new w (.cells (posCs F R p xs.length c bl ca pa ha fu).toArray 26)
 have hl64 : xs.length ≤ 64 := by rw [hlen]; exact Nat.mul_le_mul hF.2 hR.2
 have hof := fun W => refOf_any F R ca pa ha fu bl p xs.length c W
 have horb := fun W h => refOrthB_any F R p c xs W h
 rw [hor] at horb
 have hk0 := fun W h => refKing_any F R false p c xs W h hl64
 have hk1 := fun W h => refKing_any F R true p c xs W h hl64
 have hch := fun k h1 h2 W h => refCheck_any F R p c xs k (!bl) hF hR hlen h1 h2 hok W h
 have hcs := fun W h => refCastle_any F R ca pa ha fu bl p c xs hca (by rw [hlen, Int.natCast_mul]) W h
 have hps := fun W h => refPassant_any F R ca pa ha fu bl p c xs hF hR hlen W h
 have hkb := kgI_bd xs (!bl)
 obtain ⟨V, hVV⟩ : ∃ V, V = pvN F R xs bl ca pa ha fu := ⟨_, rfl⟩
 have hVd : V = (!decide (kgI xs false < 0) && (!decide (kgI xs true < 0) && (!chkB F R xs (kgI xs (!bl)).toNat (!bl) && (lastK F R xs xs.length && (cstB F R xs ca && (passB F R xs bl pa ha && (decide (0 ≤ ha) && (decide (ha ≤ 10000) && (decide (1 ≤ fu) && decide (fu ≤ 10000)))))))))) := hVV
 rw [← hVV]
 clear hVV
 generalize cstB F R xs ca = vcs at *
 generalize passB F R xs bl pa ha = vps at *
 have hc0 := hA.cells
 have hl0 := hA.lt
 replace hlen := Lib.hid hlen
 go_enter Tryz.func13, Tryz.ntmps13
 go_wp2_with fail
 refine (hof _).mono ?_
 rintro e w2 ⟨rfl, hb2⟩
 have hA2 := hA.call hb2
 have hB2 := below_call hB hB.size hb2
 have hx2 := hx.call hB2
 clear hA hB hb2 hc0 hl0 hof hx
 have hb3 := below_box w2 (.cells (bdCs F R p xs.length c).toArray 68)
 have hQ3 := HasO.new w2 (.cells (bdCs F R p xs.length c).toArray 68)
 have hA3 := hA2.call hb3
 have hB3 := below_call hB2 hB2.size hb3
 have hx3 := hx2.call hb3
 obtain ⟨qb, hqb⟩ : ∃ x, x = w2.heap.size := ⟨_, rfl⟩
 rw [← hqb] at hQ3
 have hcq := hQ3.cells
 have hlq := hQ3.lt
 rw [hqb] at hcq hlq
 go_wp2_with fail
 show Calls Tryz.prog 36 _ (w2.alloc (.cells (bdCs F R p xs.length c).toArray 68)) _
 rw [← hqb]
 clear hcq hlq
 generalize w2.alloc (.cells (bdCs F R p xs.length c).toArray 68) = w3 at *
 clear hA2 hB2 hx2 hb3 hqb
 refine (horb _ hx3).mono ?_
 rintro e w4 ⟨rfl, hb4⟩
 have hA4 := hA3.call hb4
 have hB4 := below_call hB3 hB3.size hb4
 have hx4 := hx3.call hb4
 have hQ4 := hQ3.call hb4
 have hcq := hQ4.cells
 have hlq := hQ4.lt
 clear hA3 hB3 hx3 hQ3 hb4 horb
 go_wp2_with fail
 refine (hk0 _ hx4).mono ?_
 rintro e w5 ⟨rfl, hb5⟩
 have hA5 := hA4.call hb5
 have hB5 := below_call hB4 hB4.size hb5
 have hx5 := hx4.call hb5
 have hQ5 := hQ4.call hb5
 clear hcq hlq
 have hcq := hQ5.cells
 have hlq := hQ5.lt
 clear hA4 hB4 hx4 hQ4 hb5 hk0
 by_cases n0 : kgI xs false < 0
 ·have e0 : Hid (V = false) := Lib.hid (by rw [hVd]; simp [n0])
  replace hVd := Lib.hid hVd
  go_wp2_with fail
  go_ret
  exact ⟨by rw [e0.out]; rfl, hB5⟩
 go_wp2_with fail
 refine (hk1 _ hx5).mono ?_
 rintro e w6 ⟨rfl, hb6⟩
 have hA6 := hA5.call hb6
 have hB6 := below_call hB5 hB5.size hb6
 have hx6 := hx5.call hb6
 have hQ6 := hQ5.call hb6
 clear hcq hlq
 have hcq := hQ6.cells
 have hlq := hQ6.lt
 have hcA := hA6.cells
 have hlA := hA6.lt
 clear hA5 hB5 hx5 hQ5 hb6 hk1
 by_cases n1 : kgI xs true < 0
 ·have e0 : Hid (V = false) := Lib.hid (by rw [hVd]; simp [n1])
  replace hVd := Lib.hid hVd
  go_wp2_with fail
  go_ret
  exact ⟨by rw [e0.out]; rfl, hB6⟩
 obtain ⟨k, hkk, hkl⟩ : ∃ k : Nat, kgI xs (!bl) = k ∧ k < F * R := by
  rcases hkb with h | ⟨k, h1, h2⟩
  ·exfalso
   cases bl
   ·have h : kgI xs true = -1 := h
    omega
   ·have h : kgI xs false = -1 := h
    omega
  ·exact ⟨k, h1, by have := hlen.out; omega⟩
 have hch2 := hch k hkk hkl
 have hVd2 : V = (!chkB F R xs k (!bl) && (lastK F R xs xs.length && (vcs && (vps && (decide (0 ≤ ha) && (decide (ha ≤ 10000) && (decide (1 ≤ fu) && decide (fu ≤ 10000)))))))) := by rw [hVd, hkk]; simp [n0, n1]
 clear hVd hkb hch hkk
 generalize chkB F R xs k (!bl) = vch at hch2 hVd2
 replace hVd2 := Lib.hid hVd2
 go_wp2_with fail
 refine (hch2 _ hx6).mono ?_
 rintro e w7 ⟨rfl, hb7⟩
 have hA7 := hA6.call hb7
 have hB7 := below_call hB6 hB6.size hb7
 have hx7 := hx6.call hb7
 clear hcq hlq hcA hlA hA6 hB6 hx6 hQ6 hb7 hch2
 rcases vch with _ | _
 rotate_left
 ·have e0 : Hid (V = false) := Lib.hid (by rw [hVd2.out]; rfl)
  go_wp2_with fail
  go_ret
  exact ⟨by rw [e0.out]; rfl, hB7⟩
 have hVd3 := hVd2.out
 simp only [Bool.not_false, Bool.true_and] at hVd3
 clear hVd2
 replace hVd3 := Lib.hid hVd3
 go_wp2_with fail
 go_loopg [4] 65 (fun q iv wr => ∃ i : Nat, q + i = 65 ∧ i ≤ xs.length ∧ iv = .int .i64 i ∧ lastK F R xs i = true ∧ Below w7.heap.size w7 wr)
 case atStart => exact ⟨0, rfl, Nat.zero_le _, rfl, rfl, Below.refl _ _⟩
 case round =>
  obtain ⟨i, hq, hi, rfl, hlo, hbr⟩ := hrel
  have hAr := hA7.call hbr
  have hBr := below_call hB7 hB7.size hbr
  have hxr := hx7.call hbr
  have hcA := hAr.cells
  have hlA := hAr.lt
  replace hlo := Lib.hid hlo
  by_cases hlt : i < xs.length
  ·have hii : (i : Int) < xs.length := by omega
   have hiF : i < F * R := by have := hlen.out; omega
   obtain ⟨hi64, hi0, hi1⟩ := sq_bd hF hR hiF
   obtain ⟨g, o, rfl, hgl, hcc⟩ := hxr.at hlt
   have hci := hcc i hlt
   have hy1 : pOk (xs[i]?.getD 0) = true := by rw [List.getElem?_eq_getElem hlt]; exact hok _ (List.getElem_mem hlt)
   have hyb := pOk_bd hy1
   have hnx : lastK F R xs (i + 1) = (lastK F R xs i && !((kindI (xs[i]?.getD 0) == 1) && (((i / F : Nat) : Int) == lastI R (decide (xs[i]?.getD 0 < 0))))) := rfl
   rw [hlo.out, Bool.true_and] at hnx
   obtain ⟨y, hy⟩ : ∃ y, y = xs[i]?.getD 0 := ⟨_, rfl⟩
   rw [← hy] at hci hnx hyb
   have hkd := fun W => refKind_any y ⟨by omega, by omega⟩ W
   have hpl := fun W => refPlace_any F R i hF (by omega) W
   have hla := fun W => refLast_v F R (decide (y < 0)) (by omega) W
   clear hcc hy hy1
   generalize i / F = r0 at *
   generalize i % F = f0 at *
   generalize lastI R (decide (y < 0)) = l0 at *
   go_wp2_with fail
   clear hcA hlA
   rcases c1 : (kindI y == 1) with _ | _
   ·rw [c1] at hnx
    simp only [Bool.false_and, Bool.not_false] at hnx
    refine wp_region_vl (by kernel_rfl) (by kernel_rfl) [some 34, some 35, some 36, some 37, some 38, some 39, some 40, some 41, some 42, some 43, some 44, some 45, some 46, some 47, some 48, some 49, some 50, some 51, some 52, some 53, some 54, some 55, some 56, some 57] (by rfl) (by rfl) wr.heap.size (fun i8 => match i8 with | 0 => .pointer (some ⟨w.heap.size, 2, none⟩) | 1 => .slice (some ⟨g, o, none⟩) xs.length c | 2 => .int .i64 (i : Int) | 3 => .pointer (some ⟨g, o + i, none⟩) | 4 => .int .i8 y | 5 => .int .i8 (kindI y) | 6 => .bool false | 7 => .bool false | 23 => .bool false | _ => undef) (fun _ => none) ?hstep ?hend
    case hstep =>
     intro i9 o9 f9 W2 ho hi hC hf K hK
     have hi : i9 < 24 := hi
     rcases i9 with _ | _ | _ | _ | _ | _ | _ | _ | _ | _ | _ | _ | _ | _ | _ | _ | _ | _ | _ | _ | _ | _ | _ | _ | i9
     ·exact st_field (og ho) 26 (.tmp 1) 1 (oo ho) (rd_out rfl rfl) (n := 2) (by kernel_rfl) (kk hK)
     ·exact st_loadS (og ho) 24 (.tmp 34) (oo ho) (ri 0 (da ho hf 0)) (by kernel_rfl) (((hAr.call hC).cells 2)) (kk hK)
     ·exact st_move (og ho) (.tmp 4) (oo ho) (rd_out rfl rfl) (kk hK)
     ·exact st_index (og ho) 24 (.tmp 35) (.tmp 36) (oo ho) (ri 1 (da ho hf 1)) (ri 2 (da ho hf 2)) (index25 W2 g o xs.length c i hlt) (kk hK)
     ·exact st_loadS (og ho) 38 (.tmp 37) (oo ho) (ri 3 (da ho hf 3)) (by kernel_rfl) ((hC.cell (p := ⟨g, o + i, none⟩) hgl).trans hci) (kk hK)
     ·exact st_call1 (og ho) 39 (.tmp 38) #[38] (oo ho) (ri 4 (da ho hf 4)) (fun _ _ => rfl) (hkd W2) (by rintro u w9 ⟨h9, h10⟩; injection h9 with h9; subst h9; subst h10; exact hK _ _ (Below.refl _ _) rfl) (fun _ _ h => nomatch h.1) (fun _ h => nomatch h.1)
     ·exact st_bin (og ho) .eql 38 38 (.tmp 39) (.const (.int .i8 1)) (oo ho) (ri 5 (da ho hf 5)) rfl (gu_i _ _ _ _ _ _ _ _) (bin8_eqlE c1) (kk hK)
     ·exact st_move (og ho) (.tmp 40) (oo ho) (ri 6 (da ho hf 6)) (kk hK)
     iterate 15 exact skip_gd (uw ho (dg ho hf 7)) (kk hK)
     ·exact st_pickF (og ho) (.tmp 41) (.tmp 56) (.const (.bool false)) (oo ho) (ri 7 (da ho hf 7)) rfl (kk hK)
     ·omega
    case hend =>
     intro f9 W2 hC hf
     have hv : f9 23 = .bool false := hf 23 (by decide)
     have hb2 := below_call hbr hbr.size hC
     have hBW := below_call hBr hBr.size hC
     clear hf hAr hBr hxr hbr hC hci hgl
     simp only [putL, Act.put, List.setIfInBounds_toArray, List.set_cons_succ, List.set_cons_zero]
     rw [hv]
     clear hv
     generalize f9 0 = u0, f9 1 = u1, f9 2 = u2, f9 3 = u3, f9 4 = u4, f9 5 = u5, f9 6 = u6, f9 7 = u7, f9 8 = u8, f9 9 = u9, f9 10 = u10, f9 11 = u11, f9 12 = u12, f9 13 = u13, f9 14 = u14, f9 15 = u15, f9 16 = u16, f9 17 = u17, f9 18 = u18, f9 19 = u19, f9 20 = u20, f9 21 = u21, f9 22 = u22
     replace hnx := Lib.hid hnx
     go_wp2_with fail
     go_roundg (gk - 1)
     case measure => omega
     case rel => exact ⟨i + 1, by omega, by omega, by go_num, hnx.out, hb2⟩
   rcases c2 : ((r0 : Int) == l0) with _ | _
   ·rw [c1, c2] at hnx
    simp only [Bool.true_and, Bool.not_false] at hnx
    refine wp_region_vl (by kernel_rfl) (by kernel_rfl) [some 34, some 35, some 36, some 37, some 38, some 39, some 40, some 41, some 42, some 43, some 44, some 45, some 46, some 47, some 48, some 49, some 50, some 51, some 52, some 53, some 54, some 55, some 56, some 57] (by rfl) (by rfl) wr.heap.size (fun i8 => match i8 with | 0 => .pointer (some ⟨w.heap.size, 2, none⟩) | 1 => .slice (some ⟨g, o, none⟩) xs.length c | 2 => .int .i64 (i : Int) | 3 => .pointer (some ⟨g, o + i, none⟩) | 4 => .int .i8 y | 5 => .int .i8 (kindI y) | 6 => .bool true | 7 => .bool true | 8 => .pointer (some ⟨w.heap.size, 0, none⟩) | 9 => .agg [.int .i64 (F : Int), .int .i64 (R : Int)].toArray | 10 => .int .i64 (i : Int) | 11 => .agg #[.int .i64 (f0 : Nat), .int .i64 (r0 : Nat)] | 12 => .int .i64 (r0 : Nat) | 13 => .pointer (some ⟨w.heap.size, 0, none⟩) | 14 => .agg [.int .i64 (F : Int), .int .i64 (R : Int)].toArray | 15 => .pointer (some ⟨w.heap.size, 2, none⟩) | 16 => .slice (some ⟨g, o, none⟩) xs.length c | 17 => .int .i64 (i : Int) | 18 => .pointer (some ⟨g, o + i, none⟩) | 19 => .int .i8 y | 20 => .bool (decide (y < 0)) | 21 => .int .i64 l0 | 22 => .bool false | 23 => .bool false | _ => undef) (fun _ => none) ?hstep ?hend
    case hstep =>
     intro i9 o9 f9 W2 ho hi hC hf K hK
     have hi : i9 < 24 := hi
     rcases i9 with _ | _ | _ | _ | _ | _ | _ | _ | _ | _ | _ | _ | _ | _ | _ | _ | _ | _ | _ | _ | _ | _ | _ | _ | i9
     ·exact st_field (og ho) 26 (.tmp 1) 1 (oo ho) (rd_out rfl rfl) (n := 2) (by kernel_rfl) (kk hK)
     ·exact st_loadS (og ho) 24 (.tmp 34) (oo ho) (ri 0 (da ho hf 0)) (by kernel_rfl) (((hAr.call hC).cells 2)) (kk hK)
     ·exact st_move (og ho) (.tmp 4) (oo ho) (rd_out rfl rfl) (kk hK)
     ·exact st_index (og ho) 24 (.tmp 35) (.tmp 36) (oo ho) (ri 1 (da ho hf 1)) (ri 2 (da ho hf 2)) (index25 W2 g o xs.length c i hlt) (kk hK)
     ·exact st_loadS (og ho) 38 (.tmp 37) (oo ho) (ri 3 (da ho hf 3)) (by kernel_rfl) ((hC.cell (p := ⟨g, o + i, none⟩) hgl).trans hci) (kk hK)
     ·exact st_call1 (og ho) 39 (.tmp 38) #[38] (oo ho) (ri 4 (da ho hf 4)) (fun _ _ => rfl) (hkd W2) (by rintro u w9 ⟨h9, h10⟩; injection h9 with h9; subst h9; subst h10; exact hK _ _ (Below.refl _ _) rfl) (fun _ _ h => nomatch h.1) (fun _ h => nomatch h.1)
     ·exact st_bin (og ho) .eql 38 38 (.tmp 39) (.const (.int .i8 1)) (oo ho) (ri 5 (da ho hf 5)) rfl (gu_i _ _ _ _ _ _ _ _) (bin8_eqlE c1) (kk hK)
     ·exact st_move (og ho) (.tmp 40) (oo ho) (ri 6 (da ho hf 6)) (kk hK)
     ·exact gd (wo ho (dg ho hf 7)) (st_field rfl 26 (.tmp 1) 0 (oo ho) (rd_out rfl rfl) (n := 0) (by kernel_rfl) (kk hK))
     ·exact gd (wo ho (dg ho hf 7)) (st_loadA rfl 23 (.tmp 42) (oo ho) (ri 8 (da ho hf 8)) [.int .i64 (F : Int), .int .i64 (R : Int)] (by kernel_rfl) (fun j v hv => by rw [Nat.zero_add, (hAr.call hC).cells j]; rcases (by have := (List.getElem?_eq_some_iff.1 hv).1; simp at this; omega : j = 0 ∨ j = 1) with rfl | rfl <;> simpa using hv) (kk hK))
     ·exact gd (wo ho (dg ho hf 7)) (st_move rfl (.tmp 4) (oo ho) (rd_out rfl rfl) (kk hK))
     ·exact gd (wo ho (dg ho hf 7)) (st_call2 rfl 40 (.tmp 43) (.tmp 44) #[23, 3] (oo ho) (ri 9 (da ho hf 9)) (ri 10 (da ho hf 10)) (fun _ _ => rfl) (hpl W2) (by rintro u w9 ⟨h9, hb9⟩; injection h9 with h9; subst h9; exact hK _ _ hb9 rfl) (fun _ _ h => nomatch h.1) (fun _ h => nomatch h.1))
     ·exact gd (wo ho (dg ho hf 7)) (st_fieldV rfl 85 (.tmp 45) 1 (oo ho) (ri 11 (da ho hf 11)) (field99 _ _ W2) (kk hK))
     ·exact gd (wo ho (dg ho hf 7)) (st_field rfl 26 (.tmp 1) 0 (oo ho) (rd_out rfl rfl) (n := 0) (by kernel_rfl) (kk hK))
     ·exact gd (wo ho (dg ho hf 7)) (st_loadA rfl 23 (.tmp 47) (oo ho) (ri 13 (da ho hf 13)) [.int .i64 (F : Int), .int .i64 (R : Int)] (by kernel_rfl) (fun j v hv => by rw [Nat.zero_add, (hAr.call hC).cells j]; rcases (by have := (List.getElem?_eq_some_iff.1 hv).1; simp at this; omega : j = 0 ∨ j = 1) with rfl | rfl <;> simpa using hv) (kk hK))
     ·exact gd (wo ho (dg ho hf 7)) (st_field rfl 26 (.tmp 1) 1 (oo ho) (rd_out rfl rfl) (n := 2) (by kernel_rfl) (kk hK))
     ·exact gd (wo ho (dg ho hf 7)) (st_loadS rfl 24 (.tmp 49) (oo ho) (ri 15 (da ho hf 15)) (by kernel_rfl) (((hAr.call hC).cells 2)) (kk hK))
     ·exact gd (wo ho (dg ho hf 7)) (st_move rfl (.tmp 4) (oo ho) (rd_out rfl rfl) (kk hK))
     ·exact gd (wo ho (dg ho hf 7)) (st_index rfl 24 (.tmp 50) (.tmp 51) (oo ho) (ri 16 (da ho hf 16)) (ri 17 (da ho hf 17)) (index25 W2 g o xs.length c i hlt) (kk hK))
     ·exact gd (wo ho (dg ho hf 7)) (st_loadS rfl 38 (.tmp 52) (oo ho) (ri 18 (da ho hf 18)) (by kernel_rfl) ((hC.cell (p := ⟨g, o + i, none⟩) hgl).trans hci) (kk hK))
     ·exact gd (wo ho (dg ho hf 7)) (st_bin rfl .lss 38 38 (.tmp 53) (.const (.int .i8 0)) (oo ho) (ri 19 (da ho hf 19)) rfl (gu_i _ _ _ _ _ _ _ _) (bin8_lss _ _ _) (kk hK))
     ·exact gd (wo ho (dg ho hf 7)) (st_call2 rfl 41 (.tmp 48) (.tmp 54) #[23, 4] (oo ho) (ri 14 (da ho hf 14)) (ri 20 (da ho hf 20)) (fun _ _ => rfl) (hla W2) (by rintro u w9 ⟨h9, hb9⟩; injection h9 with h9; subst h9; exact hK _ _ hb9 rfl) (fun _ _ h => nomatch h.1) (fun _ h => nomatch h.1))
     ·exact gd (wo ho (dg ho hf 7)) (st_bin rfl .eql 3 3 (.tmp 46) (.tmp 55) (oo ho) (ri 12 (da ho hf 12)) (ri 21 (da ho hf 21)) (gu_i _ _ _ _ _ _ _ _) (bin_eqlE c2) (kk hK))
     ·exact st_pickT (og ho) (.tmp 41) (.tmp 56) (.const (.bool false)) (oo ho) (ri 7 (da ho hf 7)) (ri 22 (da ho hf 22)) (kk hK)
     ·omega
    case hend =>
     intro f9 W2 hC hf
     have hv : f9 23 = .bool false := hf 23 (by decide)
     have hb2 := below_call hbr hbr.size hC
     have hBW := below_call hBr hBr.size hC
     clear hf hAr hBr hxr hbr hC hci hgl
     simp only [putL, Act.put, List.setIfInBounds_toArray, List.set_cons_succ, List.set_cons_zero]
     rw [hv]
     clear hv
     generalize f9 0 = u0, f9 1 = u1, f9 2 = u2, f9 3 = u3, f9 4 = u4, f9 5 = u5, f9 6 = u6, f9 7 = u7, f9 8 = u8, f9 9 = u9, f9 10 = u10, f9 11 = u11, f9 12 = u12, f9 13 = u13, f9 14 = u14, f9 15 = u15, f9 16 = u16, f9 17 = u17, f9 18 = u18, f9 19 = u19, f9 20 = u20, f9 21 = u21, f9 22 = u22
     replace hnx := Lib.hid hnx
     go_wp2_with fail
     go_roundg (gk - 1)
     case measure => omega
     case rel => exact ⟨i + 1, by omega, by omega, by go_num, hnx.out, hb2⟩
   ·rw [c1, c2] at hnx
    simp only [Bool.true_and, Bool.not_true] at hnx
    refine wp_region_vl (by kernel_rfl) (by kernel_rfl) [some 34, some 35, some 36, some 37, some 38, some 39, some 40, some 41, some 42, some 43, some 44, some 45, some 46, some 47, some 48, some 49, some 50, some 51, some 52, some 53, some 54, some 55, some 56, some 57] (by rfl) (by rfl) wr.heap.size (fun i8 => match i8 with | 0 => .pointer (some ⟨w.heap.size, 2, none⟩) | 1 => .slice (some ⟨g, o, none⟩) xs.length c | 2 => .int .i64 (i : Int) | 3 => .pointer (some ⟨g, o + i, none⟩) | 4 => .int .i8 y | 5 => .int .i8 (kindI y) | 6 => .bool true | 7 => .bool true | 8 => .pointer (some ⟨w.heap.size, 0, none⟩) | 9 => .agg [.int .i64 (F : Int), .int .i64 (R : Int)].toArray | 10 => .int .i64 (i : Int) | 11 => .agg #[.int .i64 (f0 : Nat), .int .i64 (r0 : Nat)] | 12 => .int .i64 (r0 : Nat) | 13 => .pointer (some ⟨w.heap.size, 0, none⟩) | 14 => .agg [.int .i64 (F : Int), .int .i64 (R : Int)].toArray | 15 => .pointer (some ⟨w.heap.size, 2, none⟩) | 16 => .slice (some ⟨g, o, none⟩) xs.length c | 17 => .int .i64 (i : Int) | 18 => .pointer (some ⟨g, o + i, none⟩) | 19 => .int .i8 y | 20 => .bool (decide (y < 0)) | 21 => .int .i64 l0 | 22 => .bool true | 23 => .bool true | _ => undef) (fun _ => none) ?hstep ?hend
    case hstep =>
     intro i9 o9 f9 W2 ho hi hC hf K hK
     have hi : i9 < 24 := hi
     rcases i9 with _ | _ | _ | _ | _ | _ | _ | _ | _ | _ | _ | _ | _ | _ | _ | _ | _ | _ | _ | _ | _ | _ | _ | _ | i9
     ·exact st_field (og ho) 26 (.tmp 1) 1 (oo ho) (rd_out rfl rfl) (n := 2) (by kernel_rfl) (kk hK)
     ·exact st_loadS (og ho) 24 (.tmp 34) (oo ho) (ri 0 (da ho hf 0)) (by kernel_rfl) (((hAr.call hC).cells 2)) (kk hK)
     ·exact st_move (og ho) (.tmp 4) (oo ho) (rd_out rfl rfl) (kk hK)
     ·exact st_index (og ho) 24 (.tmp 35) (.tmp 36) (oo ho) (ri 1 (da ho hf 1)) (ri 2 (da ho hf 2)) (index25 W2 g o xs.length c i hlt) (kk hK)
     ·exact st_loadS (og ho) 38 (.tmp 37) (oo ho) (ri 3 (da ho hf 3)) (by kernel_rfl) ((hC.cell (p := ⟨g, o + i, none⟩) hgl).trans hci) (kk hK)
     ·exact st_call1 (og ho) 39 (.tmp 38) #[38] (oo ho) (ri 4 (da ho hf 4)) (fun _ _ => rfl) (hkd W2) (by rintro u w9 ⟨h9, h10⟩; injection h9 with h9; subst h9; subst h10; exact hK _ _ (Below.refl _ _) rfl) (fun _ _ h => nomatch h.1) (fun _ h => nomatch h.1)
     ·exact st_bin (og ho) .eql 38 38 (.tmp 39) (.const (.int .i8 1)) (oo ho) (ri 5 (da ho hf 5)) rfl (gu_i _ _ _ _ _ _ _ _) (bin8_eqlE c1) (kk hK)
     ·exact st_move (og ho) (.tmp 40) (oo ho) (ri 6 (da ho hf 6)) (kk hK)
     ·exact gd (wo ho (dg ho hf 7)) (st_field rfl 26 (.tmp 1) 0 (oo ho) (rd_out rfl rfl) (n := 0) (by kernel_rfl) (kk hK))
     ·exact gd (wo ho (dg ho hf 7)) (st_loadA rfl 23 (.tmp 42) (oo ho) (ri 8 (da ho hf 8)) [.int .i64 (F : Int), .int .i64 (R : Int)] (by kernel_rfl) (fun j v hv => by rw [Nat.zero_add, (hAr.call hC).cells j]; rcases (by have := (List.getElem?_eq_some_iff.1 hv).1; simp at this; omega : j = 0 ∨ j = 1) with rfl | rfl <;> simpa using hv) (kk hK))
     ·exact gd (wo ho (dg ho hf 7)) (st_move rfl (.tmp 4) (oo ho) (rd_out rfl rfl) (kk hK))
     ·exact gd (wo ho (dg ho hf 7)) (st_call2 rfl 40 (.tmp 43) (.tmp 44) #[23, 3] (oo ho) (ri 9 (da ho hf 9)) (ri 10 (da ho hf 10)) (fun _ _ => rfl) (hpl W2) (by rintro u w9 ⟨h9, hb9⟩; injection h9 with h9; subst h9; exact hK _ _ hb9 rfl) (fun _ _ h => nomatch h.1) (fun _ h => nomatch h.1))
     ·exact gd (wo ho (dg ho hf 7)) (st_fieldV rfl 85 (.tmp 45) 1 (oo ho) (ri 11 (da ho hf 11)) (field99 _ _ W2) (kk hK))
     ·exact gd (wo ho (dg ho hf 7)) (st_field rfl 26 (.tmp 1) 0 (oo ho) (rd_out rfl rfl) (n := 0) (by kernel_rfl) (kk hK))
     ·exact gd (wo ho (dg ho hf 7)) (st_loadA rfl 23 (.tmp 47) (oo ho) (ri 13 (da ho hf 13)) [.int .i64 (F : Int), .int .i64 (R : Int)] (by kernel_rfl) (fun j v hv => by rw [Nat.zero_add, (hAr.call hC).cells j]; rcases (by have := (List.getElem?_eq_some_iff.1 hv).1; simp at this; omega : j = 0 ∨ j = 1) with rfl | rfl <;> simpa using hv) (kk hK))
     ·exact gd (wo ho (dg ho hf 7)) (st_field rfl 26 (.tmp 1) 1 (oo ho) (rd_out rfl rfl) (n := 2) (by kernel_rfl) (kk hK))
     ·exact gd (wo ho (dg ho hf 7)) (st_loadS rfl 24 (.tmp 49) (oo ho) (ri 15 (da ho hf 15)) (by kernel_rfl) (((hAr.call hC).cells 2)) (kk hK))
     ·exact gd (wo ho (dg ho hf 7)) (st_move rfl (.tmp 4) (oo ho) (rd_out rfl rfl) (kk hK))
     ·exact gd (wo ho (dg ho hf 7)) (st_index rfl 24 (.tmp 50) (.tmp 51) (oo ho) (ri 16 (da ho hf 16)) (ri 17 (da ho hf 17)) (index25 W2 g o xs.length c i hlt) (kk hK))
     ·exact gd (wo ho (dg ho hf 7)) (st_loadS rfl 38 (.tmp 52) (oo ho) (ri 18 (da ho hf 18)) (by kernel_rfl) ((hC.cell (p := ⟨g, o + i, none⟩) hgl).trans hci) (kk hK))
     ·exact gd (wo ho (dg ho hf 7)) (st_bin rfl .lss 38 38 (.tmp 53) (.const (.int .i8 0)) (oo ho) (ri 19 (da ho hf 19)) rfl (gu_i _ _ _ _ _ _ _ _) (bin8_lss _ _ _) (kk hK))
     ·exact gd (wo ho (dg ho hf 7)) (st_call2 rfl 41 (.tmp 48) (.tmp 54) #[23, 4] (oo ho) (ri 14 (da ho hf 14)) (ri 20 (da ho hf 20)) (fun _ _ => rfl) (hla W2) (by rintro u w9 ⟨h9, hb9⟩; injection h9 with h9; subst h9; exact hK _ _ hb9 rfl) (fun _ _ h => nomatch h.1) (fun _ h => nomatch h.1))
     ·exact gd (wo ho (dg ho hf 7)) (st_bin rfl .eql 3 3 (.tmp 46) (.tmp 55) (oo ho) (ri 12 (da ho hf 12)) (ri 21 (da ho hf 21)) (gu_i _ _ _ _ _ _ _ _) (bin_eqlE c2) (kk hK))
     ·exact st_pickT (og ho) (.tmp 41) (.tmp 56) (.const (.bool false)) (oo ho) (ri 7 (da ho hf 7)) (ri 22 (da ho hf 22)) (kk hK)
     ·omega
    case hend =>
     intro f9 W2 hC hf
     have hv : f9 23 = .bool true := hf 23 (by decide)
     have hb2 := below_call hbr hbr.size hC
     have hBW := below_call hBr hBr.size hC
     clear hf hAr hBr hxr hbr hC hci hgl
     simp only [putL, Act.put, List.setIfInBounds_toArray, List.set_cons_succ, List.set_cons_zero]
     rw [hv]
     clear hv
     generalize f9 0 = u0, f9 1 = u1, f9 2 = u2, f9 3 = u3, f9 4 = u4, f9 5 = u5, f9 6 = u6, f9 7 = u7, f9 8 = u8, f9 9 = u9, f9 10 = u10, f9 11 = u11, f9 12 = u12, f9 13 = u13, f9 14 = u14, f9 15 = u15, f9 16 = u16, f9 17 = u17, f9 18 = u18, f9 19 = u19, f9 20 = u20, f9 21 = u21, f9 22 = u22
     have e0 : Hid (V = false) := Lib.hid (by
      rw [hVd3.out, show xs.length = (i + 1) + (xs.length - (i + 1)) by omega, lastK_le hnx]; rfl)
     replace hnx := Lib.hid hnx
     go_wp2_with fail
     go_ret
     exact ⟨by rw [e0.out]; rfl, hBW⟩
  ·have hii : ¬ (i : Int) < xs.length := by omega
   obtain rfl : i = xs.length := by omega
   have hVd4 : V = (vcs && (vps && (decide (0 ≤ ha) && (decide (ha ≤ 10000) && (decide (1 ≤ fu) && decide (fu ≤ 10000)))))) := by rw [hVd3.out, hlo.out, Bool.true_and]
   replace hVd4 := Lib.hid hVd4
   clear hVd3
   go_wp2_with fail
   refine (hcs _ hxr).mono ?_
   rintro e w8 ⟨rfl, hb8⟩
   have hA8 := hAr.call hb8
   have hB8 := below_call hBr hBr.size hb8
   have hx8 := hxr.call hb8
   have hc8 := hA8.cells
   have hl8 := hA8.lt
   clear hcA hlA hAr hBr hxr hbr hb8 hcs
   rcases vcs with _ | _
   ·have e0 : Hid (V = false) := Lib.hid (by rw [hVd4.out]; rfl)
    go_wp2_with fail
    go_ret
    exact ⟨by rw [e0.out]; rfl, hB8⟩
   go_wp2_with fail
   refine (hps _ hx8).mono ?_
   rintro e w9 ⟨rfl, hb9⟩
   have hA9 := hA8.call hb9
   have hB9 := below_call hB8 hB8.size hb9
   have hc9 := hA9.cells
   have hl9 := hA9.lt
   clear hc8 hl8 hA8 hB8 hx8 hb9 hps
   rcases vps with _ | _
   ·have e0 : Hid (V = false) := Lib.hid (by rw [hVd4.out]; rfl)
    go_wp2_with fail
    go_ret
    exact ⟨by rw [e0.out]; rfl, hB9⟩
   go_wp2
   all_goals (go_ret; refine ⟨?_, hB9⟩; rw [hVd4.out]; simp [*] <;> omega)
theorem refPos_any (f r ca pa ha fu : Int) (bl : Bool) (p : Option Addr) (c : Nat) (xs : List Int) (hca : 0 ≤ ca) (w : World) (hx : Arr .i8 w p xs) :
  Calls Tryz.prog 13 #[.agg (posCs f r p xs.length c bl ca pa ha fu).toArray] w fun e w' => e = .returned (.bool (pvB f r xs bl ca pa ha fu)) ∧ Below w.heap.size w w' := by
 rcases hor : orthB f r xs with _ | _
 ·have e0 : Hid (pvB f r xs bl ca pa ha fu = false) := Lib.hid (by unfold pvB; rw [hor]; rfl)
  have hB := below_box w (.cells (posCs f r p xs.length c bl ca pa ha fu).toArray 26)
  have hA := HasO.new w (.cells (posCs f r p xs.length c bl ca pa ha fu).toArray 26)
  have hof := fun W => refOf_any f r ca pa ha fu bl p xs.length c W
  have horb := fun W h => refOrthB_any f r p c xs W h
  rw [hor] at horb
  have hc0 := hA.cells
  have hl0 := hA.lt
  go_enter Tryz.func13, Tryz.ntmps13
  go_wp2_with fail
  refine (hof _).mono ?_
  rintro e w2 ⟨rfl, hb2⟩
  have hB2 := below_call hB hB.size hb2
  have hx2 := hx.call hB2
  clear hA hB hb2 hc0 hl0 hof hx
  have hb3 := below_box w2 (.cells (bdCs f r p xs.length c).toArray 68)
  have hQ3 := HasO.new w2 (.cells (bdCs f r p xs.length c).toArray 68)
  have hB3 := below_call hB2 hB2.size hb3
  have hx3 := hx2.call hb3
  have hcq := hQ3.cells
  have hlq := hQ3.lt
  go_wp2_with fail
  refine (horb _ hx3).mono ?_
  rintro e w4 ⟨rfl, hb4⟩
  have hB4 := below_call hB3 hB3.size hb4
  clear hcq hlq
  go_wp2_with fail
  go_ret
  exact ⟨by rw [e0.out]; rfl, hB4⟩
 ·obtain ⟨F, R, rfl, rfl, hF, hR, hlen, hok, _⟩ := orthB_fact hor
  have e0 : pvB F R xs bl ca pa ha fu = pvN F R xs bl ca pa ha fu := by unfold pvB; rw [hor]; rfl
  rw [e0]
  exact refPos_good F R ca pa ha fu bl p c xs hF hR hlen hok hor hca w hx
def onB (F R : Nat) (a b : Int) : Bool := decide (0 ≤ a) && (decide (a < F) && (decide (0 ≤ b) && decide (b < R)))
theorem sqOn_any (F R : Nat) (a b : Int) (w : World) : Calls Tryz.prog 141 #[.agg #[.int .i64 F, .int .i64 R], .int .i64 a, .int .i64 b] w fun e w' => e = .returned (.bool (onB F R a b)) ∧ Below w.heap.size w w' := by
 go_enter Tryz.func141, Tryz.ntmps141
 go_wp2
 all_goals (go_ret; refine ⟨?_, below_box _ _⟩; simp [onB, *] <;> omega)
theorem size_nat {F R : Nat} (hF : 3 ≤ F ∧ F ≤ 8) (hR : 3 ≤ R ∧ R ≤ 8) : sizeB F R = true := by simp [sizeB, sideB]; omega
def atV (F R : Nat) (a b : Int) : Value := if onB F R a b then .tuple #[.int .i64 (a + b * F), .int .i64 0] else .tuple #[.int .i64 0, .int .i64 3]
theorem onB_fact {F R : Nat} {a b : Int} (h : onB F R a b = true) : 0 ≤ a ∧ a < F ∧ 0 ≤ b ∧ b < R := by simpa [onB] using h
theorem small_mul {F : Nat} {b : Int} (hF : F ≤ 8) (h : -20 ≤ b ∧ b ≤ 20) : -160 ≤ b * F ∧ b * F ≤ 160 := by
 have h1 : (b * F).natAbs = b.natAbs * (F : Int).natAbs := Int.natAbs_mul b F
 have h2 : b.natAbs * (F : Int).natAbs ≤ 20 * 8 := Nat.mul_le_mul (by omega) (by omega)
 omega
theorem sqAt_any (F R : Nat) (a b : Int) (hF : 3 ≤ F ∧ F ≤ 8) (hR : 3 ≤ R ∧ R ≤ 8) (w : World) : Calls Tryz.prog 89 #[.agg #[.int .i64 F, .int .i64 R], .int .i64 a, .int .i64 b] w fun e w' => e = .returned (atV F R a b) ∧ Below w.heap.size w w' := by
 have hA := HasO.new w (.cells #[.int .i64 (F : Int), .int .i64 (R : Int)] 23)
 have hB := below_box w (.cells #[.int .i64 (F : Int), .int .i64 (R : Int)] 23)
 have hvs := fun W => validSize_any F R W
 rw [size_nat hF hR] at hvs
 have hon := fun W => sqOn_any F R a b W
 have hc0 := hA.cells
 have hl0 := hA.lt
 go_enter Tryz.func89, Tryz.ntmps89
 go_wp2_with fail
 refine (hvs _).mono ?_
 rintro e w2 ⟨rfl, hb2⟩
 have hA2 := hA.call hb2
 have hB2 := below_call hB hB.size hb2
 clear hc0 hl0 hA hB hb2
 have hc2 := hA2.cells
 have hl2 := hA2.lt
 go_wp2_with fail
 refine (hon _).mono ?_
 rintro e w3 ⟨rfl, hb3⟩
 have hA3 := hA2.call hb3
 have hB3 := below_call hB2 hB2.size hb3
 clear hc2 hl2 hA2 hB2 hb3
 have hc3 := hA3.cells
 have hl3 := hA3.lt
 rcases hv : onB F R a b with _ | _
 ·have e0 : Hid (atV F R a b = .tuple #[.int .i64 0, .int .i64 3]) := Lib.hid (by unfold atV; rw [hv]; rfl)
  go_wp2_with fail
  go_ret2
  exact ⟨by rw [e0.out]; rfl, hB3⟩
 ·have e0 : Hid (atV F R a b = .tuple #[.int .i64 (a + b * F), .int .i64 0]) := Lib.hid (by unfold atV; rw [hv]; rfl)
  obtain ⟨h1, h2, h3, h4⟩ := onB_fact hv
  have h5 := small_mul (F := F) (b := b) hF.2 (by omega)
  have e1 : wrap64 (b * F) = b * F := wrap_small (by omega)
  have e2 : wrap64 (a + b * F) = a + b * F := wrap_small (by omega)
  go_wp2_with fail
  go_ret2
  exact ⟨by rw [e0.out]; rfl, hB3⟩
theorem sqPlace_good (F R a : Nat) (hF : 3 ≤ F ∧ F ≤ 8) (hR : 3 ≤ R ∧ R ≤ 8) (ha : a < F * R) (w : World) : Calls Tryz.prog 88 #[.agg #[.int .i64 F, .int .i64 R], .int .i64 a] w fun e w' => e = .returned (.tuple #[.int .i64 (a % F : Nat), .int .i64 (a / F : Nat), .int .i64 0]) ∧ Below w.heap.size w w' := by
 have hA := HasO.new w (.cells #[.int .i64 (F : Int), .int .i64 (R : Int)] 23)
 have hB := below_box w (.cells #[.int .i64 (F : Int), .int .i64 (R : Int)] 23)
 have hsv := fun W => sqValid_any F R a W
 rw [sqB_nat hF hR ha] at hsv
 obtain ⟨ha64, ha0, ha1⟩ := sq_bd hF hR ha
 have hF0 : (F : Int) ≠ 0 := by omega
 have hc0 := hA.cells
 have hl0 := hA.lt
 go_enter Tryz.func88, Tryz.ntmps88
 go_wp2_with fail
 refine (hsv _).mono ?_
 rintro e w2 ⟨rfl, hb2⟩
 have hA2 := hA.call hb2
 have hB2 := below_call hB hB.size hb2
 clear hc0 hl0 hA hB hb2
 have hc2 := hA2.cells
 have hl2 := hA2.lt
 go_wp2_with fail
 go_region
 have e1 : (a : Int) / (F : Int) = ((a / F : Nat) : Int) := rfl
 have e3 : (a : Int) % (F : Int) = ((a % F : Nat) : Int) := rfl
 have e5 : (0 : Int) ≤ ((a / F : Nat) : Int) := Int.natCast_nonneg _
 rw [e1, e3, wrap_small (by omega)]
 go_wp2_with fail
 go_ret3
 exact ⟨rfl, hB2.drew⟩
end Go.Proofs.YtefmplccbkmalaaGreatDoor
