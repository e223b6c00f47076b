import Derived.Test.YtefmplccbkmalaaGreatDoorC13
set_option maxHeartbeats 12800000
namespace Go.Proofs.YtefmplccbkmalaaGreatDoor
open Go.RowKit

def rankI (r : Int) (b : Bool) (k : Int) : Int := if b then r - k else k - 1
theorem refRank_v (f r k : Int) (b : Bool) (hr : 0 ≤ r ∧ r ≤ 1000) (hk : 0 ≤ k ∧ k ≤ 1000) (w : World) : Calls Tryz.prog 102 #[.agg #[.int .i64 f, .int .i64 r], .bool b, .int .i64 k] w fun e w' => e = .returned (.int .i64 (rankI r b k)) ∧ Below w.heap.size w w' := refRank_any f r k b hr hk w
def lastI (r : Int) (b : Bool) : Int := if b then 0 else r - 1
theorem refLast_v (f r : Int) (b : Bool) (hr : 0 ≤ r ∧ r ≤ 1000) (w : World) : Calls Tryz.prog 41 #[.agg #[.int .i64 f, .int .i64 r], .bool b] w fun e w' => e = .returned (.int .i64 (lastI r b)) ∧ Below w.heap.size w w' := refLast_any f r b hr w
def sqN (F : Nat) (f0 : Nat) (k : Int) : Nat := k.toNat * F + f0
def psB (F R : Nat) (xs : List Int) (bl : Bool) (a : Nat) : Bool :=
 (2 * ((a / F : Nat) : Int) == rankI R (!bl) 2 + rankI R (!bl) 4) && ((xs[a]?.getD 0 == 0) && ((xs[sqN F (a % F) (rankI R (!bl) 2)]?.getD 0 == 0) && (xs[sqN F (a % F) (rankI R (!bl) 4)]?.getD 0 == pcI 1 (!bl))))
def passB (F R : Nat) (xs : List Int) (bl : Bool) (pa ha : Int) : Bool :=
 (pa == -1) || (!decide ((R : Int) < 6) && ((ha == 0) && (sqB F R pa && psB F R xs bl pa.toNat)))
theorem rankI_bd {R : Nat} (hR : 6 ≤ R ∧ R ≤ 8) (b : Bool) (k : Int) (hk : k = 2 ∨ k = 4) : 0 ≤ rankI R b k ∧ rankI R b k < R := by
 unfold rankI; cases b <;> rcases hk with rfl | rfl <;> simp <;> omega
theorem numI_in {F R f0 : Nat} {k : Int} (hf : f0 < F) (hk : 0 ≤ k ∧ k < R) : numI F R f0 k = (sqN F f0 k : Nat) := by
 unfold numI sqN
 rw [if_neg (by omega)]
 obtain ⟨n, rfl⟩ : ∃ n : Nat, k = n := ⟨k.toNat, by omega⟩
 simp
theorem sqN_lt {F R f0 : Nat} {k : Int} (hf : f0 < F) (hk : 0 ≤ k ∧ k < R) : sqN F f0 k < F * R := by
 unfold sqN
 have h1 : k.toNat + 1 ≤ R := by omega
 have h2 := Nat.mul_le_mul_right F h1
 rw [Nat.add_mul, Nat.one_mul, Nat.mul_comm R F] at h2
 omega
theorem bin8_eqlE {x y : Int} {d : Bool} {W : World} (h : (x == y) = d) : (binOp .eql 38 (.int .i8 x) (.int .i8 y)).run Tryz.prog W = .ok (.bool d) W := by rw [bin8_eql, h]
set_option maxRecDepth 100000 in
theorem refPassant_any (F R : Nat) (ca pa ha fu : Int) (bl : Bool) (p : Option Addr) (c : Nat) (xs : List Int) (hF : 3 ≤ F ∧ F ≤ 8) (hR : 3 ≤ R ∧ R ≤ 8) (hlen : xs.length = F * R) (w : World) (hx : Arr .i8 w p xs) :
  Calls Tryz.prog 43 #[.agg (posCs F R p xs.length c bl ca pa ha fu).toArray] w fun e w' => e = .returned (.bool (passB F R xs bl pa ha)) ∧ Below w.heap.size w w' := by
 have hB := below_box w (.cells (posCs F R p xs.length c bl ca pa ha fu).toArray 26)
 have hA := HasO.new w (.cells (posCs F R p xs.length c bl ca pa ha fu).toArray 26)
 have hc0 := hA.cells
 have hl0 := hA.lt
 by_cases h1 : pa = -1
 ·have e0 : Hid (passB F R xs bl pa ha = true) := Lib.hid (by simp [passB, h1])
  have d1 : (pa == -1) = true := by simp [h1]
  replace h1 := Lib.hid h1
  replace hlen := Lib.hid hlen
  go_enter Tryz.func43, Tryz.ntmps43
  go_wp2_with fail
  go_ret
  exact ⟨by rw [e0.out]; rfl, hB⟩
 have d1 : (pa == -1) = false := by simp [h1]
 by_cases h2 : (R : Int) < 6
 ·have e0 : Hid (passB F R xs bl pa ha = false) := Lib.hid (by simp [passB, h1, h2])
  replace hlen := Lib.hid hlen
  go_enter Tryz.func43, Tryz.ntmps43
  go_wp2_with fail
  go_ret
  exact ⟨by rw [e0.out]; rfl, hB⟩
 by_cases h3 : ha = 0
 rotate_left
 ·have e0 : Hid (passB F R xs bl pa ha = false) := Lib.hid (by simp [passB, h1, h3])
  have d3 : (ha != 0) = true := by simp [h3]
  replace hlen := Lib.hid hlen
  go_enter Tryz.func43, Tryz.ntmps43
  go_wp2_with fail
  go_ret
  exact ⟨by rw [e0.out]; rfl, hB⟩
 have d3 : (ha != 0) = false := by simp [h3]
 have hsv := fun W => refSqValid_any F R pa W
 rcases h4 : sqB F R pa with _ | _
 ·have e0 : Hid (passB F R xs bl pa ha = false) := Lib.hid (by simp [passB, h1, h4])
  rw [h4] at hsv
  replace hlen := Lib.hid hlen
  replace h3 := Lib.hid h3
  go_enter Tryz.func43, Tryz.ntmps43
  go_wp2_with fail
  refine (hsv _).mono ?_
  rintro e w2 ⟨rfl, hb2⟩
  go_wp2_with fail
  go_ret
  exact ⟨by rw [e0.out]; rfl, below_call hB hB.size hb2⟩
 obtain ⟨a, rfl⟩ : ∃ a : Nat, pa = a := ⟨pa.toNat, by simp [sqB] at h4; omega⟩
 have haF : a < F * R := by
  simp [sqB] at h4
  have := h4.2
  rw [← Int.natCast_mul] at this
  omega
 have hV : passB F R xs bl a ha = psB F R xs bl a := by
  have : ¬ ((R : Int) < 6) := h2
  unfold passB
  rw [d1, h4, Int.toNat_natCast, h3]
  simp [this]
 rw [h4] at hsv
 rw [hV]
 subst h3
 obtain ⟨ha64, ha0, ha1⟩ := sq_bd hF hR haF
 have hR6 : 6 ≤ R ∧ R ≤ 8 := by omega
 have hr2 := rankI_bd hR6 (!bl) 2 (.inl rfl)
 have hr4 := rankI_bd hR6 (!bl) 4 (.inr rfl)
 have n2 := numI_in ha0 hr2
 have n4 := numI_in ha0 hr4
 have m2 := sqN_lt ha0 hr2
 have m4 := sqN_lt ha0 hr4
 rw [← hlen] at m2 m4
 have m0 : a < xs.length := by omega
 obtain ⟨V, hVV⟩ : ∃ V, V = psB F R xs bl a := ⟨_, rfl⟩
 have hVd : V = ((2 * ((a / F : Nat) : Int) == rankI R (!bl) 2 + rankI R (!bl) 4) && ((xs[a]?.getD 0 == 0) && ((xs[sqN F (a % F) (rankI R (!bl) 2)]?.getD 0 == 0) && (xs[sqN F (a % F) (rankI R (!bl) 4)]?.getD 0 == pcI 1 (!bl))))) := hVV
 rw [← hVV]
 obtain ⟨g, o, rfl, hgl, hcc⟩ := (hx.call hB).at m0
 have hc1 := hcc _ m0
 have hc2 := hcc _ m2
 have hc4 := hcc _ m4
 have hpl := fun W => refPlace_any F R a hF (by omega) W
 have hk2 := fun W => refRank_v F R 2 (!bl) (by omega) (by omega) W
 have hk4 := fun W => refRank_v F R 4 (!bl) (by omega) (by omega) W
 have hn2 := fun W => refNumber_v F R ((a % F : Nat) : Int) (rankI R (!bl) 2) W (by omega) (by omega) (by omega)
 have hn4 := fun W => refNumber_v F R ((a % F : Nat) : Int) (rankI R (!bl) 4) W (by omega) (by omega) (by omega)
 have hpc := fun W => refPiece_any 1 (!bl) (by omega) W
 rw [n2] at hn2
 rw [n4] at hn4
 clear hVV hV n2 n4 hcc h4 hx
 generalize xs[a]?.getD 0 = y0, xs[sqN F (a % F) (rankI R (!bl) 2)]?.getD 0 = y2, xs[sqN F (a % F) (rankI R (!bl) 4)]?.getD 0 = y4 at *
 generalize sqN F (a % F) (rankI R (!bl) 2) = s2, sqN F (a % F) (rankI R (!bl) 4) = s4 at *
 generalize rankI R (!bl) 2 = k2, rankI R (!bl) 4 = k4 at *
 generalize a % F = f0 at *
 have hr0n : (0 : Int) ≤ ((a / F : Nat) : Int) := Int.natCast_nonneg _
 have hr0b : ((a / F : Nat) : Int) < R := by omega
 generalize a / F = r0 at *
 generalize pcI 1 (!bl) = pc at *
 have w1' : wrap64 (2 * (r0 : Int)) = 2 * r0 := IntWalk.wrap64_in _ (by omega)
 have w2' : wrap64 (k2 + k4) = k2 + k4 := IntWalk.wrap64_in _ (by omega)
 replace hlen := Lib.hid hlen
 go_enter Tryz.func43, Tryz.ntmps43
 go_wp2_with fail
 refine (hsv _).mono ?_
 rintro e w2 ⟨rfl, hb2⟩
 have hA2 := hA.call hb2
 have hB2 := below_call hB hB.size hb2
 have hgl2 : g < w2.heap.size := Nat.lt_of_lt_of_le hgl hb2.size
 have q1 := (hb2.cell (p := ⟨g, o + a, none⟩) hgl).trans hc1
 have q2 := (hb2.cell (p := ⟨g, o + s2, none⟩) hgl).trans hc2
 have q4 := (hb2.cell (p := ⟨g, o + s4, none⟩) hgl).trans hc4
 clear hA hB hb2 hgl hc1 hc2 hc4 hc0 hl0 hsv
 have hcA := hA2.cells
 have hlA := hA2.lt
 go_wp2_with fail
 refine (hpl _).mono ?_
 rintro e w3 ⟨rfl, hb3⟩
 have hA3 := hA2.call hb3
 have hB3 := below_call hB2 hB2.size hb3
 have hgl3 : g < w3.heap.size := Nat.lt_of_lt_of_le hgl2 hb3.size
 have p1 := (hb3.cell (p := ⟨g, o + a, none⟩) hgl2).trans q1
 have p2 := (hb3.cell (p := ⟨g, o + s2, none⟩) hgl2).trans q2
 have p4 := (hb3.cell (p := ⟨g, o + s4, none⟩) hgl2).trans q4
 clear hA2 hB2 hb3 hgl2 q1 q2 q4 hcA hlA hpl
 go_wp2_with fail
 show Code.wp _ _ _ _ (w3.alloc (.cells #[.int .i64 (f0 : Int), .int .i64 (r0 : Int)] 85))
 have hb4 := below_box w3 (.cells #[.int .i64 (f0 : Int), .int .i64 (r0 : Int)] 85)
 have hQ4 := HasO.new w3 (.cells #[.int .i64 (f0 : Int), .int .i64 (r0 : Int)] 85)
 obtain ⟨w4, hw4⟩ : ∃ x, x = w3.alloc (.cells #[.int .i64 (f0 : Int), .int .i64 (r0 : Int)] 85) := ⟨_, rfl⟩
 rw [← hw4] at hb4 hQ4 ⊢
 clear hw4
 have hA4 := hA3.call hb4
 have hB4 := below_call hB3 hB3.size hb4
 have hgl4 : g < w4.heap.size := Nat.lt_of_lt_of_le hgl3 hb4.size
 have o1 := (hb4.cell (p := ⟨g, o + a, none⟩) hgl3).trans p1
 have o2 := (hb4.cell (p := ⟨g, o + s2, none⟩) hgl3).trans p2
 have o4 := (hb4.cell (p := ⟨g, o + s4, none⟩) hgl3).trans p4
 clear hA3 hB3 hb4 hgl3 p1 p2 p4
 obtain ⟨qp, hqp⟩ : ∃ x, x = w3.heap.size := ⟨_, rfl⟩
 rw [← hqp] at hQ4 ⊢
 clear hqp
 refine wp_region_vl (by kernel_rfl) (by kernel_rfl) [some 35, some 36, some 37, some 38, some 39, some 40, some 41, some 42, some 5, some 6] (by rfl) (by rfl) w4.heap.size (fun i8 => match i8 with | 0 => .pointer (some ⟨w.heap.size, 0, none⟩) | 1 => .agg [.int .i64 (F : Int), .int .i64 (R : Int)].toArray | 2 => .bool (!bl) | 3 => .int .i64 k2 | 4 => .pointer (some ⟨w.heap.size, 0, none⟩) | 5 => .agg [.int .i64 (F : Int), .int .i64 (R : Int)].toArray | 6 => .bool (!bl) | 7 => .int .i64 k4 | 8 => .int .i64 k2 | 9 => .int .i64 k4 | _ => undef) (fun _ => none) ?hstep ?hend
 case hstep =>
  intro i9 o9 f9 W ho hi hC hf K hK
  have hi : i9 < 10 := hi
  rcases i9 with _ | _ | _ | _ | _ | _ | _ | _ | _ | _ | i9
  ·exact st_field (og ho) 26 (.tmp 1) 0 (oo ho) (rd_out rfl rfl) (n := 0) (by kernel_rfl) (kk hK)
  ·exact st_loadA (og ho) 23 (.tmp 35) (oo ho) (ri 0 (da ho hf 0)) [.int .i64 (F : Int), .int .i64 (R : Int)] (by kernel_rfl) (fun j v hv => by rw [Nat.zero_add, (hA4.call hC).cells j]; rcases (by have := (List.getElem?_eq_some_iff.1 hv).1; simp at this; omega : j = 0 ∨ j = 1) with rfl | rfl <;> simpa using hv) (kk hK)
  ·exact st_move (og ho) (.tmp 3) (oo ho) (rd_out rfl rfl) (kk hK)
  ·exact st_call3 (og ho) 102 (.tmp 36) (.tmp 37) (.const (.int .i64 2)) #[23, 4, 3] (oo ho) (ri 1 (da ho hf 1)) (ri 2 (da ho hf 2)) rfl (fun _ _ => rfl) (hk2 W) (by rintro u w9 ⟨h9, hb9⟩; injection h9 with h9; subst h9; exact hK _ _ hb9 rfl) (fun _ _ h => nomatch h.1) (fun _ h => nomatch h.1)
  ·exact st_field (og ho) 26 (.tmp 1) 0 (oo ho) (rd_out rfl rfl) (n := 0) (by kernel_rfl) (kk hK)
  ·exact st_loadA (og ho) 23 (.tmp 39) (oo ho) (ri 4 (da ho hf 4)) [.int .i64 (F : Int), .int .i64 (R : Int)] (by kernel_rfl) (fun j v hv => by rw [Nat.zero_add, (hA4.call hC).cells j]; rcases (by have := (List.getElem?_eq_some_iff.1 hv).1; simp at this; omega : j = 0 ∨ j = 1) with rfl | rfl <;> simpa using hv) (kk hK)
  ·exact st_move (og ho) (.tmp 3) (oo ho) (rd_out rfl rfl) (kk hK)
  ·exact st_call3 (og ho) 102 (.tmp 40) (.tmp 41) (.const (.int .i64 4)) #[23, 4, 3] (oo ho) (ri 5 (da ho hf 5)) (ri 6 (da ho hf 6)) rfl (fun _ _ => rfl) (hk4 W) (by rintro u w9 ⟨h9, hb9⟩; injection h9 with h9; subst h9; exact hK _ _ hb9 rfl) (fun _ _ h => nomatch h.1) (fun _ h => nomatch h.1)
  ·exact st_assign (og ho) (.tmp 38) (oo ho) (ri 3 (da ho hf 3)) (kk hK)
  ·exact st_assign (og ho) (.tmp 42) (oo ho) (ri 7 (da ho hf 7)) (kk hK)
  ·omega
 case hend =>
  intro f9 W hC hf
  have v8 : f9 8 = .int .i64 k2 := hf 8 (by decide)
  have v9 : f9 9 = .int .i64 k4 := hf 9 (by decide)
  have hA5 := hA4.call hC
  have hQ5 := hQ4.call hC
  have hB5 := below_call hB4 hB4.size hC
  have hgl5 : g < W.heap.size := Nat.lt_of_lt_of_le hgl4 hC.size
  have r1 := (hC.cell (p := ⟨g, o + a, none⟩) hgl4).trans o1
  have r2 := (hC.cell (p := ⟨g, o + s2, none⟩) hgl4).trans o2
  have r4 := (hC.cell (p := ⟨g, o + s4, none⟩) hgl4).trans o4
  have hcA := hA5.cells
  have hlA := hA5.lt
  have hcQ := hQ5.cells
  have hlQ := hQ5.lt
  clear hf hA4 hB4 hgl4 o1 o2 o4 hQ4 hC hk2 hk4
  simp only [putL, Act.put, List.setIfInBounds_toArray, List.set_cons_succ, List.set_cons_zero]
  rw [v8, v9]
  clear v8 v9
  generalize f9 0 = u0, f9 1 = u1, f9 2 = u2, f9 3 = u3, f9 4 = u4, f9 5 = u5, f9 6 = u6, f9 7 = u7
  rcases c0 : (2 * (r0 : Int) == k2 + k4) with _ | _
  ·have e0 : Hid (V = false) := Lib.hid (by rw [hVd, c0]; rfl)
   have c0' : (2 * (r0 : Int) != k2 + k4) = true := by simp only [bne, c0]; rfl
   go_wp2_with fail
   go_ret
   exact ⟨by rw [e0.out]; rfl, hB5⟩
  have c0' : (2 * (r0 : Int) != k2 + k4) = false := by simp only [bne, c0]; rfl
  rw [c0, Bool.true_and] at hVd
  replace hVd := Lib.hid hVd
  clear w1' w2'
  replace c0 := Lib.hid c0
  go_wp2_with fail
  replace c0' := Lib.hid c0'
  clear hcA hlA hcQ hlQ
  rcases c1 : (y0 == 0) with _ | _
  ·have e0 : Hid (V = false) := Lib.hid (by rw [hVd.out, c1]; rfl)
   refine wp_region_vl (by kernel_rfl) (by kernel_rfl) [some 50, some 51, some 52, some 53, some 54, some 55, some 56, some 57, some 58, some 59, some 60, some 61, some 62, some 63, some 64, some 65, some 66, some 67, some 68, some 69, some 70, some 71, some 72, some 73, some 74, some 75, some 76, some 77, some 78, some 79, some 80, some 81, some 82, some 83, some 84, some 2] (by rfl) (by rfl) W.heap.size (fun i8 => match i8 with | 0 => .pointer (some ⟨w.heap.size, 2, none⟩) | 1 => .slice (some ⟨g, o, none⟩) xs.length c | 2 => .pointer (some ⟨w.heap.size, 5, none⟩) | 3 => .int .i64 (a : Int) | 4 => .pointer (some ⟨g, o + a, none⟩) | 5 => .int .i8 y0 | 6 => .bool false | 7 => .bool false | 19 => .bool false | 20 => .bool false | 34 => .bool false | 35 => .bool false | _ => undef) (fun _ => none) ?hstep ?hend
   case hstep =>
    intro i9 o9 f9 W2 ho hi hC hf K hK
    have hi : i9 < 36 := hi
    rcases i9 with _ | _ | _ | _ | _ | _ | _ | _ | _ | _ | _ | _ | _ | _ | _ | _ | _ | _ | _ | _ | _ | _ | _ | _ | _ | _ | _ | _ | _ | _ | _ | _ | _ | _ | _ | _ | i9
    ·exact st_field (og ho) 26 (.tmp 1) 1 (oo ho) (rd_out rfl rfl) (n := 2) (by kernel_rfl) (kk hK)
    ·exact st_loadS (og ho) 24 (.tmp 50) (oo ho) (ri 0 (da ho hf 0)) (by kernel_rfl) (((hA5.call hC).cells 2)) (kk hK)
    ·exact st_field (og ho) 26 (.tmp 1) 4 (oo ho) (rd_out rfl rfl) (n := 5) (by kernel_rfl) (kk hK)
    ·exact st_loadS (og ho) 3 (.tmp 52) (oo ho) (ri 2 (da ho hf 2)) (by kernel_rfl) (((hA5.call hC).cells 5)) (kk hK)
    ·exact st_index (og ho) 24 (.tmp 51) (.tmp 53) (oo ho) (ri 1 (da ho hf 1)) (ri 3 (da ho hf 3)) (index25 W2 g o xs.length c a m0) (kk hK)
    ·exact st_loadS (og ho) 38 (.tmp 54) (oo ho) (ri 4 (da ho hf 4)) (by kernel_rfl) ((hC.cell (p := ⟨g, o + a, none⟩) hgl5).trans r1) (kk hK)
    ·exact st_bin (og ho) .eql 38 38 (.tmp 55) (.const (.int .i8 0)) (oo ho) (ri 5 (da ho hf 5)) rfl (gu_i _ _ _ _ _ _ _ _) (bin8_eqlE c1) (kk hK)
    ·exact st_move (og ho) (.tmp 56) (oo ho) (ri 6 (da ho hf 6)) (kk hK)
    iterate 11 exact skip_gd (uw ho (dg ho hf 7)) (kk hK)
    ·exact st_pickF (og ho) (.tmp 57) (.tmp 68) (.const (.bool false)) (oo ho) (ri 7 (da ho hf 7)) rfl (kk hK)
    ·exact st_move (og ho) (.tmp 69) (oo ho) (ri 19 (da ho hf 19)) (kk hK)
    iterate 13 exact skip_gd (uw ho (dg ho hf 20)) (kk hK)
    ·exact st_pickF (og ho) (.tmp 70) (.tmp 83) (.const (.bool false)) (oo ho) (ri 20 (da ho hf 20)) rfl (kk hK)
    ·exact st_assign (og ho) (.tmp 84) (oo ho) (ri 34 (da ho hf 34)) (kk hK)
    ·omega
   case hend =>
    intro f9 W2 hC hf
    go_wp2_with fail
    refine bodyPost_ret (results_tmp (fn := Tryz.f43) Tryz.results43 _ _ _) (by rw [putL_defers]) ?_
    refine ⟨?_, below_call hB5 hB5.size hC⟩
    rw [slot_in rfl 35 rfl (by simp) (hf 35 (by decide)), e0.out]
    rfl
  rcases c2 : (y2 == 0) with _ | _
  ·have e0 : Hid (V = false) := Lib.hid (by rw [hVd.out, c1, c2]; rfl)
   refine wp_region_vl (by kernel_rfl) (by kernel_rfl) [some 50, some 51, some 52, some 53, some 54, some 55, some 56, some 57, some 58, some 59, some 60, some 61, some 62, some 63, some 64, some 65, some 66, some 67, some 68, some 69, some 70, some 71, some 72, some 73, some 74, some 75, some 76, some 77, some 78, some 79, some 80, some 81, some 82, some 83, some 84, some 2] (by rfl) (by rfl) W.heap.size (fun i8 => match i8 with | 0 => .pointer (some ⟨w.heap.size, 2, none⟩) | 1 => .slice (some ⟨g, o, none⟩) xs.length c | 2 => .pointer (some ⟨w.heap.size, 5, none⟩) | 3 => .int .i64 (a : Int) | 4 => .pointer (some ⟨g, o + a, none⟩) | 5 => .int .i8 y0 | 6 => .bool true | 7 => .bool true | 8 => .pointer (some ⟨w.heap.size, 2, none⟩) | 9 => .slice (some ⟨g, o, none⟩) xs.length c | 10 => .pointer (some ⟨w.heap.size, 0, none⟩) | 11 => .agg [.int .i64 (F : Int), .int .i64 (R : Int)].toArray | 12 => .pointer (some ⟨qp, 0, none⟩) | 13 => .int .i64 (f0 : Int) | 14 => .int .i64 k2 | 15 => .int .i64 (s2 : Nat) | 16 => .pointer (some ⟨g, o + s2, none⟩) | 17 => .int .i8 y2 | 18 => .bool false | 19 => .bool false | 20 => .bool false | 34 => .bool false | 35 => .bool false | _ => undef) (fun _ => none) ?hstep ?hend
   case hstep =>
    intro i9 o9 f9 W2 ho hi hC hf K hK
    have hi : i9 < 36 := hi
    rcases i9 with _ | _ | _ | _ | _ | _ | _ | _ | _ | _ | _ | _ | _ | _ | _ | _ | _ | _ | _ | _ | _ | _ | _ | _ | _ | _ | _ | _ | _ | _ | _ | _ | _ | _ | _ | _ | i9
    ·exact st_field (og ho) 26 (.tmp 1) 1 (oo ho) (rd_out rfl rfl) (n := 2) (by kernel_rfl) (kk hK)
    ·exact st_loadS (og ho) 24 (.tmp 50) (oo ho) (ri 0 (da ho hf 0)) (by kernel_rfl) (((hA5.call hC).cells 2)) (kk hK)
    ·exact st_field (og ho) 26 (.tmp 1) 4 (oo ho) (rd_out rfl rfl) (n := 5) (by kernel_rfl) (kk hK)
    ·exact st_loadS (og ho) 3 (.tmp 52) (oo ho) (ri 2 (da ho hf 2)) (by kernel_rfl) (((hA5.call hC).cells 5)) (kk hK)
    ·exact st_index (og ho) 24 (.tmp 51) (.tmp 53) (oo ho) (ri 1 (da ho hf 1)) (ri 3 (da ho hf 3)) (index25 W2 g o xs.length c a m0) (kk hK)
    ·exact st_loadS (og ho) 38 (.tmp 54) (oo ho) (ri 4 (da ho hf 4)) (by kernel_rfl) ((hC.cell (p := ⟨g, o + a, none⟩) hgl5).trans r1) (kk hK)
    ·exact st_bin (og ho) .eql 38 38 (.tmp 55) (.const (.int .i8 0)) (oo ho) (ri 5 (da ho hf 5)) rfl (gu_i _ _ _ _ _ _ _ _) (bin8_eqlE c1) (kk hK)
    ·exact st_move (og ho) (.tmp 56) (oo ho) (ri 6 (da ho hf 6)) (kk hK)
    ·exact gd (wo ho (dg ho hf 7)) (st_field rfl 26 (.tmp 1) 1 (oo ho) (rd_out rfl rfl) (n := 2) (by kernel_rfl) (kk hK))
    ·exact gd (wo ho (dg ho hf 7)) (st_loadS rfl 24 (.tmp 58) (oo ho) (ri 8 (da ho hf 8)) (by kernel_rfl) (((hA5.call hC).cells 2)) (kk hK))
    ·exact gd (wo ho (dg ho hf 7)) (st_field rfl 26 (.tmp 1) 0 (oo ho) (rd_out rfl rfl) (n := 0) (by kernel_rfl) (kk hK))
    ·exact gd (wo ho (dg ho hf 7)) (st_loadA rfl 23 (.tmp 60) (oo ho) (ri 10 (da ho hf 10)) [.int .i64 (F : Int), .int .i64 (R : Int)] (by kernel_rfl) (fun j v hv => by rw [Nat.zero_add, (hA5.call hC).cells j]; rcases (by have := (List.getElem?_eq_some_iff.1 hv).1; simp at this; omega : j = 0 ∨ j = 1) with rfl | rfl <;> simpa using hv) (kk hK))
    ·exact gd (wo ho (dg ho hf 7)) (st_field rfl 85 (.tmp 4) 0 (oo ho) (rd_out rfl rfl) (n := 0) (by kernel_rfl) (kk hK))
    ·exact gd (wo ho (dg ho hf 7)) (st_loadS rfl 3 (.tmp 62) (oo ho) (ri 12 (da ho hf 12)) (by kernel_rfl) (((hQ5.call hC).cells 0)) (kk hK))
    ·exact gd (wo ho (dg ho hf 7)) (st_move rfl (.tmp 5) (oo ho) (rd_out rfl rfl) (kk hK))
    ·exact gd (wo ho (dg ho hf 7)) (st_call3 rfl 46 (.tmp 61) (.tmp 63) (.tmp 64) #[23, 3, 3] (oo ho) (ri 11 (da ho hf 11)) (ri 13 (da ho hf 13)) (ri 14 (da ho hf 14)) (fun _ _ => rfl) (hn2 W2) (by rintro u w9 ⟨h9, hb9⟩; injection h9 with h9; subst h9; exact hK _ _ hb9 rfl) (fun _ _ h => nomatch h.1) (fun _ h => nomatch h.1))
    ·exact gd (wo ho (dg ho hf 7)) (st_index rfl 24 (.tmp 59) (.tmp 65) (oo ho) (ri 9 (da ho hf 9)) (ri 15 (da ho hf 15)) (index25 W2 g o xs.length c s2 m2) (kk hK))
    ·exact gd (wo ho (dg ho hf 7)) (st_loadS rfl 38 (.tmp 66) (oo ho) (ri 16 (da ho hf 16)) (by kernel_rfl) ((hC.cell (p := ⟨g, o + s2, none⟩) hgl5).trans r2) (kk hK))
    ·exact gd (wo ho (dg ho hf 7)) (st_bin rfl .eql 38 38 (.tmp 67) (.const (.int .i8 0)) (oo ho) (ri 17 (da ho hf 17)) rfl (gu_i _ _ _ _ _ _ _ _) (bin8_eqlE c2) (kk hK))
    ·exact st_pickT (og ho) (.tmp 57) (.tmp 68) (.const (.bool false)) (oo ho) (ri 7 (da ho hf 7)) (ri 18 (da ho hf 18)) (kk hK)
    ·exact st_move (og ho) (.tmp 69) (oo ho) (ri 19 (da ho hf 19)) (kk hK)
    iterate 13 exact skip_gd (uw ho (dg ho hf 20)) (kk hK)
    ·exact st_pickF (og ho) (.tmp 70) (.tmp 83) (.const (.bool false)) (oo ho) (ri 20 (da ho hf 20)) rfl (kk hK)
    ·exact st_assign (og ho) (.tmp 84) (oo ho) (ri 34 (da ho hf 34)) (kk hK)
    ·omega
   case hend =>
    intro f9 W2 hC hf
    go_wp2_with fail
    refine bodyPost_ret (results_tmp (fn := Tryz.f43) Tryz.results43 _ _ _) (by rw [putL_defers]) ?_
    refine ⟨?_, below_call hB5 hB5.size hC⟩
    rw [slot_in rfl 35 rfl (by simp) (hf 35 (by decide)), e0.out]
    rfl
  ·obtain ⟨d, c3⟩ : ∃ d, (y4 == pc) = d := ⟨_, rfl⟩
   have e0 : Hid (V = d) := Lib.hid (by rw [hVd.out, c1, c2, c3]; rfl)
   refine wp_region_vl (by kernel_rfl) (by kernel_rfl) [some 50, some 51, some 52, some 53, some 54, some 55, some 56, some 57, some 58, some 59, some 60, some 61, some 62, some 63, some 64, some 65, some 66, some 67, some 68, some 69, some 70, some 71, some 72, some 73, some 74, some 75, some 76, some 77, some 78, some 79, some 80, some 81, some 82, some 83, some 84, some 2] (by rfl) (by rfl) W.heap.size (fun i8 => match i8 with | 0 => .pointer (some ⟨w.heap.size, 2, none⟩) | 1 => .slice (some ⟨g, o, none⟩) xs.length c | 2 => .pointer (some ⟨w.heap.size, 5, none⟩) | 3 => .int .i64 (a : Int) | 4 => .pointer (some ⟨g, o + a, none⟩) | 5 => .int .i8 y0 | 6 => .bool true | 7 => .bool true | 8 => .pointer (some ⟨w.heap.size, 2, none⟩) | 9 => .slice (some ⟨g, o, none⟩) xs.length c | 10 => .pointer (some ⟨w.heap.size, 0, none⟩) | 11 => .agg [.int .i64 (F : Int), .int .i64 (R : Int)].toArray | 12 => .pointer (some ⟨qp, 0, none⟩) | 13 => .int .i64 (f0 : Int) | 14 => .int .i64 k2 | 15 => .int .i64 (s2 : Nat) | 16 => .pointer (some ⟨g, o + s2, none⟩) | 17 => .int .i8 y2 | 18 => .bool true | 19 => .bool true | 20 => .bool true | 21 => .pointer (some ⟨w.heap.size, 2, none⟩) | 22 => .slice (some ⟨g, o, none⟩) xs.length c | 23 => .pointer (some ⟨w.heap.size, 0, none⟩) | 24 => .agg [.int .i64 (F : Int), .int .i64 (R : Int)].toArray | 25 => .pointer (some ⟨qp, 0, none⟩) | 26 => .int .i64 (f0 : Int) | 27 => .int .i64 k4 | 28 => .int .i64 (s4 : Nat) | 29 => .pointer (some ⟨g, o + s4, none⟩) | 30 => .int .i8 y4 | 31 => .bool (!bl) | 32 => .int .i8 pc | 33 => .bool d | 34 => .bool d | 35 => .bool d | _ => undef) (fun _ => none) ?hstep ?hend
   case hstep =>
    intro i9 o9 f9 W2 ho hi hC hf K hK
    have hi : i9 < 36 := hi
    rcases i9 with _ | _ | _ | _ | _ | _ | _ | _ | _ | _ | _ | _ | _ | _ | _ | _ | _ | _ | _ | _ | _ | _ | _ | _ | _ | _ | _ | _ | _ | _ | _ | _ | _ | _ | _ | _ | i9
    ·exact st_field (og ho) 26 (.tmp 1) 1 (oo ho) (rd_out rfl rfl) (n := 2) (by kernel_rfl) (kk hK)
    ·exact st_loadS (og ho) 24 (.tmp 50) (oo ho) (ri 0 (da ho hf 0)) (by kernel_rfl) (((hA5.call hC).cells 2)) (kk hK)
    ·exact st_field (og ho) 26 (.tmp 1) 4 (oo ho) (rd_out rfl rfl) (n := 5) (by kernel_rfl) (kk hK)
    ·exact st_loadS (og ho) 3 (.tmp 52) (oo ho) (ri 2 (da ho hf 2)) (by kernel_rfl) (((hA5.call hC).cells 5)) (kk hK)
    ·exact st_index (og ho) 24 (.tmp 51) (.tmp 53) (oo ho) (ri 1 (da ho hf 1)) (ri 3 (da ho hf 3)) (index25 W2 g o xs.length c a m0) (kk hK)
    ·exact st_loadS (og ho) 38 (.tmp 54) (oo ho) (ri 4 (da ho hf 4)) (by kernel_rfl) ((hC.cell (p := ⟨g, o + a, none⟩) hgl5).trans r1) (kk hK)
    ·exact st_bin (og ho) .eql 38 38 (.tmp 55) (.const (.int .i8 0)) (oo ho) (ri 5 (da ho hf 5)) rfl (gu_i _ _ _ _ _ _ _ _) (bin8_eqlE c1) (kk hK)
    ·exact st_move (og ho) (.tmp 56) (oo ho) (ri 6 (da ho hf 6)) (kk hK)
    ·exact gd (wo ho (dg ho hf 7)) (st_field rfl 26 (.tmp 1) 1 (oo ho) (rd_out rfl rfl) (n := 2) (by kernel_rfl) (kk hK))
    ·exact gd (wo ho (dg ho hf 7)) (st_loadS rfl 24 (.tmp 58) (oo ho) (ri 8 (da ho hf 8)) (by kernel_rfl) (((hA5.call hC).cells 2)) (kk hK))
    ·exact gd (wo ho (dg ho hf 7)) (st_field rfl 26 (.tmp 1) 0 (oo ho) (rd_out rfl rfl) (n := 0) (by kernel_rfl) (kk hK))
    ·exact gd (wo ho (dg ho hf 7)) (st_loadA rfl 23 (.tmp 60) (oo ho) (ri 10 (da ho hf 10)) [.int .i64 (F : Int), .int .i64 (R : Int)] (by kernel_rfl) (fun j v hv => by rw [Nat.zero_add, (hA5.call hC).cells j]; rcases (by have := (List.getElem?_eq_some_iff.1 hv).1; simp at this; omega : j = 0 ∨ j = 1) with rfl | rfl <;> simpa using hv) (kk hK))
    ·exact gd (wo ho (dg ho hf 7)) (st_field rfl 85 (.tmp 4) 0 (oo ho) (rd_out rfl rfl) (n := 0) (by kernel_rfl) (kk hK))
    ·exact gd (wo ho (dg ho hf 7)) (st_loadS rfl 3 (.tmp 62) (oo ho) (ri 12 (da ho hf 12)) (by kernel_rfl) (((hQ5.call hC).cells 0)) (kk hK))
    ·exact gd (wo ho (dg ho hf 7)) (st_move rfl (.tmp 5) (oo ho) (rd_out rfl rfl) (kk hK))
    ·exact gd (wo ho (dg ho hf 7)) (st_call3 rfl 46 (.tmp 61) (.tmp 63) (.tmp 64) #[23, 3, 3] (oo ho) (ri 11 (da ho hf 11)) (ri 13 (da ho hf 13)) (ri 14 (da ho hf 14)) (fun _ _ => rfl) (hn2 W2) (by rintro u w9 ⟨h9, hb9⟩; injection h9 with h9; subst h9; exact hK _ _ hb9 rfl) (fun _ _ h => nomatch h.1) (fun _ h => nomatch h.1))
    ·exact gd (wo ho (dg ho hf 7)) (st_index rfl 24 (.tmp 59) (.tmp 65) (oo ho) (ri 9 (da ho hf 9)) (ri 15 (da ho hf 15)) (index25 W2 g o xs.length c s2 m2) (kk hK))
    ·exact gd (wo ho (dg ho hf 7)) (st_loadS rfl 38 (.tmp 66) (oo ho) (ri 16 (da ho hf 16)) (by kernel_rfl) ((hC.cell (p := ⟨g, o + s2, none⟩) hgl5).trans r2) (kk hK))
    ·exact gd (wo ho (dg ho hf 7)) (st_bin rfl .eql 38 38 (.tmp 67) (.const (.int .i8 0)) (oo ho) (ri 17 (da ho hf 17)) rfl (gu_i _ _ _ _ _ _ _ _) (bin8_eqlE c2) (kk hK))
    ·exact st_pickT (og ho) (.tmp 57) (.tmp 68) (.const (.bool false)) (oo ho) (ri 7 (da ho hf 7)) (ri 18 (da ho hf 18)) (kk hK)
    ·exact st_move (og ho) (.tmp 69) (oo ho) (ri 19 (da ho hf 19)) (kk hK)
    ·exact gd (wo ho (dg ho hf 20)) (st_field rfl 26 (.tmp 1) 1 (oo ho) (rd_out rfl rfl) (n := 2) (by kernel_rfl) (kk hK))
    ·exact gd (wo ho (dg ho hf 20)) (st_loadS rfl 24 (.tmp 71) (oo ho) (ri 21 (da ho hf 21)) (by kernel_rfl) (((hA5.call hC).cells 2)) (kk hK))
    ·exact gd (wo ho (dg ho hf 20)) (st_field rfl 26 (.tmp 1) 0 (oo ho) (rd_out rfl rfl) (n := 0) (by kernel_rfl) (kk hK))
    ·exact gd (wo ho (dg ho hf 20)) (st_loadA rfl 23 (.tmp 73) (oo ho) (ri 23 (da ho hf 23)) [.int .i64 (F : Int), .int .i64 (R : Int)] (by kernel_rfl) (fun j v hv => by rw [Nat.zero_add, (hA5.call hC).cells j]; rcases (by have := (List.getElem?_eq_some_iff.1 hv).1; simp at this; omega : j = 0 ∨ j = 1) with rfl | rfl <;> simpa using hv) (kk hK))
    ·exact gd (wo ho (dg ho hf 20)) (st_field rfl 85 (.tmp 4) 0 (oo ho) (rd_out rfl rfl) (n := 0) (by kernel_rfl) (kk hK))
    ·exact gd (wo ho (dg ho hf 20)) (st_loadS rfl 3 (.tmp 75) (oo ho) (ri 25 (da ho hf 25)) (by kernel_rfl) (((hQ5.call hC).cells 0)) (kk hK))
    ·exact gd (wo ho (dg ho hf 20)) (st_move rfl (.tmp 6) (oo ho) (rd_out rfl rfl) (kk hK))
    ·exact gd (wo ho (dg ho hf 20)) (st_call3 rfl 46 (.tmp 74) (.tmp 76) (.tmp 77) #[23, 3, 3] (oo ho) (ri 24 (da ho hf 24)) (ri 26 (da ho hf 26)) (ri 27 (da ho hf 27)) (fun _ _ => rfl) (hn4 W2) (by rintro u w9 ⟨h9, hb9⟩; injection h9 with h9; subst h9; exact hK _ _ hb9 rfl) (fun _ _ h => nomatch h.1) (fun _ h => nomatch h.1))
    ·exact gd (wo ho (dg ho hf 20)) (st_index rfl 24 (.tmp 72) (.tmp 78) (oo ho) (ri 22 (da ho hf 22)) (ri 28 (da ho hf 28)) (index25 W2 g o xs.length c s4 m4) (kk hK))
    ·exact gd (wo ho (dg ho hf 20)) (st_loadS rfl 38 (.tmp 79) (oo ho) (ri 29 (da ho hf 29)) (by kernel_rfl) ((hC.cell (p := ⟨g, o + s4, none⟩) hgl5).trans r4) (kk hK))
    ·exact gd (wo ho (dg ho hf 20)) (st_move rfl (.tmp 3) (oo ho) (rd_out rfl rfl) (kk hK))
    ·exact gd (wo ho (dg ho hf 20)) (st_call2 rfl 103 (.const (.int .i8 1)) (.tmp 81) #[38, 4] (oo ho) rfl (ri 31 (da ho hf 31)) (fun _ _ => rfl) (hpc W2) (by rintro u w9 ⟨h9, h10⟩; injection h9 with h9; subst h9; subst h10; exact hK _ _ (Below.refl _ _) rfl) (fun _ _ h => nomatch h.1) (fun _ h => nomatch h.1))
    ·exact gd (wo ho (dg ho hf 20)) (st_bin rfl .eql 38 38 (.tmp 80) (.tmp 82) (oo ho) (ri 30 (da ho hf 30)) (ri 32 (da ho hf 32)) (gu_i _ _ _ _ _ _ _ _) (bin8_eqlE c3) (kk hK))
    ·exact st_pickT (og ho) (.tmp 70) (.tmp 83) (.const (.bool false)) (oo ho) (ri 20 (da ho hf 20)) (ri 33 (da ho hf 33)) (kk hK)
    ·exact st_assign (og ho) (.tmp 84) (oo ho) (ri 34 (da ho hf 34)) (kk hK)
    ·omega
   case hend =>
    intro f9 W2 hC hf
    go_wp2_with fail
    refine bodyPost_ret (results_tmp (fn := Tryz.f43) Tryz.results43 _ _ _) (by rw [putL_defers]) ?_
    refine ⟨?_, below_call hB5 hB5.size hC⟩
    rw [slot_in rfl 35 rfl (by simp) (hf 35 (by decide)), e0.out]
    rfl
end Go.Proofs.YtefmplccbkmalaaGreatDoor
