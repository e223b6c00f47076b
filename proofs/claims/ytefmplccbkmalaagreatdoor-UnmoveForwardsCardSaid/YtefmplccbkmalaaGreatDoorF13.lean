import Derived.Test.YtefmplccbkmalaaGreatDoorF09
import Derived.Test.YtefmplccbkmalaaGreatDoorF12
set_option maxHeartbeats 12800000
namespace Go.Proofs.YtefmplccbkmalaaGreatDoor
open Go.RowKit Go.Sort Go.BigFrame

def rankI (r : Int) (b : Bool) (k : Int) : Int := if b then r - k else k - 1
theorem refRank_v (f r k : Int) (b : Bool) (hr : 0 ≤ r ∧ r ≤ 1000) (hk : 0 ≤ k ∧ k ≤ 1000) (w : World) : Calls Tryz.prog 102 #[.agg #[.int .i64 f, .int .i64 r], .bool b, .int .i64 k] w fun e w' => e = .returned (.int .i64 (rankI r b k)) ∧ Below w.heap.size w w' := refRank_any f r k b hr hk w
def lastI (r : Int) (b : Bool) : Int := if b then 0 else r - 1
theorem refLast_v (f r : Int) (b : Bool) (hr : 0 ≤ r ∧ r ≤ 1000) (w : World) : Calls Tryz.prog 41 #[.agg #[.int .i64 f, .int .i64 r], .bool b] w fun e w' => e = .returned (.int .i64 (lastI r b)) ∧ Below w.heap.size w w' := refLast_any f r b hr w
def sqN (F : Nat) (f0 : Nat) (k : Int) : Nat := k.toNat * F + f0
def psB (F R : Nat) (xs : List Int) (bl : Bool) (a : Nat) : Bool :=
 (2 * ((a / F : Nat) : Int) == rankI R (!bl) 2 + rankI R (!bl) 4) && ((xs[a]?.getD 0 == 0) && ((xs[sqN F (a % F) (rankI R (!bl) 2)]?.getD 0 == 0) && (xs[sqN F (a % F) (rankI R (!bl) 4)]?.getD 0 == pcI 1 (!bl))))
def passB (F R : Nat) (xs : List Int) (bl : Bool) (pa ha : Int) : Bool :=
 (pa == -1) || (!decide ((R : Int) < 6) && ((ha == 0) && (sqB F R pa && psB F R xs bl pa.toNat)))
theorem rankI_bd {R : Nat} (hR : 6 ≤ R ∧ R ≤ 8) (b : Bool) (k : Int) (hk : k = 2 ∨ k = 4) : 0 ≤ rankI R b k ∧ rankI R b k < R := by
 unfold rankI; cases b <;> rcases hk with rfl | rfl <;> simp <;> omega
theorem numI_in {F R f0 : Nat} {k : Int} (hf : f0 < F) (hk : 0 ≤ k ∧ k < R) : numI F R f0 k = (sqN F f0 k : Nat) := by
 unfold numI sqN
 rw [if_neg (by omega)]
 obtain ⟨n, rfl⟩ : ∃ n : Nat, k = n := ⟨k.toNat, by omega⟩
 simp
theorem sqN_lt {F R f0 : Nat} {k : Int} (hf : f0 < F) (hk : 0 ≤ k ∧ k < R) : sqN F f0 k < F * R := by
 unfold sqN
 have h1 : k.toNat + 1 ≤ R := by omega
 have h2 := Nat.mul_le_mul_right F h1
 rw [Nat.add_mul, Nat.one_mul, Nat.mul_comm R F] at h2
 omega
set_option maxRecDepth 100000 in
theorem refPassant_any (F R : Nat) (ca pa ha fu : Int) (bl : Bool) (p : Option Addr) (c : Nat) (xs : List Int) (hF : 3 ≤ F ∧ F ≤ 8) (hR : 3 ≤ R ∧ R ≤ 8) (hlen : xs.length = F * R) (w : World) (hx : Arr .i8 w p xs) :
  Calls Tryz.prog 43 #[.agg (posCs F R p xs.length c bl ca pa ha fu).toArray] w fun e w' => e = .returned (.bool (passB F R xs bl pa ha)) ∧ Below w.heap.size w w' := by
 have hB := below_box w (.cells (posCs F R p xs.length c bl ca pa ha fu).toArray 26)
 have hA := HasO.new w (.cells (posCs F R p xs.length c bl ca pa ha fu).toArray 26)
 have hc0 := hA.cells
 have hl0 := hA.lt
 by_cases h1 : pa = -1
 ·have e0 : Hid (passB F R xs bl pa ha = true) := Lib.hid (by simp [passB, h1])
  have d1 : (pa == -1) = true := by simp [h1]
  replace h1 := Lib.hid h1
  replace hlen := Lib.hid hlen
  go_enter Tryz.func43, Tryz.ntmps43
  go_wp2_with fail
  go_ret
  exact ⟨by rw [e0.out]; rfl, hB⟩
 have d1 : (pa == -1) = false := by simp [h1]
 by_cases h2 : (R : Int) < 6
 ·have e0 : Hid (passB F R xs bl pa ha = false) := Lib.hid (by simp [passB, h1, h2])
  replace hlen := Lib.hid hlen
  go_enter Tryz.func43, Tryz.ntmps43
  go_wp2_with fail
  go_ret
  exact ⟨by rw [e0.out]; rfl, hB⟩
 by_cases h3 : ha = 0
 rotate_left
 ·have e0 : Hid (passB F R xs bl pa ha = false) := Lib.hid (by simp [passB, h1, h3])
  have d3 : (ha != 0) = true := by simp [h3]
  replace hlen := Lib.hid hlen
  go_enter Tryz.func43, Tryz.ntmps43
  go_wp2_with fail
  go_ret
  exact ⟨by rw [e0.out]; rfl, hB⟩
 have d3 : (ha != 0) = false := by simp [h3]
 have hsv := fun W => refSqValid_any F R pa W
 rcases h4 : sqB F R pa with _ | _
 ·have e0 : Hid (passB F R xs bl pa ha = false) := Lib.hid (by simp [passB, h1, h4])
  rw [h4] at hsv
  replace hlen := Lib.hid hlen
  replace h3 := Lib.hid h3
  go_enter Tryz.func43, Tryz.ntmps43
  go_wp2_with fail
  refine (hsv _).mono ?_
  rintro e w2 ⟨rfl, hb2⟩
  go_wp2_with fail
  go_ret
  exact ⟨by rw [e0.out]; rfl, below_call hB hB.size hb2⟩
 obtain ⟨a, rfl⟩ : ∃ a : Nat, pa = a := ⟨pa.toNat, by simp [sqB] at h4; omega⟩
 have haF : a < F * R := by
  simp [sqB] at h4
  have := h4.2
  rw [← Int.natCast_mul] at this
  omega
 have hV : passB F R xs bl a ha = psB F R xs bl a := by
  have : ¬ ((R : Int) < 6) := h2
  unfold passB
  rw [d1, h4, Int.toNat_natCast, h3]
  simp [this]
 rw [h4] at hsv
 rw [hV]
 subst h3
 obtain ⟨ha64, ha0, ha1⟩ := sq_bd hF hR haF
 have hR6 : 6 ≤ R ∧ R ≤ 8 := by omega
 have hr2 := rankI_bd hR6 (!bl) 2 (.inl rfl)
 have hr4 := rankI_bd hR6 (!bl) 4 (.inr rfl)
 have n2 := numI_in ha0 hr2
 have n4 := numI_in ha0 hr4
 have m2 := sqN_lt ha0 hr2
 have m4 := sqN_lt ha0 hr4
 rw [← hlen] at m2 m4
 have m0 : a < xs.length := by omega
 obtain ⟨V, hVV⟩ : ∃ V, V = psB F R xs bl a := ⟨_, rfl⟩
 have hVd : V = ((2 * ((a / F : Nat) : Int) == rankI R (!bl) 2 + rankI R (!bl) 4) && ((xs[a]?.getD 0 == 0) && ((xs[sqN F (a % F) (rankI R (!bl) 2)]?.getD 0 == 0) && (xs[sqN F (a % F) (rankI R (!bl) 4)]?.getD 0 == pcI 1 (!bl))))) := hVV
 rw [← hVV]
 obtain ⟨g, o, rfl, hgl, hcc⟩ := (hx.call hB).at m0
 have hc1 := hcc _ m0
 have hc2 := hcc _ m2
 have hc4 := hcc _ m4
 have hpl := fun W => refPlace_any F R a hF (by omega) W
 have hk2 := fun W => refRank_v F R 2 (!bl) (by omega) (by omega) W
 have hk4 := fun W => refRank_v F R 4 (!bl) (by omega) (by omega) W
 have hn2 := fun W => refNumber_v F R ((a % F : Nat) : Int) (rankI R (!bl) 2) W (by omega) (by omega) (by omega)
 have hn4 := fun W => refNumber_v F R ((a % F : Nat) : Int) (rankI R (!bl) 4) W (by omega) (by omega) (by omega)
 have hpc := fun W => refPiece_any 1 (!bl) (by omega) W
 rw [n2] at hn2
 rw [n4] at hn4
 clear hVV hV n2 n4 hcc h4 hx
 generalize xs[a]?.getD 0 = y0, xs[sqN F (a % F) (rankI R (!bl) 2)]?.getD 0 = y2, xs[sqN F (a % F) (rankI R (!bl) 4)]?.getD 0 = y4 at *
 generalize sqN F (a % F) (rankI R (!bl) 2) = s2, sqN F (a % F) (rankI R (!bl) 4) = s4 at *
 generalize rankI R (!bl) 2 = k2, rankI R (!bl) 4 = k4 at *
 generalize a % F = f0 at *
 have hr0n : (0 : Int) ≤ ((a / F : Nat) : Int) := Int.natCast_nonneg _
 have hr0b : ((a / F : Nat) : Int) < R := by omega
 generalize a / F = r0 at *
 generalize pcI 1 (!bl) = pc at *
 have w1' : wrap64 (2 * (r0 : Int)) = 2 * r0 := IntWalk.wrap64_in _ (by omega)
 have w2' : wrap64 (k2 + k4) = k2 + k4 := IntWalk.wrap64_in _ (by omega)
 replace hlen := Lib.hid hlen
 go_enter Tryz.func43, Tryz.ntmps43
 go_wp2_with fail
 refine (hsv _).mono ?_
 rintro e w2 ⟨rfl, hb2⟩
 have hA2 := hA.call hb2
 have hB2 := below_call hB hB.size hb2
 have hgl2 : g < w2.heap.size := Nat.lt_of_lt_of_le hgl hb2.size
 have q1 := (hb2.cell (p := ⟨g, o + a, none⟩) hgl).trans hc1
 have q2 := (hb2.cell (p := ⟨g, o + s2, none⟩) hgl).trans hc2
 have q4 := (hb2.cell (p := ⟨g, o + s4, none⟩) hgl).trans hc4
 clear hA hB hb2 hgl hc1 hc2 hc4 hc0 hl0 hsv
 have hcA := hA2.cells
 have hlA := hA2.lt
 go_wp2_with fail
 refine (hpl _).mono ?_
 rintro e w3 ⟨rfl, hb3⟩
 have hA3 := hA2.call hb3
 have hB3 := below_call hB2 hB2.size hb3
 have hgl3 : g < w3.heap.size := Nat.lt_of_lt_of_le hgl2 hb3.size
 have p1 := (hb3.cell (p := ⟨g, o + a, none⟩) hgl2).trans q1
 have p2 := (hb3.cell (p := ⟨g, o + s2, none⟩) hgl2).trans q2
 have p4 := (hb3.cell (p := ⟨g, o + s4, none⟩) hgl2).trans q4
 clear hA2 hB2 hb3 hgl2 q1 q2 q4 hcA hlA hpl
 go_wp2_with fail
 show Code.wp _ _ _ _ (w3.alloc (.cells #[.int .i64 (f0 : Int), .int .i64 (r0 : Int)] 85))
 have hb4 := below_box w3 (.cells #[.int .i64 (f0 : Int), .int .i64 (r0 : Int)] 85)
 have hQ4 := HasO.new w3 (.cells #[.int .i64 (f0 : Int), .int .i64 (r0 : Int)] 85)
 obtain ⟨w4, hw4⟩ : ∃ x, x = w3.alloc (.cells #[.int .i64 (f0 : Int), .int .i64 (r0 : Int)] 85) := ⟨_, rfl⟩
 rw [← hw4] at hb4 hQ4 ⊢
 clear hw4
 have hA4 := hA3.call hb4
 have hB4 := below_call hB3 hB3.size hb4
 have hgl4 : g < w4.heap.size := Nat.lt_of_lt_of_le hgl3 hb4.size
 have o1 := (hb4.cell (p := ⟨g, o + a, none⟩) hgl3).trans p1
 have o2 := (hb4.cell (p := ⟨g, o + s2, none⟩) hgl3).trans p2
 have o4 := (hb4.cell (p := ⟨g, o + s4, none⟩) hgl3).trans p4
 clear hA3 hB3 hb4 hgl3 p1 p2 p4
 obtain ⟨qp, hqp⟩ : ∃ x, x = w3.heap.size := ⟨_, rfl⟩
 rw [← hqp] at hQ4 ⊢
 clear hqp
 have m1 := row_gr hA4
 have m3 := row_gr hQ4
 have t1 := call_gr (w := w4) (fun W _ => hk2 W)
 have t2 := call_gr (w := w4) (fun W _ => hk4 W)
 refine wp_region_all (by kernel_rfl) (by kernel_rfl) ?_
 repeat (go_big_quiet_step (first | with_reducible exact t1 _ _ | with_reducible exact t2 _ _ | fail))
 refine wpQuiet_nil ?_
 intro W hC
 clear m1 m3 t1 t2
 have hA5 := hA4.call hC
 have hQ5 := hQ4.call hC
 have hB5 := below_call hB4 hB4.size hC
 have hgl5 : g < W.heap.size := Nat.lt_of_lt_of_le hgl4 hC.size
 have r1 := (hC.cell (p := ⟨g, o + a, none⟩) hgl4).trans o1
 have r2 := (hC.cell (p := ⟨g, o + s2, none⟩) hgl4).trans o2
 have r4 := (hC.cell (p := ⟨g, o + s4, none⟩) hgl4).trans o4
 have hcA := hA5.cells
 have hlA := hA5.lt
 have hcQ := hQ5.cells
 have hlQ := hQ5.lt
 clear hA4 hB4 hgl4 o1 o2 o4 hQ4 hC hk2 hk4
 rcases c0 : (2 * (r0 : Int) == k2 + k4) with _ | _
 ·have e0 : Hid (V = false) := Lib.hid (by rw [hVd, c0]; rfl)
  have c0' : (2 * (r0 : Int) != k2 + k4) = true := by simp only [bne, c0]; rfl
  go_wp2_with fail
  go_ret
  exact ⟨by rw [e0.out]; rfl, hB5⟩
 have c0' : (2 * (r0 : Int) != k2 + k4) = false := by simp only [bne, c0]; rfl
 rw [c0, Bool.true_and] at hVd
 replace hVd := Lib.hid hVd
 clear w1' w2'
 replace c0 := Lib.hid c0
 go_wp2_with fail
 replace c0' := Lib.hid c0'
 clear hcA hlA hcQ hlQ
 rcases c1 : (y0 == 0) with _ | _
 ·have e0 : Hid (V = false) := Lib.hid (by rw [hVd.out, c1]; rfl)
  have n1 := row_gr hA5
  have n2 := row_gr hQ5
  have n3 := cell_regrown r1
  have n4 := cell_regrown r2
  have n5 := cell_regrown r4
  have t1 := call_gr (w := W) (fun W _ => hn2 W)
  have t2 := call_gr (w := W) (fun W _ => hn4 W)
  have t3 := call_eq (w := W) (fun W => hpc W)
  refine wp_region_all (by kernel_rfl) (by kernel_rfl) ?_
  repeat (go_big_quiet_step (first | with_reducible exact t1 _ _ | with_reducible exact t2 _ _ | with_reducible exact t3 _ _ | fail))
  refine wpQuiet_nil ?_
  intro W2 hC
  clear n1 n2 n3 n4 n5 t1 t2 t3
  go_wp2_with fail
  go_ret
  exact ⟨by rw [e0.out]; rfl, below_call hB5 hB5.size hC⟩
 rcases c2 : (y2 == 0) with _ | _
 ·have e0 : Hid (V = false) := Lib.hid (by rw [hVd.out, c1, c2]; rfl)
  have n1 := row_gr hA5
  have n2 := row_gr hQ5
  have n3 := cell_regrown r1
  have n4 := cell_regrown r2
  have n5 := cell_regrown r4
  have t1 := call_gr (w := W) (fun W _ => hn2 W)
  have t2 := call_gr (w := W) (fun W _ => hn4 W)
  have t3 := call_eq (w := W) (fun W => hpc W)
  refine wp_region_all (by kernel_rfl) (by kernel_rfl) ?_
  repeat (go_big_quiet_step (first | with_reducible exact t1 _ _ | with_reducible exact t2 _ _ | with_reducible exact t3 _ _ | fail))
  refine wpQuiet_nil ?_
  intro W2 hC
  clear n1 n2 n3 n4 n5 t1 t2 t3
  go_wp2_with fail
  go_ret
  exact ⟨by rw [e0.out]; rfl, below_call hB5 hB5.size hC⟩
 ·obtain ⟨d, c3⟩ : ∃ d, (y4 == pc) = d := ⟨_, rfl⟩
  have e0 : Hid (V = d) := Lib.hid (by rw [hVd.out, c1, c2, c3]; rfl)
  have n1 := row_gr hA5
  have n2 := row_gr hQ5
  have n3 := cell_regrown r1
  have n4 := cell_regrown r2
  have n5 := cell_regrown r4
  have t1 := call_gr (w := W) (fun W _ => hn2 W)
  have t2 := call_gr (w := W) (fun W _ => hn4 W)
  have t3 := call_eq (w := W) (fun W => hpc W)
  refine wp_region_all (by kernel_rfl) (by kernel_rfl) ?_
  repeat (go_big_quiet_step (first | with_reducible exact t1 _ _ | with_reducible exact t2 _ _ | with_reducible exact t3 _ _ | fail))
  refine wpQuiet_nil ?_
  intro W2 hC
  clear n1 n2 n3 n4 n5 t1 t2 t3
  go_wp2_with fail
  go_ret
  exact ⟨by rw [e0.out]; rfl, below_call hB5 hB5.size hC⟩
section ops
variable {P : Program} {o : Oper} {a : Act} {w : World} {K : Act → World → Prop} {Q : Exit → Act → World → Prop} {t : Nat → Option Bool} {X : Prop}
end ops
theorem field99 (x y : Int) (W : World) : (Instr.field 85 (.agg #[.int .i64 x, .int .i64 y]) 1).run Tryz.prog W = .ok (.int .i64 y) W := by kernel_rfl
def lastK (F R : Nat) (xs : List Int) : Nat → Bool
 | 0 => true
 | k + 1 => lastK F R xs k && !((kindI (xs[k]?.getD 0) == 1) && (((k / F : Nat) : Int) == lastI R (decide (xs[k]?.getD 0 < 0))))
theorem lastK_le {F R : Nat} {xs : List Int} {k : Nat} (h : lastK F R xs k = false) : ∀ n, lastK F R xs (k + n) = false := by
 intro n
 induction n with
 | zero => exact h
 | succ n ih => rw [← Nat.add_assoc]; simp only [lastK, ih]; rfl
def pvN (F R : Nat) (xs : List Int) (bl : Bool) (ca pa ha fu : Int) : Bool :=
 !decide (kgI xs false < 0) && (!decide (kgI xs true < 0) && (!chkB F R xs (kgI xs (!bl)).toNat (!bl) && (lastK F R xs xs.length && (cstB F R xs ca && (passB F R xs bl pa ha && (decide (0 ≤ ha) && (decide (ha ≤ 10000) && (decide (1 ≤ fu) && decide (fu ≤ 10000)))))))))
def pvB (f r : Int) (xs : List Int) (bl : Bool) (ca pa ha fu : Int) : Bool := orthB f r xs && pvN f.toNat r.toNat xs bl ca pa ha fu
theorem kgI_bd (xs : List Int) (bl : Bool) : kgI xs bl = -1 ∨ ∃ k : Nat, kgI xs bl = k ∧ k < xs.length := by
 unfold kgI
 split
 ·rename_i h
  right
  have h0 : (kgL xs bl)[0]?.getD 0 ∈ kgL xs bl := by
   rw [List.getElem?_eq_getElem (by omega)]; exact List.getElem_mem _
  unfold kgL at h0 ⊢
  rw [idxs_mem] at h0
  obtain ⟨j, hj, _, e⟩ := h0
  exact ⟨j, e, hj⟩
 ·left; rfl
theorem orthB_fact {f r : Int} {xs : List Int} (h : orthB f r xs = true) : ∃ F R : Nat, f = F ∧ r = R ∧ (3 ≤ F ∧ F ≤ 8) ∧ (3 ≤ R ∧ R ≤ 8) ∧ xs.length = F * R ∧ (∀ x ∈ xs, pOk x = true) ∧ ∀ x ∈ xs, -6 ≤ x ∧ x ≤ 6 := by
 unfold orthB at h
 rw [Bool.and_eq_true] at h
 obtain ⟨h1, h2, h3⟩ := boardB_fact h.1
 obtain ⟨b1, b2, b3, b4⟩ := size_bd h1
 refine ⟨f.toNat, r.toNat, by omega, by omega, by omega, by omega, ?_, h3, ?_⟩
 ·have e1 : f = (f.toNat : Int) := by omega
  have e2 : r = (r.toNat : Int) := by omega
  rw [e1, e2, ← Int.natCast_mul] at h2
  omega
 ·intro x hx
  have := (List.all_eq_true.1 h.2) x hx
  simp [orB] at this
  exact this
set_option maxRecDepth 100000 in
theorem refPos_good (F R : Nat) (ca pa ha fu : Int) (bl : Bool) (p : Option Addr) (c : Nat) (xs : List Int) (hF : 3 ≤ F ∧ F ≤ 8) (hR : 3 ≤ R ∧ R ≤ 8) (hlen : xs.length = F * R) (hok : ∀ x ∈ xs, pOk x = true) (hor : orthB F R xs = true) (hca : 0 ≤ ca) (w : World) (hx : Arr .i8 w p xs) :
  Calls Tryz.prog 13 #[.agg (posCs F R p xs.length c bl ca pa ha fu).toArray] w fun e w' => e = .returned (.bool (pvN F R xs bl ca pa ha fu)) ∧ Below w.heap.size w w' := by
 have hB := below_box w (.cells (posCs F R p xs.length c bl ca pa ha fu).toArray 26)
 have hA := HasO.new w (.cells (posCs F R p xs.length c bl ca pa ha fu).toArray 26)
 have hl64 : xs.length ≤ 64 := by rw [hlen]; exact Nat.mul_le_mul hF.2 hR.2
 have hof := fun W => refOf_any F R ca pa ha fu bl p xs.length c W
 have horb := fun W h => refOrthB_any F R p c xs W h
 rw [hor] at horb
 have hk0 := fun W h => refKing_any F R false p c xs W h hl64
 have hk1 := fun W h => refKing_any F R true p c xs W h hl64
 have hch := fun k h1 h2 W h => refCheck_any F R p c xs k (!bl) hF hR hlen h1 h2 hok W h
 have hcs := fun W h => refCastle_any F R ca pa ha fu bl p c xs hca (by rw [hlen, Int.natCast_mul]) W h
 have hps := fun W h => refPassant_any F R ca pa ha fu bl p c xs hF hR hlen W h
 have hkb := kgI_bd xs (!bl)
 obtain ⟨V, hVV⟩ : ∃ V, V = pvN F R xs bl ca pa ha fu := ⟨_, rfl⟩
 have hVd : V = (!decide (kgI xs false < 0) && (!decide (kgI xs true < 0) && (!chkB F R xs (kgI xs (!bl)).toNat (!bl) && (lastK F R xs xs.length && (cstB F R xs ca && (passB F R xs bl pa ha && (decide (0 ≤ ha) && (decide (ha ≤ 10000) && (decide (1 ≤ fu) && decide (fu ≤ 10000)))))))))) := hVV
 rw [← hVV]
 clear hVV
 generalize cstB F R xs ca = vcs at *
 generalize passB F R xs bl pa ha = vps at *
 have hc0 := hA.cells
 have hl0 := hA.lt
 replace hlen := Lib.hid hlen
 go_enter Tryz.func13, Tryz.ntmps13
 go_wp2_with fail
 refine (hof _).mono ?_
 rintro e w2 ⟨rfl, hb2⟩
 have hA2 := hA.call hb2
 have hB2 := below_call hB hB.size hb2
 have hx2 := hx.call hB2
 clear hA hB hb2 hc0 hl0 hof hx
 have hb3 := below_box w2 (.cells (bdCs F R p xs.length c).toArray 68)
 have hQ3 := HasO.new w2 (.cells (bdCs F R p xs.length c).toArray 68)
 have hA3 := hA2.call hb3
 have hB3 := below_call hB2 hB2.size hb3
 have hx3 := hx2.call hb3
 obtain ⟨qb, hqb⟩ : ∃ x, x = w2.heap.size := ⟨_, rfl⟩
 rw [← hqb] at hQ3
 have hcq := hQ3.cells
 have hlq := hQ3.lt
 rw [hqb] at hcq hlq
 go_wp2_with fail
 show Calls Tryz.prog 36 _ (w2.alloc (.cells (bdCs F R p xs.length c).toArray 68)) _
 rw [← hqb]
 clear hcq hlq
 generalize w2.alloc (.cells (bdCs F R p xs.length c).toArray 68) = w3 at *
 clear hA2 hB2 hx2 hb3 hqb
 refine (horb _ hx3).mono ?_
 rintro e w4 ⟨rfl, hb4⟩
 have hA4 := hA3.call hb4
 have hB4 := below_call hB3 hB3.size hb4
 have hx4 := hx3.call hb4
 have hQ4 := hQ3.call hb4
 have hcq := hQ4.cells
 have hlq := hQ4.lt
 clear hA3 hB3 hx3 hQ3 hb4 horb
 go_wp2_with fail
 refine (hk0 _ hx4).mono ?_
 rintro e w5 ⟨rfl, hb5⟩
 have hA5 := hA4.call hb5
 have hB5 := below_call hB4 hB4.size hb5
 have hx5 := hx4.call hb5
 have hQ5 := hQ4.call hb5
 clear hcq hlq
 have hcq := hQ5.cells
 have hlq := hQ5.lt
 clear hA4 hB4 hx4 hQ4 hb5 hk0
 by_cases n0 : kgI xs false < 0
 ·have e0 : Hid (V = false) := Lib.hid (by rw [hVd]; simp [n0])
  replace hVd := Lib.hid hVd
  go_wp2_with fail
  go_ret
  exact ⟨by rw [e0.out]; rfl, hB5⟩
 go_wp2_with fail
 refine (hk1 _ hx5).mono ?_
 rintro e w6 ⟨rfl, hb6⟩
 have hA6 := hA5.call hb6
 have hB6 := below_call hB5 hB5.size hb6
 have hx6 := hx5.call hb6
 have hQ6 := hQ5.call hb6
 clear hcq hlq
 have hcq := hQ6.cells
 have hlq := hQ6.lt
 have hcA := hA6.cells
 have hlA := hA6.lt
 clear hA5 hB5 hx5 hQ5 hb6 hk1
 by_cases n1 : kgI xs true < 0
 ·have e0 : Hid (V = false) := Lib.hid (by rw [hVd]; simp [n1])
  replace hVd := Lib.hid hVd
  go_wp2_with fail
  go_ret
  exact ⟨by rw [e0.out]; rfl, hB6⟩
 obtain ⟨k, hkk, hkl⟩ : ∃ k : Nat, kgI xs (!bl) = k ∧ k < F * R := by
  rcases hkb with h | ⟨k, h1, h2⟩
  ·exfalso
   cases bl
   ·have h : kgI xs true = -1 := h
    omega
   ·have h : kgI xs false = -1 := h
    omega
  ·exact ⟨k, h1, by have := hlen.out; omega⟩
 have hch2 := hch k hkk hkl
 have hVd2 : V = (!chkB F R xs k (!bl) && (lastK F R xs xs.length && (vcs && (vps && (decide (0 ≤ ha) && (decide (ha ≤ 10000) && (decide (1 ≤ fu) && decide (fu ≤ 10000)))))))) := by rw [hVd, hkk]; simp [n0, n1]
 clear hVd hkb hch hkk
 generalize chkB F R xs k (!bl) = vch at hch2 hVd2
 replace hVd2 := Lib.hid hVd2
 go_wp2_with fail
 refine (hch2 _ hx6).mono ?_
 rintro e w7 ⟨rfl, hb7⟩
 have hA7 := hA6.call hb7
 have hB7 := below_call hB6 hB6.size hb7
 have hx7 := hx6.call hb7
 clear hcq hlq hcA hlA hA6 hB6 hx6 hQ6 hb7 hch2
 rcases vch with _ | _
 rotate_left
 ·have e0 : Hid (V = false) := Lib.hid (by rw [hVd2.out]; rfl)
  go_wp2_with fail
  go_ret
  exact ⟨by rw [e0.out]; rfl, hB7⟩
 have hVd3 := hVd2.out
 simp only [Bool.not_false, Bool.true_and] at hVd3
 clear hVd2
 replace hVd3 := Lib.hid hVd3
 go_wp2_with fail
 go_loopg [4] 65 (fun q iv wr => ∃ i : Nat, q + i = 65 ∧ i ≤ xs.length ∧ iv = .int .i64 i ∧ lastK F R xs i = true ∧ Below w7.heap.size w7 wr)
 case atStart => exact ⟨0, rfl, Nat.zero_le _, rfl, rfl, Below.refl _ _⟩
 case round =>
  obtain ⟨i, hq, hi, rfl, hlo, hbr⟩ := hrel
  have hAr := hA7.call hbr
  have hBr := below_call hB7 hB7.size hbr
  have hxr := hx7.call hbr
  have hcA := hAr.cells
  have hlA := hAr.lt
  replace hlo := Lib.hid hlo
  by_cases hlt : i < xs.length
  ·have hii : (i : Int) < xs.length := by omega
   have hiF : i < F * R := by have := hlen.out; omega
   obtain ⟨hi64, hi0, hi1⟩ := sq_bd hF hR hiF
   obtain ⟨g, o, rfl, hgl, hcc⟩ := hxr.at hlt
   have hci := hcc i hlt
   have hy1 : pOk (xs[i]?.getD 0) = true := by rw [List.getElem?_eq_getElem hlt]; exact hok _ (List.getElem_mem hlt)
   have hyb := pOk_bd hy1
   have hnx : lastK F R xs (i + 1) = (lastK F R xs i && !((kindI (xs[i]?.getD 0) == 1) && (((i / F : Nat) : Int) == lastI R (decide (xs[i]?.getD 0 < 0))))) := rfl
   rw [hlo.out, Bool.true_and] at hnx
   obtain ⟨y, hy⟩ : ∃ y, y = xs[i]?.getD 0 := ⟨_, rfl⟩
   rw [← hy] at hci hnx hyb
   have hkd := fun W => refKind_any y ⟨by omega, by omega⟩ W
   have hpl := fun W => refPlace_any F R i hF (by omega) W
   have hla := fun W => refLast_v F R (decide (y < 0)) (by omega) W
   clear hcc hy hy1
   generalize i / F = r0 at *
   generalize i % F = f0 at *
   generalize lastI R (decide (y < 0)) = l0 at *
   go_wp2_with fail
   clear hcA hlA
   rcases c1 : (kindI y == 1) with _ | _
   ·rw [c1] at hnx
    simp only [Bool.false_and, Bool.not_false] at hnx
    have m1 := row_gr hAr
    have m2 := cell_regrown hci
    have t1 := call_eq (w := wr) (fun W => hkd W)
    refine wp_region_all (by kernel_rfl) (by kernel_rfl) ?_
    repeat (go_big_quiet_step (first | with_reducible exact t1 _ _ | fail))
    refine wpQuiet_nil ?_
    intro W2 hC
    clear m1 m2 t1
    have hb2 := below_call hbr hbr.size hC
    have hBW := below_call hBr hBr.size hC
    clear hAr hBr hxr hbr hC hci hgl
    replace hnx := Lib.hid hnx
    go_wp2_with fail
    go_roundg (gk - 1)
    case measure => omega
    case rel => exact ⟨i + 1, by omega, by omega, by go_num, hnx.out, hb2⟩
   rcases c2 : ((r0 : Int) == l0) with _ | _
   ·rw [c1, c2] at hnx
    simp only [Bool.true_and, Bool.not_false] at hnx
    have m1 := row_gr hAr
    have m2 := cell_regrown hci
    have t1 := call_eq (w := wr) (fun W => hkd W)
    have t2 := call_gr (w := wr) (fun W _ => hpl W)
    have t3 := call_gr (w := wr) (fun W _ => hla W)
    have s1 := fun W => field99 (f0 : Int) (r0 : Int) W
    refine wp_region_all (by kernel_rfl) (by kernel_rfl) ?_
    repeat (go_big_quiet_step (first | with_reducible exact t1 _ _ | with_reducible exact t2 _ _ | with_reducible exact t3 _ _ | fail))
    refine wpQuiet_nil ?_
    intro W2 hC
    clear m1 m2 t1 t2 t3 s1
    have hb2 := below_call hbr hbr.size hC
    have hBW := below_call hBr hBr.size hC
    clear hAr hBr hxr hbr hC hci hgl
    replace hnx := Lib.hid hnx
    go_wp2_with fail
    go_roundg (gk - 1)
    case measure => omega
    case rel => exact ⟨i + 1, by omega, by omega, by go_num, hnx.out, hb2⟩
   ·rw [c1, c2] at hnx
    simp only [Bool.true_and, Bool.not_true] at hnx
    have m1 := row_gr hAr
    have m2 := cell_regrown hci
    have t1 := call_eq (w := wr) (fun W => hkd W)
    have t2 := call_gr (w := wr) (fun W _ => hpl W)
    have t3 := call_gr (w := wr) (fun W _ => hla W)
    have s1 := fun W => field99 (f0 : Int) (r0 : Int) W
    refine wp_region_all (by kernel_rfl) (by kernel_rfl) ?_
    repeat (go_big_quiet_step (first | with_reducible exact t1 _ _ | with_reducible exact t2 _ _ | with_reducible exact t3 _ _ | fail))
    refine wpQuiet_nil ?_
    intro W2 hC
    clear m1 m2 t1 t2 t3 s1
    have hb2 := below_call hbr hbr.size hC
    have hBW := below_call hBr hBr.size hC
    clear hAr hBr hxr hbr hC hci hgl
    have e0 : Hid (V = false) := Lib.hid (by
     rw [hVd3.out, show xs.length = (i + 1) + (xs.length - (i + 1)) by omega, lastK_le hnx]; rfl)
    replace hnx := Lib.hid hnx
    go_wp2_with fail
    go_ret
    exact ⟨by rw [e0.out]; rfl, hBW⟩
  ·have hii : ¬ (i : Int) < xs.length := by omega
   obtain rfl : i = xs.length := by omega
   have hVd4 : V = (vcs && (vps && (decide (0 ≤ ha) && (decide (ha ≤ 10000) && (decide (1 ≤ fu) && decide (fu ≤ 10000)))))) := by rw [hVd3.out, hlo.out, Bool.true_and]
   replace hVd4 := Lib.hid hVd4
   clear hVd3
   go_wp2_with fail
   refine (hcs _ hxr).mono ?_
   rintro e w8 ⟨rfl, hb8⟩
   have hA8 := hAr.call hb8
   have hB8 := below_call hBr hBr.size hb8
   have hx8 := hxr.call hb8
   have hc8 := hA8.cells
   have hl8 := hA8.lt
   clear hcA hlA hAr hBr hxr hbr hb8 hcs
   rcases vcs with _ | _
   ·have e0 : Hid (V = false) := Lib.hid (by rw [hVd4.out]; rfl)
    go_wp2_with fail
    go_ret
    exact ⟨by rw [e0.out]; rfl, hB8⟩
   go_wp2_with fail
   refine (hps _ hx8).mono ?_
   rintro e w9 ⟨rfl, hb9⟩
   have hA9 := hA8.call hb9
   have hB9 := below_call hB8 hB8.size hb9
   have hc9 := hA9.cells
   have hl9 := hA9.lt
   clear hc8 hl8 hA8 hB8 hx8 hb9 hps
   rcases vps with _ | _
   ·have e0 : Hid (V = false) := Lib.hid (by rw [hVd4.out]; rfl)
    go_wp2_with fail
    go_ret
    exact ⟨by rw [e0.out]; rfl, hB9⟩
   go_wp2
   all_goals (go_ret; refine ⟨?_, hB9⟩; rw [hVd4.out]; simp [*] <;> omega)
theorem refPos_any (f r ca pa ha fu : Int) (bl : Bool) (p : Option Addr) (c : Nat) (xs : List Int) (hca : 0 ≤ ca) (w : World) (hx : Arr .i8 w p xs) :
  Calls Tryz.prog 13 #[.agg (posCs f r p xs.length c bl ca pa ha fu).toArray] w fun e w' => e = .returned (.bool (pvB f r xs bl ca pa ha fu)) ∧ Below w.heap.size w w' := by
 rcases hor : orthB f r xs with _ | _
 ·have e0 : Hid (pvB f r xs bl ca pa ha fu = false) := Lib.hid (by unfold pvB; rw [hor]; rfl)
  have hB := below_box w (.cells (posCs f r p xs.length c bl ca pa ha fu).toArray 26)
  have hA := HasO.new w (.cells (posCs f r p xs.length c bl ca pa ha fu).toArray 26)
  have hof := fun W => refOf_any f r ca pa ha fu bl p xs.length c W
  have horb := fun W h => refOrthB_any f r p c xs W h
  rw [hor] at horb
  have hc0 := hA.cells
  have hl0 := hA.lt
  go_enter Tryz.func13, Tryz.ntmps13
  go_wp2_with fail
  refine (hof _).mono ?_
  rintro e w2 ⟨rfl, hb2⟩
  have hB2 := below_call hB hB.size hb2
  have hx2 := hx.call hB2
  clear hA hB hb2 hc0 hl0 hof hx
  have hb3 := below_box w2 (.cells (bdCs f r p xs.length c).toArray 68)
  have hQ3 := HasO.new w2 (.cells (bdCs f r p xs.length c).toArray 68)
  have hB3 := below_call hB2 hB2.size hb3
  have hx3 := hx2.call hb3
  have hcq := hQ3.cells
  have hlq := hQ3.lt
  go_wp2_with fail
  refine (horb _ hx3).mono ?_
  rintro e w4 ⟨rfl, hb4⟩
  have hB4 := below_call hB3 hB3.size hb4
  clear hcq hlq
  go_wp2_with fail
  go_ret
  exact ⟨by rw [e0.out]; rfl, hB4⟩
 ·obtain ⟨F, R, rfl, rfl, hF, hR, hlen, hok, _⟩ := orthB_fact hor
  have e0 : pvB F R xs bl ca pa ha fu = pvN F R xs bl ca pa ha fu := by unfold pvB; rw [hor]; rfl
  rw [e0]
  exact refPos_good F R ca pa ha fu bl p c xs hF hR hlen hok hor hca w hx
end Go.Proofs.YtefmplccbkmalaaGreatDoor
namespace Go.Proofs.YtefmplccbkmalaaGreatDoor
open Go.RowKit

def onB (F R : Nat) (a b : Int) : Bool := decide (0 ≤ a) && (decide (a < F) && (decide (0 ≤ b) && decide (b < R)))
theorem sqOn_any (F R : Nat) (a b : Int) (w : World) : Calls Tryz.prog 141 #[.agg #[.int .i64 F, .int .i64 R], .int .i64 a, .int .i64 b] w fun e w' => e = .returned (.bool (onB F R a b)) ∧ Below w.heap.size w w' := by
 go_enter Tryz.func141, Tryz.ntmps141
 go_wp2
 all_goals (go_ret; refine ⟨?_, below_box _ _⟩; simp [onB, *] <;> omega)
theorem size_nat {F R : Nat} (hF : 3 ≤ F ∧ F ≤ 8) (hR : 3 ≤ R ∧ R ≤ 8) : sizeB F R = true := by simp [sizeB, sideB]; omega
def atV (F R : Nat) (a b : Int) : Value := if onB F R a b then .tuple #[.int .i64 (a + b * F), .int .i64 0] else .tuple #[.int .i64 0, .int .i64 3]
theorem onB_fact {F R : Nat} {a b : Int} (h : onB F R a b = true) : 0 ≤ a ∧ a < F ∧ 0 ≤ b ∧ b < R := by simpa [onB] using h
theorem small_mul {F : Nat} {b : Int} (hF : F ≤ 8) (h : -20 ≤ b ∧ b ≤ 20) : -160 ≤ b * F ∧ b * F ≤ 160 := by
 have h1 : (b * F).natAbs = b.natAbs * (F : Int).natAbs := Int.natAbs_mul b F
 have h2 : b.natAbs * (F : Int).natAbs ≤ 20 * 8 := Nat.mul_le_mul (by omega) (by omega)
 omega
theorem sqAt_any (F R : Nat) (a b : Int) (hF : 3 ≤ F ∧ F ≤ 8) (hR : 3 ≤ R ∧ R ≤ 8) (w : World) : Calls Tryz.prog 89 #[.agg #[.int .i64 F, .int .i64 R], .int .i64 a, .int .i64 b] w fun e w' => e = .returned (atV F R a b) ∧ Below w.heap.size w w' := by
 have hA := HasO.new w (.cells #[.int .i64 (F : Int), .int .i64 (R : Int)] 23)
 have hB := below_box w (.cells #[.int .i64 (F : Int), .int .i64 (R : Int)] 23)
 have hvs := fun W => validSize_any F R W
 rw [size_nat hF hR] at hvs
 have hon := fun W => sqOn_any F R a b W
 have hc0 := hA.cells
 have hl0 := hA.lt
 go_enter Tryz.func89, Tryz.ntmps89
 go_wp2_with fail
 refine (hvs _).mono ?_
 rintro e w2 ⟨rfl, hb2⟩
 have hA2 := hA.call hb2
 have hB2 := below_call hB hB.size hb2
 clear hc0 hl0 hA hB hb2
 have hc2 := hA2.cells
 have hl2 := hA2.lt
 go_wp2_with fail
 refine (hon _).mono ?_
 rintro e w3 ⟨rfl, hb3⟩
 have hA3 := hA2.call hb3
 have hB3 := below_call hB2 hB2.size hb3
 clear hc2 hl2 hA2 hB2 hb3
 have hc3 := hA3.cells
 have hl3 := hA3.lt
 rcases hv : onB F R a b with _ | _
 ·have e0 : Hid (atV F R a b = .tuple #[.int .i64 0, .int .i64 3]) := Lib.hid (by unfold atV; rw [hv]; rfl)
  go_wp2_with fail
  go_ret2
  exact ⟨by rw [e0.out]; rfl, hB3⟩
 ·have e0 : Hid (atV F R a b = .tuple #[.int .i64 (a + b * F), .int .i64 0]) := Lib.hid (by unfold atV; rw [hv]; rfl)
  obtain ⟨h1, h2, h3, h4⟩ := onB_fact hv
  have h5 := small_mul (F := F) (b := b) hF.2 (by omega)
  have e1 : wrap64 (b * F) = b * F := wrap_small (by omega)
  have e2 : wrap64 (a + b * F) = a + b * F := wrap_small (by omega)
  go_wp2_with fail
  go_ret2
  exact ⟨by rw [e0.out]; rfl, hB3⟩
theorem sqPlace_good (F R a : Nat) (hF : 3 ≤ F ∧ F ≤ 8) (hR : 3 ≤ R ∧ R ≤ 8) (ha : a < F * R) (w : World) : Calls Tryz.prog 88 #[.agg #[.int .i64 F, .int .i64 R], .int .i64 a] w fun e w' => e = .returned (.tuple #[.int .i64 (a % F : Nat), .int .i64 (a / F : Nat), .int .i64 0]) ∧ Below w.heap.size w w' := by
 have hA := HasO.new w (.cells #[.int .i64 (F : Int), .int .i64 (R : Int)] 23)
 have hB := below_box w (.cells #[.int .i64 (F : Int), .int .i64 (R : Int)] 23)
 have hsv := fun W => sqValid_any F R a W
 rw [sqB_nat hF hR ha] at hsv
 obtain ⟨ha64, ha0, ha1⟩ := sq_bd hF hR ha
 have hF0 : (F : Int) ≠ 0 := by omega
 have hc0 := hA.cells
 have hl0 := hA.lt
 go_enter Tryz.func88, Tryz.ntmps88
 go_wp2_with fail
 refine (hsv _).mono ?_
 rintro e w2 ⟨rfl, hb2⟩
 have hA2 := hA.call hb2
 have hB2 := below_call hB hB.size hb2
 clear hc0 hl0 hA hB hb2
 have hc2 := hA2.cells
 have hl2 := hA2.lt
 go_wp2_with fail
 go_region
 have e1 : (a : Int) / (F : Int) = ((a / F : Nat) : Int) := rfl
 have e3 : (a : Int) % (F : Int) = ((a % F : Nat) : Int) := rfl
 have e5 : (0 : Int) ≤ ((a / F : Nat) : Int) := Int.natCast_nonneg _
 rw [e1, e3, wrap_small (by omega)]
 go_wp2_with fail
 go_ret3
 exact ⟨rfl, hB2.drew⟩
end Go.Proofs.YtefmplccbkmalaaGreatDoor
