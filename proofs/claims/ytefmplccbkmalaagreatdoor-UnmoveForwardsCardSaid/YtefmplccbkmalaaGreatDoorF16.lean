import Derived.Test.YtefmplccbkmalaaGreatDoorF15
set_option maxHeartbeats 12800000
namespace Go.Proofs.YtefmplccbkmalaaGreatDoor
open Go.RowKit

def leapsL : List (Int × Int) := [(1, 2), (2, 1), (2, -1), (1, -2), (-1, -2), (-2, -1), (-2, 1), (-1, 2)]
def diagL : List (Int × Int) := [(1, 1), (-1, 1), (-1, -1), (1, -1)]
def strL : List (Int × Int) := [(1, 0), (0, 1), (-1, 0), (0, -1)]
def GlobOk (w : World) : Prop := StepArr w 5 0 leapsL ∧ StepArr w 6 0 diagL ∧ StepArr w 7 0 strL ∧ w.cell? ⟨3, 0, none⟩ = some (.int .i64 8) ∧ w.cell? ⟨3, 1, none⟩ = some (.int .i64 8)
theorem GlobOk.call {w w' : World} (h : GlobOk w) (hb : Below w.heap.size w w') : GlobOk w' := by
 obtain ⟨h1, h2, h3, h4, h5⟩ := h
 have hs := h3.1
 exact ⟨h1.call hb, h2.call hb, h3.call hb, (hb.cell (p := ⟨3, 0, none⟩) (by show 3 < w.heap.size; omega)).trans h4, (hb.cell (p := ⟨3, 1, none⟩) (by show 3 < w.heap.size; omega)).trans h5⟩
theorem sl_2 (W : World) : (Instr.sliceAt 182 (.pointer (some ⟨5, 0, none⟩)) none none none).run Tryz.prog W = .ok (.slice (some ⟨5, 0, none⟩) 8 8) W := by kernel_rfl
theorem sl_3 (W : World) : (Instr.sliceAt 184 (.pointer (some ⟨6, 0, none⟩)) none none none).run Tryz.prog W = .ok (.slice (some ⟨6, 0, none⟩) 4 4) W := by kernel_rfl
theorem sl_4 (W : World) : (Instr.sliceAt 184 (.pointer (some ⟨7, 0, none⟩)) none none none).run Tryz.prog W = .ok (.slice (some ⟨7, 0, none⟩) 4 4) W := by kernel_rfl
theorem leaps_bd : ∀ x ∈ leapsL, (-2 ≤ x.1 ∧ x.1 ≤ 2) ∧ (-2 ≤ x.2 ∧ x.2 ≤ 2) := by decide
theorem diag_bd : ∀ x ∈ diagL, (-2 ≤ x.1 ∧ x.1 ≤ 2) ∧ (-2 ≤ x.2 ∧ x.2 ≤ 2) := by decide
theorem str_bd : ∀ x ∈ strL, (-2 ≤ x.1 ∧ x.1 ≤ 2) ∧ (-2 ≤ x.2 ∧ x.2 ≤ 2) := by decide
theorem slideDiag_any (F R a oc : Nat) (hF : 3 ≤ F ∧ F ≤ 8) (hR : 3 ≤ R ∧ R ≤ 8) (ha : a < F * R) (hoc : oc < 2 ^ 64) (w : World) (hg : GlobOk w) :
  Calls Tryz.prog 146 #[.agg #[.int .i64 F, .int .i64 R], .int .i64 a, .int .u64 (oc : Nat), .slice (some ⟨6, 0, none⟩) 4 4] w fun e w' => e = .returned (.int .u64 (slideW F R a oc diagL 4 : Nat)) ∧ Below w.heap.size w w' :=
 slide_any F R a oc 6 0 4 diagL _ _ _ _ _ _ _ _ rfl hF hR ha (by decide) (by decide) (by decide) (by decide) (by decide) (by decide) (by decide) (by decide) (by decide) (by decide) (by decide) (by decide) hoc w hg.2.1
theorem slideStr_any (F R a oc : Nat) (hF : 3 ≤ F ∧ F ≤ 8) (hR : 3 ≤ R ∧ R ≤ 8) (ha : a < F * R) (hoc : oc < 2 ^ 64) (w : World) (hg : GlobOk w) :
  Calls Tryz.prog 146 #[.agg #[.int .i64 F, .int .i64 R], .int .i64 a, .int .u64 (oc : Nat), .slice (some ⟨7, 0, none⟩) 4 4] w fun e w' => e = .returned (.int .u64 (slideW F R a oc strL 4 : Nat)) ∧ Below w.heap.size w w' :=
 slide_any F R a oc 7 0 4 strL _ _ _ _ _ _ _ _ rfl hF hR ha (by decide) (by decide) (by decide) (by decide) (by decide) (by decide) (by decide) (by decide) (by decide) (by decide) (by decide) (by decide) hoc w hg.2.2.1
theorem leapLeaps_any (F R a : Nat) (hF : 3 ≤ F ∧ F ≤ 8) (hR : 3 ≤ R ∧ R ≤ 8) (ha : a < F * R) (w : World) (hg : GlobOk w) :
  Calls Tryz.prog 145 #[.agg #[.int .i64 F, .int .i64 R], .int .i64 a, .slice (some ⟨5, 0, none⟩) 8 8] w fun e w' => e = .returned (.int .u64 (leapW F R a leapsL 8 : Nat)) ∧ Below w.heap.size w w' :=
 leap_any F R a 5 0 8 leapsL hF hR ha leaps_bd (by decide) w hg.1
theorem leapDiag_any (F R a : Nat) (hF : 3 ≤ F ∧ F ≤ 8) (hR : 3 ≤ R ∧ R ≤ 8) (ha : a < F * R) (w : World) (hg : GlobOk w) :
  Calls Tryz.prog 145 #[.agg #[.int .i64 F, .int .i64 R], .int .i64 a, .slice (some ⟨6, 0, none⟩) 4 4] w fun e w' => e = .returned (.int .u64 (leapW F R a diagL 4 : Nat)) ∧ Below w.heap.size w w' :=
 leap_any F R a 6 0 4 diagL hF hR ha diag_bd (by decide) w hg.2.1
theorem leapStr_any (F R a : Nat) (hF : 3 ≤ F ∧ F ≤ 8) (hR : 3 ≤ R ∧ R ≤ 8) (ha : a < F * R) (w : World) (hg : GlobOk w) :
  Calls Tryz.prog 145 #[.agg #[.int .i64 F, .int .i64 R], .int .i64 a, .slice (some ⟨7, 0, none⟩) 4 4] w fun e w' => e = .returned (.int .u64 (leapW F R a strL 4 : Nat)) ∧ Below w.heap.size w w' :=
 leap_any F R a 7 0 4 strL hF hR ha str_bd (by decide) w hg.2.2.1
def pwnL (bl : Bool) : List (Int × Int) := [(-1, sdI bl), (1, sdI bl)]
set_option maxRecDepth 100000 in
theorem pawn_any (F R a : Nat) (bl : Bool) (hF : 3 ≤ F ∧ F ≤ 8) (hR : 3 ≤ R ∧ R ≤ 8) (ha : a < F * R) (w : World) :
  Calls Tryz.prog 121 #[.agg #[.int .i64 F, .int .i64 R], .bool bl, .int .i64 a] w fun e w' => e = .returned (.tuple #[.int .u64 (leapW F R a (pwnL bl) 2 : Nat), .int .i64 0]) ∧ Below w.heap.size w w' := by
 have hA := HasO.new w (.cells #[.int .i64 (F : Int), .int .i64 (R : Int)] 23)
 have hB := below_box w (.cells #[.int .i64 (F : Int), .int .i64 (R : Int)] 23)
 have hsv := fun W => sqValid_any F R a W
 rw [sqB_nat hF hR ha] at hsv
 have hlp := fun g W h => leap_any F R a g 0 2 (pwnL bl) hF hR ha (by cases bl <;> decide) (by simp [pwnL]) W h
 have hfw := fun W => forward_any bl W
 have hpl : pwnL bl = [(-1, sdI bl), (1, sdI bl)] := rfl
 rw [show (pwnL bl).length = 2 from rfl] at hlp
 generalize leapW F R a (pwnL bl) 2 = V at *
 generalize pwnL bl = PL at *
 generalize sdI bl = up at *
 replace hpl := Lib.hid hpl
 have hc0 := hA.cells
 have hl0 := hA.lt
 go_enter Tryz.func121, Tryz.ntmps121
 go_wp2_with fail
 refine (hsv _).mono ?_
 rintro e w2 ⟨rfl, hb2⟩
 have hA2 := hA.call hb2
 have hB2 := below_call hB hB.size hb2
 clear hc0 hl0 hA hB hb2 hsv
 have hc2 := hA2.cells
 have hl2 := hA2.lt
 go_wp2_with fail
 refine (hfw _).mono ?_
 rintro e w3 ⟨rfl, rfl⟩
 go_wp2_with fail
 have hNb := below_box w2 (.cells #[.int .i64 (-1), .int .i64 up, .int .i64 1, .int .i64 up] 181)
 have hN := HasO.new w2 (.cells #[.int .i64 (-1), .int .i64 up, .int .i64 1, .int .i64 up] 181)
 refine (hlp _ _ ?_).mono ?_
 ·rw [hpl.out]
  refine ⟨hN.lt, fun j hj => ?_⟩
  have hj2 : j < 2 := hj
  rcases (by omega : j = 0 ∨ j = 1) with rfl | rfl
  ·exact ⟨hN.cells 0, hN.cells 1⟩
  ·exact ⟨hN.cells 2, hN.cells 3⟩
 rintro e w4 ⟨rfl, hb4⟩
 go_wp2_with fail
 go_ret2
 exact ⟨rfl, below_call (below_call hB2 hB2.size hNb) (Nat.le_trans hB2.size hNb.size) hb4⟩
theorem bin64_orE {x y z : Int} {W : World} (h : bits .or .u64 x y = z) : (binOp .or 64 (.int .u64 x) (.int .u64 y)).run Tryz.prog W = .ok (.int .u64 z) W := by rw [bin64_or, h]
def reachW (F R a oc : Nat) (k : Int) : Nat :=
 if k = 2 then leapW F R a leapsL 8 else if k = 3 then slideW F R a oc diagL 4 else if k = 4 then slideW F R a oc strL 4
 else if k = 5 then slideW F R a oc diagL 4 ||| slideW F R a oc strL 4 else leapW F R a diagL 4 ||| leapW F R a strL 4
theorem slideW_lt {F R a oc : Nat} (st : List (Int × Int)) : ∀ k, slideW F R a oc st k < 2 ^ (F * R) := by
 intro k
 induction k with
 | zero => simp [slideW, Nat.two_pow_pos]
 | succ k ih => exact slideR_lt _ _ (fun x hx => by have := rayL_sq x hx; rw [← Int.natCast_mul] at this; exact this) ih
theorem reachW_lt {F R a oc : Nat} (k : Int) : reachW F R a oc k < 2 ^ (F * R) := by
 unfold reachW
 split
 ·exact leapW_lt _ _
 split
 ·exact slideW_lt _ _
 split
 ·exact slideW_lt _ _
 split
 ·exact Nat.or_lt_two_pow (slideW_lt _ _) (slideW_lt _ _)
 ·exact Nat.or_lt_two_pow (leapW_lt _ _) (leapW_lt _ _)
set_option maxRecDepth 100000 in
theorem reach_any (F R a oc : Nat) (k : Int) (hk : 2 ≤ k ∧ k ≤ 6) (hF : 3 ≤ F ∧ F ≤ 8) (hR : 3 ≤ R ∧ R ≤ 8) (ha : a < F * R) (hoc : oc < 2 ^ (F * R)) (w : World) (hg : GlobOk w) :
  Calls Tryz.prog 93 #[.agg #[.int .i64 F, .int .i64 R], .int .i8 k, .int .i64 a, .int .u64 (oc : Nat)] w fun e w' => e = .returned (.tuple #[.int .u64 (reachW F R a oc k : Nat), .int .i64 0]) ∧ Below w.heap.size w w' := by
 have hA := HasO.new w (.cells #[.int .i64 (F : Int), .int .i64 (R : Int)] 23)
 have hB := below_box w (.cells #[.int .i64 (F : Int), .int .i64 (R : Int)] 23)
 have hon := fun W => rayOn_any F R a oc hF hR ha hoc W
 have hoc64 : oc < 2 ^ 64 := Nat.lt_of_lt_of_le hoc (pow_FR hF hR)
 have hm1 := fun W h => leapLeaps_any F R a hF hR ha W h
 have hm2 := fun W h => leapDiag_any F R a hF hR ha W h
 have hm3 := fun W h => leapStr_any F R a hF hR ha W h
 have hs1 := fun W h => slideDiag_any F R a oc hF hR ha hoc64 W h
 have hs2 := fun W h => slideStr_any F R a oc hF hR ha hoc64 W h
 have hb1 := slideW_lt (a := a) (F := F) (R := R) (oc := oc) diagL 4
 have hb2 := slideW_lt (F := F) (R := R) (a := a) (oc := oc) strL 4
 have hb3 := leapW_lt (F := F) (R := R) (a := a) diagL 4
 have hb4 := leapW_lt (F := F) (R := R) (a := a) strL 4
 have hp := pow_FR hF hR
 have o1 : bits .or .u64 ((slideW F R a oc diagL 4 : Nat) : Int) ((slideW F R a oc strL 4 : Nat) : Int) = ((slideW F R a oc diagL 4 ||| slideW F R a oc strL 4 : Nat) : Int) := u64_or_nat _ _ (Nat.lt_of_lt_of_le hb1 hp) (Nat.lt_of_lt_of_le hb2 hp)
 have o2 : bits .or .u64 ((leapW F R a diagL 4 : Nat) : Int) ((leapW F R a strL 4 : Nat) : Int) = ((leapW F R a diagL 4 ||| leapW F R a strL 4 : Nat) : Int) := u64_or_nat _ _ (Nat.lt_of_lt_of_le hb3 hp) (Nat.lt_of_lt_of_le hb4 hp)
 have hrw : ∀ k, reachW F R a oc k = if k = 2 then leapW F R a leapsL 8 else if k = 3 then slideW F R a oc diagL 4 else if k = 4 then slideW F R a oc strL 4
  else if k = 5 then slideW F R a oc diagL 4 ||| slideW F R a oc strL 4 else leapW F R a diagL 4 ||| leapW F R a strL 4 := fun _ => rfl
 generalize reachW F R a oc = RW at *
 generalize slideW F R a oc diagL 4 = SD at *
 generalize slideW F R a oc strL 4 = SS at *
 generalize leapW F R a diagL 4 = LD at *
 generalize leapW F R a strL 4 = LS at *
 generalize leapW F R a leapsL 8 = LL at *
 clear hb1 hb2 hb3 hb4 hp hoc
 generalize SD ||| SS = SQ at *
 generalize LD ||| LS = LK at *
 replace o1 := Lib.hid o1
 replace o2 := Lib.hid o2
 have hc0 := hA.cells
 have hl0 := hA.lt
 have hgA := hg.call hB
 rcases (by omega : k = 2 ∨ k = 3 ∨ k = 4 ∨ k = 5 ∨ k = 6) with rfl | rfl | rfl | rfl | rfl
 ·have e0 : Hid (RW 2 = LL) := Lib.hid (by rw [hrw]; simp)
  clear hrw
  go_enter Tryz.func93, Tryz.ntmps93
  go_wp2_with fail
  refine (hon _).mono ?_
  rintro e w2 ⟨rfl, hb2⟩
  have hA2 := hA.call hb2
  have hB2 := below_call hB hB.size hb2
  have hg2 := hgA.call hb2
  clear hc0 hl0 hA hB hb2 hon hgA
  have hA := hA2
  have hc2 := hA2.cells
  have hl2 := hA2.lt
  go_wp2_with fail
  refine wp_region_vl (by kernel_rfl) (by kernel_rfl) [some 18, some 19, some 20, some 21, some 8, some 9] (by rfl) (by rfl) w2.heap.size (fun i8 => match i8 with | 0 => .agg #[.int .i64 (F : Int), .int .i64 (R : Int)] | 1 => .int .i64 ((a : Nat) : Int) | 2 => .slice (some ⟨5, 0, none⟩) 8 8 | 3 => .int .u64 (LL : Nat) | 4 => .int .u64 (LL : Nat) | 5 => .int .i64 0 | _ => undef) (fun _ => none) ?hstep ?hend
  case hstep =>
   intro i9 o9 f9 W ho hi hC hf K hK
   have hi : i9 < 6 := hi
   rcases i9 with _ | _ | _ | _ | _ | _ | i9
   ·exact st_loadA (og ho) 23 (.tmp 4) (oo ho) (rd_out rfl rfl) [.int .i64 (F : Int), .int .i64 (R : Int)] (by kernel_rfl) (fun j v hv => by rw [Nat.zero_add, (hA.call hC).cells j]; simpa using hv) (kk hK)
   ·exact st_move (og ho) (.tmp 2) (oo ho) (rd_out rfl rfl) (kk hK)
   ·exact st_slice (og ho) 182 (.global 5) none none none (oo ho) rfl rfl rfl rfl (sl_2 W) (kk hK)
   ·exact st_call3 (og ho) 145 (.tmp 18) (.tmp 19) (.tmp 20) #[23, 3, 179] (oo ho) (ri 0 (da ho hf 0)) (ri 1 (da ho hf 1)) (ri 2 (da ho hf 2)) (fun _ _ => rfl) (hm1 W ((hg2.call hC))) (by rintro u w9 ⟨h9, hb9⟩; injection h9 with h9; subst h9; exact hK _ _ hb9 rfl) (fun _ _ h => nomatch h.1) (fun _ h => nomatch h.1)
   ·exact st_assign (og ho) (.tmp 21) (oo ho) (ri 3 (da ho hf 3)) (kk hK)
   ·exact st_assign (og ho) (.const (.int .i64 0)) (oo ho) rfl (kk hK)
   ·omega
  case hend =>
   intro f9 W hC hf
   have hv := hf 4 (by decide)
   have hz := hf 5 (by decide)
   replace hv : f9 4 = .int .u64 (LL : Nat) := hv
   replace hz : f9 5 = .int .i64 0 := hz
   have hBW := below_call hB2 hB2.size hC
   clear hf
   simp only [putL, Act.put, List.setIfInBounds_toArray, List.set_cons_succ, List.set_cons_zero]
   rw [hv, hz]
   go_wp2_with fail
   go_ret2
   exact ⟨by rw [e0.out]; rfl, hBW⟩
 ·have e0 : Hid (RW 3 = SD) := Lib.hid (by rw [hrw]; simp)
  clear hrw
  go_enter Tryz.func93, Tryz.ntmps93
  go_wp2_with fail
  refine (hon _).mono ?_
  rintro e w2 ⟨rfl, hb2⟩
  have hA2 := hA.call hb2
  have hB2 := below_call hB hB.size hb2
  have hg2 := hgA.call hb2
  clear hc0 hl0 hA hB hb2 hon hgA
  have hA := hA2
  have hc2 := hA2.cells
  have hl2 := hA2.lt
  go_wp2_with fail
  refine wp_region_vl (by kernel_rfl) (by kernel_rfl) [some 24, some 25, some 26, some 27, some 28, some 8, some 9] (by rfl) (by rfl) w2.heap.size (fun i8 => match i8 with | 0 => .agg #[.int .i64 (F : Int), .int .i64 (R : Int)] | 1 => .int .i64 ((a : Nat) : Int) | 2 => .int .u64 (oc : Nat) | 3 => .slice (some ⟨6, 0, none⟩) 4 4 | 4 => .int .u64 (SD : Nat) | 5 => .int .u64 (SD : Nat) | 6 => .int .i64 0 | _ => undef) (fun _ => none) ?hstep ?hend
  case hstep =>
   intro i9 o9 f9 W ho hi hC hf K hK
   have hi : i9 < 7 := hi
   rcases i9 with _ | _ | _ | _ | _ | _ | _ | i9
   ·exact st_loadA (og ho) 23 (.tmp 4) (oo ho) (rd_out rfl rfl) [.int .i64 (F : Int), .int .i64 (R : Int)] (by kernel_rfl) (fun j v hv => by rw [Nat.zero_add, (hA.call hC).cells j]; simpa using hv) (kk hK)
   ·exact st_move (og ho) (.tmp 2) (oo ho) (rd_out rfl rfl) (kk hK)
   ·exact st_move (og ho) (.tmp 3) (oo ho) (rd_out rfl rfl) (kk hK)
   ·exact st_slice (og ho) 184 (.global 6) none none none (oo ho) rfl rfl rfl rfl (sl_3 W) (kk hK)
   ·exact st_call4 (og ho) 146 (.tmp 24) (.tmp 25) (.tmp 26) (.tmp 27) #[23, 3, 64, 179] (oo ho) (ri 0 (da ho hf 0)) (ri 1 (da ho hf 1)) (ri 2 (da ho hf 2)) (ri 3 (da ho hf 3)) (fun _ _ => rfl) (hs1 W ((hg2.call hC))) (by rintro u w9 ⟨h9, hb9⟩; injection h9 with h9; subst h9; exact hK _ _ hb9 rfl) (fun _ _ h => nomatch h.1) (fun _ h => nomatch h.1)
   ·exact st_assign (og ho) (.tmp 28) (oo ho) (ri 4 (da ho hf 4)) (kk hK)
   ·exact st_assign (og ho) (.const (.int .i64 0)) (oo ho) rfl (kk hK)
   ·omega
  case hend =>
   intro f9 W hC hf
   have hv := hf 5 (by decide)
   have hz := hf 6 (by decide)
   replace hv : f9 5 = .int .u64 (SD : Nat) := hv
   replace hz : f9 6 = .int .i64 0 := hz
   have hBW := below_call hB2 hB2.size hC
   clear hf
   simp only [putL, Act.put, List.setIfInBounds_toArray, List.set_cons_succ, List.set_cons_zero]
   rw [hv, hz]
   go_wp2_with fail
   go_ret2
   exact ⟨by rw [e0.out]; rfl, hBW⟩
 ·have e0 : Hid (RW 4 = SS) := Lib.hid (by rw [hrw]; simp)
  clear hrw
  go_enter Tryz.func93, Tryz.ntmps93
  go_wp2_with fail
  refine (hon _).mono ?_
  rintro e w2 ⟨rfl, hb2⟩
  have hA2 := hA.call hb2
  have hB2 := below_call hB hB.size hb2
  have hg2 := hgA.call hb2
  clear hc0 hl0 hA hB hb2 hon hgA
  have hA := hA2
  have hc2 := hA2.cells
  have hl2 := hA2.lt
  go_wp2_with fail
  refine wp_region_vl (by kernel_rfl) (by kernel_rfl) [some 31, some 32, some 33, some 34, some 35, some 8, some 9] (by rfl) (by rfl) w2.heap.size (fun i8 => match i8 with | 0 => .agg #[.int .i64 (F : Int), .int .i64 (R : Int)] | 1 => .int .i64 ((a : Nat) : Int) | 2 => .int .u64 (oc : Nat) | 3 => .slice (some ⟨7, 0, none⟩) 4 4 | 4 => .int .u64 (SS : Nat) | 5 => .int .u64 (SS : Nat) | 6 => .int .i64 0 | _ => undef) (fun _ => none) ?hstep ?hend
  case hstep =>
   intro i9 o9 f9 W ho hi hC hf K hK
   have hi : i9 < 7 := hi
   rcases i9 with _ | _ | _ | _ | _ | _ | _ | i9
   ·exact st_loadA (og ho) 23 (.tmp 4) (oo ho) (rd_out rfl rfl) [.int .i64 (F : Int), .int .i64 (R : Int)] (by kernel_rfl) (fun j v hv => by rw [Nat.zero_add, (hA.call hC).cells j]; simpa using hv) (kk hK)
   ·exact st_move (og ho) (.tmp 2) (oo ho) (rd_out rfl rfl) (kk hK)
   ·exact st_move (og ho) (.tmp 3) (oo ho) (rd_out rfl rfl) (kk hK)
   ·exact st_slice (og ho) 184 (.global 7) none none none (oo ho) rfl rfl rfl rfl (sl_4 W) (kk hK)
   ·exact st_call4 (og ho) 146 (.tmp 31) (.tmp 32) (.tmp 33) (.tmp 34) #[23, 3, 64, 179] (oo ho) (ri 0 (da ho hf 0)) (ri 1 (da ho hf 1)) (ri 2 (da ho hf 2)) (ri 3 (da ho hf 3)) (fun _ _ => rfl) (hs2 W ((hg2.call hC))) (by rintro u w9 ⟨h9, hb9⟩; injection h9 with h9; subst h9; exact hK _ _ hb9 rfl) (fun _ _ h => nomatch h.1) (fun _ h => nomatch h.1)
   ·exact st_assign (og ho) (.tmp 35) (oo ho) (ri 4 (da ho hf 4)) (kk hK)
   ·exact st_assign (og ho) (.const (.int .i64 0)) (oo ho) rfl (kk hK)
   ·omega
  case hend =>
   intro f9 W hC hf
   have hv := hf 5 (by decide)
   have hz := hf 6 (by decide)
   replace hv : f9 5 = .int .u64 (SS : Nat) := hv
   replace hz : f9 6 = .int .i64 0 := hz
   have hBW := below_call hB2 hB2.size hC
   clear hf
   simp only [putL, Act.put, List.setIfInBounds_toArray, List.set_cons_succ, List.set_cons_zero]
   rw [hv, hz]
   go_wp2_with fail
   go_ret2
   exact ⟨by rw [e0.out]; rfl, hBW⟩
 ·have e0 : Hid (RW 5 = SQ) := Lib.hid (by rw [hrw]; simp)
  clear hrw
  go_enter Tryz.func93, Tryz.ntmps93
  go_wp2_with fail
  refine (hon _).mono ?_
  rintro e w2 ⟨rfl, hb2⟩
  have hA2 := hA.call hb2
  have hB2 := below_call hB hB.size hb2
  have hg2 := hgA.call hb2
  clear hc0 hl0 hA hB hb2 hon hgA
  have hA := hA2
  have hc2 := hA2.cells
  have hl2 := hA2.lt
  go_wp2_with fail
  refine wp_region_vl (by kernel_rfl) (by kernel_rfl) [some 38, some 39, some 40, some 41, some 42, some 43, some 44, some 45, some 46, some 47, some 48, some 8, some 9] (by rfl) (by rfl) w2.heap.size (fun i8 => match i8 with | 0 => .agg #[.int .i64 (F : Int), .int .i64 (R : Int)] | 1 => .int .i64 ((a : Nat) : Int) | 2 => .int .u64 (oc : Nat) | 3 => .slice (some ⟨6, 0, none⟩) 4 4 | 4 => .int .u64 (SD : Nat) | 5 => .agg #[.int .i64 (F : Int), .int .i64 (R : Int)] | 6 => .int .i64 ((a : Nat) : Int) | 7 => .int .u64 (oc : Nat) | 8 => .slice (some ⟨7, 0, none⟩) 4 4 | 9 => .int .u64 (SS : Nat) | 10 => .int .u64 (SQ : Nat) | 11 => .int .u64 (SQ : Nat) | 12 => .int .i64 0 | _ => undef) (fun _ => none) ?hstep ?hend
  case hstep =>
   intro i9 o9 f9 W ho hi hC hf K hK
   have hi : i9 < 13 := hi
   rcases i9 with _ | _ | _ | _ | _ | _ | _ | _ | _ | _ | _ | _ | _ | i9
   ·exact st_loadA (og ho) 23 (.tmp 4) (oo ho) (rd_out rfl rfl) [.int .i64 (F : Int), .int .i64 (R : Int)] (by kernel_rfl) (fun j v hv => by rw [Nat.zero_add, (hA.call hC).cells j]; simpa using hv) (kk hK)
   ·exact st_move (og ho) (.tmp 2) (oo ho) (rd_out rfl rfl) (kk hK)
   ·exact st_move (og ho) (.tmp 3) (oo ho) (rd_out rfl rfl) (kk hK)
   ·exact st_slice (og ho) 184 (.global 6) none none none (oo ho) rfl rfl rfl rfl (sl_3 W) (kk hK)
   ·exact st_call4 (og ho) 146 (.tmp 38) (.tmp 39) (.tmp 40) (.tmp 41) #[23, 3, 64, 179] (oo ho) (ri 0 (da ho hf 0)) (ri 1 (da ho hf 1)) (ri 2 (da ho hf 2)) (ri 3 (da ho hf 3)) (fun _ _ => rfl) (hs1 W ((hg2.call hC))) (by rintro u w9 ⟨h9, hb9⟩; injection h9 with h9; subst h9; exact hK _ _ hb9 rfl) (fun _ _ h => nomatch h.1) (fun _ h => nomatch h.1)
   ·exact st_loadA (og ho) 23 (.tmp 4) (oo ho) (rd_out rfl rfl) [.int .i64 (F : Int), .int .i64 (R : Int)] (by kernel_rfl) (fun j v hv => by rw [Nat.zero_add, (hA.call hC).cells j]; simpa using hv) (kk hK)
   ·exact st_move (og ho) (.tmp 2) (oo ho) (rd_out rfl rfl) (kk hK)
   ·exact st_move (og ho) (.tmp 3) (oo ho) (rd_out rfl rfl) (kk hK)
   ·exact st_slice (og ho) 184 (.global 7) none none none (oo ho) rfl rfl rfl rfl (sl_4 W) (kk hK)
   ·exact st_call4 (og ho) 146 (.tmp 43) (.tmp 44) (.tmp 45) (.tmp 46) #[23, 3, 64, 179] (oo ho) (ri 5 (da ho hf 5)) (ri 6 (da ho hf 6)) (ri 7 (da ho hf 7)) (ri 8 (da ho hf 8)) (fun _ _ => rfl) (hs2 W ((hg2.call hC))) (by rintro u w9 ⟨h9, hb9⟩; injection h9 with h9; subst h9; exact hK _ _ hb9 rfl) (fun _ _ h => nomatch h.1) (fun _ h => nomatch h.1)
   ·exact st_bin (og ho) .or 64 64 (.tmp 42) (.tmp 47) (oo ho) (ri 4 (da ho hf 4)) (ri 9 (da ho hf 9)) (gu_i _ _ _ _ _ _ _ _) (bin64_orE o1.out) (kk hK)
   ·exact st_assign (og ho) (.tmp 48) (oo ho) (ri 10 (da ho hf 10)) (kk hK)
   ·exact st_assign (og ho) (.const (.int .i64 0)) (oo ho) rfl (kk hK)
   ·omega
  case hend =>
   intro f9 W hC hf
   have hv := hf 11 (by decide)
   have hz := hf 12 (by decide)
   replace hv : f9 11 = .int .u64 (SQ : Nat) := hv
   replace hz : f9 12 = .int .i64 0 := hz
   have hBW := below_call hB2 hB2.size hC
   clear hf
   simp only [putL, Act.put, List.setIfInBounds_toArray, List.set_cons_succ, List.set_cons_zero]
   rw [hv, hz]
   go_wp2_with fail
   go_ret2
   exact ⟨by rw [e0.out]; rfl, hBW⟩
 ·have e0 : Hid (RW 6 = LK) := Lib.hid (by rw [hrw]; simp)
  clear hrw
  go_enter Tryz.func93, Tryz.ntmps93
  go_wp2_with fail
  refine (hon _).mono ?_
  rintro e w2 ⟨rfl, hb2⟩
  have hA2 := hA.call hb2
  have hB2 := below_call hB hB.size hb2
  have hg2 := hgA.call hb2
  clear hc0 hl0 hA hB hb2 hon hgA
  have hA := hA2
  have hc2 := hA2.cells
  have hl2 := hA2.lt
  go_wp2_with fail
  refine wp_region_vl (by kernel_rfl) (by kernel_rfl) [some 51, some 52, some 53, some 54, some 55, some 56, some 57, some 58, some 59, some 8, some 9] (by rfl) (by rfl) w2.heap.size (fun i8 => match i8 with | 0 => .agg #[.int .i64 (F : Int), .int .i64 (R : Int)] | 1 => .int .i64 ((a : Nat) : Int) | 2 => .slice (some ⟨6, 0, none⟩) 4 4 | 3 => .int .u64 (LD : Nat) | 4 => .agg #[.int .i64 (F : Int), .int .i64 (R : Int)] | 5 => .int .i64 ((a : Nat) : Int) | 6 => .slice (some ⟨7, 0, none⟩) 4 4 | 7 => .int .u64 (LS : Nat) | 8 => .int .u64 (LK : Nat) | 9 => .int .u64 (LK : Nat) | 10 => .int .i64 0 | _ => undef) (fun _ => none) ?hstep ?hend
  case hstep =>
   intro i9 o9 f9 W ho hi hC hf K hK
   have hi : i9 < 11 := hi
   rcases i9 with _ | _ | _ | _ | _ | _ | _ | _ | _ | _ | _ | i9
   ·exact st_loadA (og ho) 23 (.tmp 4) (oo ho) (rd_out rfl rfl) [.int .i64 (F : Int), .int .i64 (R : Int)] (by kernel_rfl) (fun j v hv => by rw [Nat.zero_add, (hA.call hC).cells j]; simpa using hv) (kk hK)
   ·exact st_move (og ho) (.tmp 2) (oo ho) (rd_out rfl rfl) (kk hK)
   ·exact st_slice (og ho) 184 (.global 6) none none none (oo ho) rfl rfl rfl rfl (sl_3 W) (kk hK)
   ·exact st_call3 (og ho) 145 (.tmp 51) (.tmp 52) (.tmp 53) #[23, 3, 179] (oo ho) (ri 0 (da ho hf 0)) (ri 1 (da ho hf 1)) (ri 2 (da ho hf 2)) (fun _ _ => rfl) (hm2 W ((hg2.call hC))) (by rintro u w9 ⟨h9, hb9⟩; injection h9 with h9; subst h9; exact hK _ _ hb9 rfl) (fun _ _ h => nomatch h.1) (fun _ h => nomatch h.1)
   ·exact st_loadA (og ho) 23 (.tmp 4) (oo ho) (rd_out rfl rfl) [.int .i64 (F : Int), .int .i64 (R : Int)] (by kernel_rfl) (fun j v hv => by rw [Nat.zero_add, (hA.call hC).cells j]; simpa using hv) (kk hK)
   ·exact st_move (og ho) (.tmp 2) (oo ho) (rd_out rfl rfl) (kk hK)
   ·exact st_slice (og ho) 184 (.global 7) none none none (oo ho) rfl rfl rfl rfl (sl_4 W) (kk hK)
   ·exact st_call3 (og ho) 145 (.tmp 55) (.tmp 56) (.tmp 57) #[23, 3, 179] (oo ho) (ri 4 (da ho hf 4)) (ri 5 (da ho hf 5)) (ri 6 (da ho hf 6)) (fun _ _ => rfl) (hm3 W ((hg2.call hC))) (by rintro u w9 ⟨h9, hb9⟩; injection h9 with h9; subst h9; exact hK _ _ hb9 rfl) (fun _ _ h => nomatch h.1) (fun _ h => nomatch h.1)
   ·exact st_bin (og ho) .or 64 64 (.tmp 54) (.tmp 58) (oo ho) (ri 3 (da ho hf 3)) (ri 7 (da ho hf 7)) (gu_i _ _ _ _ _ _ _ _) (bin64_orE o2.out) (kk hK)
   ·exact st_assign (og ho) (.tmp 59) (oo ho) (ri 8 (da ho hf 8)) (kk hK)
   ·exact st_assign (og ho) (.const (.int .i64 0)) (oo ho) rfl (kk hK)
   ·omega
  case hend =>
   intro f9 W hC hf
   have hv := hf 9 (by decide)
   have hz := hf 10 (by decide)
   replace hv : f9 9 = .int .u64 (LK : Nat) := hv
   replace hz : f9 10 = .int .i64 0 := hz
   have hBW := below_call hB2 hB2.size hC
   clear hf
   simp only [putL, Act.put, List.setIfInBounds_toArray, List.set_cons_succ, List.set_cons_zero]
   rw [hv, hz]
   go_wp2_with fail
   go_ret2
   exact ⟨by rw [e0.out]; rfl, hBW⟩
def atW (F R oc : Nat) (x : Int) (a : Nat) : Nat := if kindI x = 1 then leapW F R a (pwnL (decide (x < 0))) 2 else reachW F R a oc (kindI x)
theorem atW_lt (F R oc : Nat) (x : Int) (a : Nat) : atW F R oc x a < 2 ^ (F * R) := by
 unfold atW
 split
 ·exact leapW_lt _ _
 ·exact reachW_lt _
set_option maxRecDepth 100000 in
theorem of_any0 (F R a oc : Nat) (x : Int) (p : Option Addr) (c : Nat) (xs : List Int) (hF : 3 ≤ F ∧ F ≤ 8) (hR : 3 ≤ R ∧ R ≤ 8) (hlen : xs.length = F * R) (ha : a < F * R) (hoc : oc < 2 ^ (F * R)) (hxa : xs[a]?.getD 0 = x) (hx6 : -6 ≤ x ∧ x ≤ 6) (hx0 : x ≠ 0) (w : World) (hg : GlobOk w) (hx : Arr .i8 w p xs) :
  Calls Tryz.prog 177 #[.agg (bdCs F R p xs.length c).toArray, .int .i64 a, .int .u64 (oc : Nat)] w fun e w' => e = .returned (.int .u64 (atW F R oc x a : Nat)) ∧ Below w.heap.size w w' := by
 have hA := HasO.new w (.cells (bdCs F R p xs.length c).toArray 68)
 have hB := below_box w (.cells (bdCs F R p xs.length c).toArray 68)
 have hlt : a < xs.length := by omega
 obtain ⟨ha64, _⟩ := sq_bd hF hR ha
 have hii : (a : Int) < xs.length := by omega
 obtain ⟨g, o, rfl, hgl, hcc⟩ := (hx.call hB).at hlt
 have hci := hcc a hlt
 rw [hxa] at hci
 clear hcc hxa
 have hpw := fun bl W => pawn_any F R a bl hF hR ha W
 have hre := fun k hk W h => reach_any F R a oc k hk hF hR ha hoc W h
 have hgA := hg.call hB
 have hof : atW F R oc x a = if kindI x = 1 then leapW F R a (pwnL (decide (x < 0))) 2 else reachW F R a oc (kindI x) := rfl
 generalize atW F R oc x a = V at *
 have h0 := hA.cells 0
 have h1 := hA.cells 1
 have hl0 := hA.lt
 replace hlen := Lib.hid hlen
 rcases (by omega : x = 1 ∨ x = -1 ∨ (2 ≤ x ∧ x ≤ 6) ∨ (-6 ≤ x ∧ x ≤ -2)) with rfl | rfl | hx2 | hx2
 ·replace hof : Hid (V = leapW F R a (pwnL false) 2) := Lib.hid hof
  have hpw := hpw false
  go_enter Tryz.func177, Tryz.ntmps177
  go_wp2_with fail
  refine (hpw _).mono ?_
  rintro e w2 ⟨rfl, hb2⟩
  go_wp2_with fail
  go_ret
  exact ⟨by rw [hof.out]; rfl, below_call hB hB.size hb2⟩
 ·replace hof : Hid (V = leapW F R a (pwnL true) 2) := Lib.hid hof
  have hpw := hpw true
  go_enter Tryz.func177, Tryz.ntmps177
  go_wp2_with fail
  refine (hpw _).mono ?_
  rintro e w2 ⟨rfl, hb2⟩
  go_wp2_with fail
  go_ret
  exact ⟨by rw [hof.out]; rfl, below_call hB hB.size hb2⟩
 ·have hk : kindI x = x := by unfold kindI; rw [if_neg (by omega)]
  rw [hk, if_neg (by omega)] at hof
  replace hof := Lib.hid hof
  have hre := hre x (by omega)
  have hmx : max x (-x) = x := by omega
  have hnw : IntKind.i8.wrap (-x) = -x := i8_in (by omega) (by omega)
  go_enter Tryz.func177, Tryz.ntmps177
  go_wp2_with fail
  refine (hre _ hgA).mono ?_
  rintro e w2 ⟨rfl, hb2⟩
  go_wp2_with fail
  go_ret
  exact ⟨by rw [hof.out]; rfl, below_call hB hB.size hb2⟩
 ·have hk : kindI x = -x := by unfold kindI; rw [if_pos (by omega)]
  rw [hk, if_neg (by omega)] at hof
  replace hof := Lib.hid hof
  have hre := hre (-x) (by omega)
  have hmx : max x (-x) = -x := by omega
  have hnw : IntKind.i8.wrap (-x) = -x := i8_in (by omega) (by omega)
  go_enter Tryz.func177, Tryz.ntmps177
  go_wp2_with fail
  refine (hre _ hgA).mono ?_
  rintro e w2 ⟨rfl, hb2⟩
  go_wp2_with fail
  go_ret
  exact ⟨by rw [hof.out]; rfl, below_call hB hB.size hb2⟩
def atrW (F R oc : Nat) (xs : List Int) (a : Nat) (bl : Bool) : Nat → Nat
 | 0 => 0
 | k + 1 => if decide (sgnI (xs[k]?.getD 0) = sdI bl) && (atW F R oc (xs[k]?.getD 0) k).testBit a then atrW F R oc xs a bl k ||| 2 ^ k else atrW F R oc xs a bl k
theorem atrW_lt (F R oc : Nat) (xs : List Int) (a : Nat) (bl : Bool) (k : Nat) : atrW F R oc xs a bl k < 2 ^ k := by
 induction k with
 | zero => simp [atrW]
 | succ k ih =>
  have h1 : (2 : Nat) ^ k ≤ 2 ^ (k + 1) := Nat.pow_le_pow_right (by decide) (by omega)
  simp only [atrW]
  split
  ·exact Nat.or_lt_two_pow (by omega) (Nat.pow_lt_pow_right (by decide) (by omega))
  ·omega
theorem orth6 {f r : Int} {xs : List Int} (h : orthB f r xs = true) : ∀ x ∈ xs, -6 ≤ x ∧ x ≤ 6 := by
 obtain ⟨_, _, _, _, _, _, _, _, h6⟩ := orthB_fact h
 exact h6
set_option maxRecDepth 100000 in
theorem attackers_any (F R a : Nat) (bl : Bool) (p : Option Addr) (c : Nat) (xs : List Int) (hF : 3 ≤ F ∧ F ≤ 8) (hR : 3 ≤ R ∧ R ≤ 8) (hlen : xs.length = F * R) (ha : a < F * R) (hor : orthB F R xs = true) (w : World) (hg : GlobOk w) (hx : Arr .i8 w p xs) :
  Calls Tryz.prog 124 #[.agg (bdCs F R p xs.length c).toArray, .int .i64 a, .bool bl] w fun e w' => e = .returned (.int .u64 (atrW F R (setW gNon xs xs.length) xs a bl xs.length : Nat)) ∧ Below w.heap.size w w' := by
 have hA := HasO.new w (.cells (bdCs F R p xs.length c).toArray 68)
 have hB := below_box w (.cells (bdCs F R p xs.length c).toArray 68)
 have hl64 : xs.length ≤ 64 := by rw [hlen]; exact Nat.mul_le_mul hF.2 hR.2
 have h6 := orth6 hor
 have hbo : boardB F R xs = true := by unfold orthB at hor; simp only [Bool.and_eq_true] at hor; exact hor.1
 have hoc := fun W h => occupied_any F R p c xs W h hbo
 have hocl : setW gNon xs xs.length < 2 ^ (F * R) := by
  rw [← hlen]
  apply Nat.lt_pow_two_of_testBit
  intro i hi
  rw [setW_bit]; simp; omega
 have hof := fun k x hk h1 h2 h3 W h4 h5 => of_any0 F R k (setW gNon xs xs.length) x p c xs hF hR hlen hk hocl h1 h2 h3 W h4 h5
 have hal := fun k => atrW_lt F R (setW gNon xs xs.length) xs a bl k
 have hbl := fun x k => atW_lt F R (setW gNon xs xs.length) x k
 have hnx0 : ∀ k, atrW F R (setW gNon xs xs.length) xs a bl (k + 1) = if decide (sgnI (xs[k]?.getD 0) = sdI bl) && (atW F R (setW gNon xs xs.length) (xs[k]?.getD 0) k).testBit a then atrW F R (setW gNon xs xs.length) xs a bl k ||| 2 ^ k else atrW F R (setW gNon xs xs.length) xs a bl k := fun k => rfl
 have hz : atrW F R (setW gNon xs xs.length) xs a bl 0 = 0 := rfl
 generalize atrW F R (setW gNon xs xs.length) xs a bl = AW at *
 generalize atW F R (setW gNon xs xs.length) = OW at *
 generalize setW gNon xs xs.length = oc at *
 have ha64 : a < 64 := by omega
 have hai : (a : Int) < 64 := by omega
 have hpw := pow_FR hF hR
 have h0 := hA.cells 0
 have h1 := hA.cells 1
 have h2 := hA.cells 2
 have hl0 := hA.lt
 replace hlen := Lib.hid hlen
 go_enter Tryz.func124, Tryz.ntmps124
 go_wp2_with fail
 refine (hoc _ (hx.call hB)).mono ?_
 rintro e w2 ⟨rfl, hb2⟩
 have hA2 := hA.call hb2
 have hB2 := below_call hB hB.size hb2
 have hg2 := hg.call hB2
 have hx2 := hx.call hB2
 clear h0 h1 h2 hl0 hA hB hb2 hg hx hoc
 have h0 := hA2.cells 0
 have h1 := hA2.cells 1
 have h2 := hA2.cells 2
 have hl0 := hA2.lt
 go_wp2_with fail
 go_loopg [7, 16] 65 (fun q sv iv wr => ∃ i : Nat, q + i = 65 ∧ i ≤ xs.length ∧ iv = .int .i64 i ∧ sv = .int .u64 (AW i : Nat) ∧ Below w2.heap.size w2 wr)
 case atStart => exact ⟨0, rfl, Nat.zero_le _, rfl, by rw [hz]; rfl, Below.refl _ _⟩
 case round =>
  obtain ⟨i, hq, hi, rfl, rfl, hbr⟩ := hrel
  have hAr := hA2.call hbr
  have hBr := below_call hB2 hB2.size hbr
  have h0 := hAr.cells 0
  have h1 := hAr.cells 1
  have h2 := hAr.cells 2
  have hl0 := hAr.lt
  by_cases hlt : i < xs.length
  ·have hii : (i : Int) < xs.length := by omega
   have hgr := hg2.call hbr
   have hxr := hx2.call hbr
   have hxr0 := hxr
   obtain ⟨g, o, rfl, hgl, hcc⟩ := hxr.at hlt
   have hci := hcc i hlt
   have hnx := hnx0 i
   have hali := hal i
   obtain ⟨x, hx⟩ : ∃ x, x = xs[i]?.getD 0 := ⟨_, rfl⟩
   have hx6 : -6 ≤ x ∧ x ≤ 6 := h6 x (by rw [hx, List.getElem?_eq_getElem hlt]; exact List.getElem_mem hlt)
   rw [← hx] at hci hnx
   have hiF : i < F * R := by rw [← hlen.out]; exact hlt
   have hofi := hof i x hiF hx.symm hx6
   have hbli := hbl x i
   replace hx := Lib.hid hx
   clear hcc
   generalize AW i = S at *
   generalize OW x i = V at *
   have hV64 : V < 2 ^ 64 := Nat.lt_of_lt_of_le hbli hpw
   have c8 := bit_and (x := a) hV64
   have hi64 : i < 64 := by omega
   have hi64' : (i : Int) < 64 := by omega
   have hS64 : S < 18446744073709551616 := Nat.lt_of_lt_of_le hali (Nat.pow_le_pow_right (n := 2) (by decide) (by omega : i ≤ 64))
   have wo : bits .or .u64 (S : Int) (IntKind.u64.wrap (2 ^ i)) = ((S ||| 2 ^ i : Nat) : Int) := or_bit hS64 hi64
   go_wp2_with fail
   refine (is_any x bl _).mono ?_
   rintro e w4 ⟨rfl, rfl⟩
   rcases hs : decide (sgnI x = sdI bl) with _ | _
   ·rw [hs] at hnx
    replace hnx := Lib.hid (hnx.trans (if_neg (by simp)))
    go_wp2_with fail
    go_roundg (gk - 1)
    case measure => omega
    case rel => exact ⟨i + 1, by omega, by omega, by go_num, by rw [hnx.out], hbr⟩
   ·have hxn : x ≠ 0 := by
     rintro rfl
     simp only [decide_eq_true_eq] at hs
     unfold sgnI sdI at hs
     cases bl <;> simp at hs
    have hofi := hofi hxn
    rw [hs, Bool.true_and] at hnx
    replace hs := Lib.hid hs
    go_wp2_with fail
    refine (hofi _ hgr hxr0).mono ?_
    rintro e w5 ⟨rfl, hb5⟩
    have hb6 := below_call hbr hbr.size hb5
    rcases ht : V.testBit a with _ | _
    ·rw [ht] at hnx c8
     replace hnx := Lib.hid (hnx.trans (if_neg (by simp)))
     go_wp2_with fail
     go_roundg (gk - 1)
     case measure => omega
     case rel => exact ⟨i + 1, by omega, by omega, by go_num, by rw [hnx.out], hb6⟩
    ·rw [ht] at hnx c8
     replace hnx := Lib.hid (hnx.trans (if_pos rfl))
     replace wo := Lib.hid wo
     go_wp2_with fail
     go_roundg (gk - 1)
     case measure => omega
     case rel =>
      refine ⟨i + 1, by omega, by omega, by go_num, ?_, hb6⟩
      rw [wo.out, hnx.out]
  ·have hii : ¬ (i : Int) < xs.length := by omega
   obtain rfl : i = xs.length := by omega
   go_wp2_with fail
   go_ret
   exact ⟨rfl, hBr⟩
end Go.Proofs.YtefmplccbkmalaaGreatDoor
