import Derived.Test.YtnpomigmeieofaaGreatDoorI22
namespace Go.Proofs.YtnpomigmeieofaaGreatDoor
open Go.RowKit

def leapsL : List (Int × Int) := [(1, 2), (2, 1), (2, -1), (1, -2), (-1, -2), (-2, -1), (-2, 1), (-1, 2)]
def diagL : List (Int × Int) := [(1, 1), (-1, 1), (-1, -1), (1, -1)]
def strL : List (Int × Int) := [(1, 0), (0, 1), (-1, 0), (0, -1)]
def GlobOk (w : World) : Prop := StepArr w 2 0 leapsL ∧ StepArr w 3 0 diagL ∧ StepArr w 4 0 strL ∧ w.cell? ⟨1, 0, none⟩ = some (.int .i64 8) ∧ w.cell? ⟨1, 1, none⟩ = some (.int .i64 8)
theorem GlobOk.call {w w' : World} (h : GlobOk w) (hb : Below w.heap.size w w') : GlobOk w' := by
 obtain ⟨h1, h2, h3, h4, h5⟩ := h
 have hs := h3.1
 exact ⟨h1.call hb, h2.call hb, h3.call hb, (hb.cell (p := ⟨1, 0, none⟩) (by show 1 < w.heap.size; omega)).trans h4, (hb.cell (p := ⟨1, 1, none⟩) (by show 1 < w.heap.size; omega)).trans h5⟩
theorem sl_2 (W : World) : (Instr.sliceAt 236 (.pointer (some ⟨2, 0, none⟩)) none none none).run Tryz.prog W = .ok (.slice (some ⟨2, 0, none⟩) 8 8) W := by kernel_rfl
theorem sl_3 (W : World) : (Instr.sliceAt 238 (.pointer (some ⟨3, 0, none⟩)) none none none).run Tryz.prog W = .ok (.slice (some ⟨3, 0, none⟩) 4 4) W := by kernel_rfl
theorem sl_4 (W : World) : (Instr.sliceAt 238 (.pointer (some ⟨4, 0, none⟩)) none none none).run Tryz.prog W = .ok (.slice (some ⟨4, 0, none⟩) 4 4) W := by kernel_rfl
theorem leaps_bd : ∀ x ∈ leapsL, (-2 ≤ x.1 ∧ x.1 ≤ 2) ∧ (-2 ≤ x.2 ∧ x.2 ≤ 2) := by decide
theorem diag_bd : ∀ x ∈ diagL, (-2 ≤ x.1 ∧ x.1 ≤ 2) ∧ (-2 ≤ x.2 ∧ x.2 ≤ 2) := by decide
theorem str_bd : ∀ x ∈ strL, (-2 ≤ x.1 ∧ x.1 ≤ 2) ∧ (-2 ≤ x.2 ∧ x.2 ≤ 2) := by decide
theorem slideDiag_any (F R a oc : Nat) (hF : 3 ≤ F ∧ F ≤ 8) (hR : 3 ≤ R ∧ R ≤ 8) (ha : a < F * R) (hoc : oc < 2 ^ 64) (w : World) (hg : GlobOk w) :
  Calls Tryz.prog 215 #[.agg #[.int .i64 F, .int .i64 R], .int .i64 a, .int .u64 (oc : Nat), .slice (some ⟨3, 0, none⟩) 4 4] w fun e w' => e = .returned (.int .u64 (slideW F R a oc diagL 4 : Nat)) ∧ Below w.heap.size w w' :=
 slide_any F R a oc 3 0 4 diagL _ _ _ _ _ _ _ _ rfl hF hR ha (by decide) (by decide) (by decide) (by decide) (by decide) (by decide) (by decide) (by decide) (by decide) (by decide) (by decide) (by decide) hoc w hg.2.1
theorem slideStr_any (F R a oc : Nat) (hF : 3 ≤ F ∧ F ≤ 8) (hR : 3 ≤ R ∧ R ≤ 8) (ha : a < F * R) (hoc : oc < 2 ^ 64) (w : World) (hg : GlobOk w) :
  Calls Tryz.prog 215 #[.agg #[.int .i64 F, .int .i64 R], .int .i64 a, .int .u64 (oc : Nat), .slice (some ⟨4, 0, none⟩) 4 4] w fun e w' => e = .returned (.int .u64 (slideW F R a oc strL 4 : Nat)) ∧ Below w.heap.size w w' :=
 slide_any F R a oc 4 0 4 strL _ _ _ _ _ _ _ _ rfl hF hR ha (by decide) (by decide) (by decide) (by decide) (by decide) (by decide) (by decide) (by decide) (by decide) (by decide) (by decide) (by decide) hoc w hg.2.2.1
theorem leapLeaps_any (F R a : Nat) (hF : 3 ≤ F ∧ F ≤ 8) (hR : 3 ≤ R ∧ R ≤ 8) (ha : a < F * R) (w : World) (hg : GlobOk w) :
  Calls Tryz.prog 213 #[.agg #[.int .i64 F, .int .i64 R], .int .i64 a, .slice (some ⟨2, 0, none⟩) 8 8] w fun e w' => e = .returned (.int .u64 (leapW F R a leapsL 8 : Nat)) ∧ Below w.heap.size w w' :=
 leap_any F R a 2 0 8 leapsL hF hR ha leaps_bd (by decide) w hg.1
theorem leapDiag_any (F R a : Nat) (hF : 3 ≤ F ∧ F ≤ 8) (hR : 3 ≤ R ∧ R ≤ 8) (ha : a < F * R) (w : World) (hg : GlobOk w) :
  Calls Tryz.prog 213 #[.agg #[.int .i64 F, .int .i64 R], .int .i64 a, .slice (some ⟨3, 0, none⟩) 4 4] w fun e w' => e = .returned (.int .u64 (leapW F R a diagL 4 : Nat)) ∧ Below w.heap.size w w' :=
 leap_any F R a 3 0 4 diagL hF hR ha diag_bd (by decide) w hg.2.1
theorem leapStr_any (F R a : Nat) (hF : 3 ≤ F ∧ F ≤ 8) (hR : 3 ≤ R ∧ R ≤ 8) (ha : a < F * R) (w : World) (hg : GlobOk w) :
  Calls Tryz.prog 213 #[.agg #[.int .i64 F, .int .i64 R], .int .i64 a, .slice (some ⟨4, 0, none⟩) 4 4] w fun e w' => e = .returned (.int .u64 (leapW F R a strL 4 : Nat)) ∧ Below w.heap.size w w' :=
 leap_any F R a 4 0 4 strL hF hR ha str_bd (by decide) w hg.2.2.1
def pwnL (bl : Bool) : List (Int × Int) := [(-1, sdI bl), (1, sdI bl)]
set_option maxRecDepth 100000 in
set_option maxHeartbeats 1600000 in
theorem pawn_any (F R a : Nat) (bl : Bool) (hF : 3 ≤ F ∧ F ≤ 8) (hR : 3 ≤ R ∧ R ≤ 8) (ha : a < F * R) (w : World) :
  Calls Tryz.prog 204 #[.agg #[.int .i64 F, .int .i64 R], .bool bl, .int .i64 a] w fun e w' => e = .returned (.tuple #[.int .u64 (leapW F R a (pwnL bl) 2 : Nat), .int .i64 0]) ∧ Below w.heap.size w w' := by
 have hA := HasO.new w (.cells #[.int .i64 (F : Int), .int .i64 (R : Int)] 23)
 have hB := below_box w (.cells #[.int .i64 (F : Int), .int .i64 (R : Int)] 23)
 have hsv := fun W => sqValid_any F R a W
 rw [sqB_nat hF hR ha] at hsv
 have hlp := fun g W h => leap_any F R a g 0 2 (pwnL bl) hF hR ha (by cases bl <;> decide) (by simp [pwnL]) W h
 have hfw := fun W => forward_any bl W
 have hpl : pwnL bl = [(-1, sdI bl), (1, sdI bl)] := rfl
 rw [show (pwnL bl).length = 2 from rfl] at hlp
 generalize leapW F R a (pwnL bl) 2 = V at *
 generalize pwnL bl = PL at *
 generalize sdI bl = up at *
 replace hpl := Lib.hid hpl
 have hc0 := hA.cells
 have hl0 := hA.lt
 go_enter Tryz.func204, Tryz.ntmps204
 go_wp2_with fail
 refine (hsv _).mono ?_
 rintro e w2 ⟨rfl, hb2⟩
 have hA2 := hA.call hb2
 have hB2 := below_call hB hB.size hb2
 clear hc0 hl0 hA hB hb2 hsv
 have hc2 := hA2.cells
 have hl2 := hA2.lt
 go_wp2_with fail
 refine (hfw _).mono ?_
 rintro e w3 ⟨rfl, rfl⟩
 go_wp2_with fail
 have hNb := below_box w2 (.cells #[.int .i64 (-1), .int .i64 up, .int .i64 1, .int .i64 up] 233)
 have hN := HasO.new w2 (.cells #[.int .i64 (-1), .int .i64 up, .int .i64 1, .int .i64 up] 233)
 refine (hlp _ _ ?_).mono ?_
 ·rw [hpl.out]
  refine ⟨hN.lt, fun j hj => ?_⟩
  have hj2 : j < 2 := hj
  rcases (by omega : j = 0 ∨ j = 1) with rfl | rfl
  ·exact ⟨hN.cells 0, hN.cells 1⟩
  ·exact ⟨hN.cells 2, hN.cells 3⟩
 rintro e w4 ⟨rfl, hb4⟩
 go_wp2_with fail
 go_ret2
 exact ⟨rfl, below_call (below_call hB2 hB2.size hNb) (Nat.le_trans hB2.size hNb.size) hb4⟩
theorem bin64_orE {x y z : Int} {W : World} (h : bits .or .u64 x y = z) : (binOp .or 170 (.int .u64 x) (.int .u64 y)).run Tryz.prog W = .ok (.int .u64 z) W := by rw [bin64_or, h]
def reachW (F R a oc : Nat) (k : Int) : Nat :=
 if k = 2 then leapW F R a leapsL 8 else if k = 3 then slideW F R a oc diagL 4 else if k = 4 then slideW F R a oc strL 4
 else if k = 5 then slideW F R a oc diagL 4 ||| slideW F R a oc strL 4 else leapW F R a diagL 4 ||| leapW F R a strL 4
theorem slideW_lt {F R a oc : Nat} (st : List (Int × Int)) : ∀ k, slideW F R a oc st k < 2 ^ (F * R) := by
 intro k
 induction k with
 | zero => simp [slideW, Nat.two_pow_pos]
 | succ k ih => exact slideR_lt _ _ (fun x hx => by have := rayL_sq x hx; rw [← Int.natCast_mul] at this; exact this) ih
theorem reachW_lt {F R a oc : Nat} (k : Int) : reachW F R a oc k < 2 ^ (F * R) := by
 unfold reachW
 split
 ·exact leapW_lt _ _
 split
 ·exact slideW_lt _ _
 split
 ·exact slideW_lt _ _
 split
 ·exact Nat.or_lt_two_pow (slideW_lt _ _) (slideW_lt _ _)
 ·exact Nat.or_lt_two_pow (leapW_lt _ _) (leapW_lt _ _)
set_option maxRecDepth 100000 in
set_option maxHeartbeats 3200000 in
theorem reach_any (F R a oc : Nat) (k : Int) (hk : 2 ≤ k ∧ k ≤ 6) (hF : 3 ≤ F ∧ F ≤ 8) (hR : 3 ≤ R ∧ R ≤ 8) (ha : a < F * R) (hoc : oc < 2 ^ (F * R)) (w : World) (hg : GlobOk w) :
  Calls Tryz.prog 205 #[.agg #[.int .i64 F, .int .i64 R], .int .i8 k, .int .i64 a, .int .u64 (oc : Nat)] w fun e w' => e = .returned (.tuple #[.int .u64 (reachW F R a oc k : Nat), .int .i64 0]) ∧ Below w.heap.size w w' := by
 have hA := HasO.new w (.cells #[.int .i64 (F : Int), .int .i64 (R : Int)] 23)
 have hB := below_box w (.cells #[.int .i64 (F : Int), .int .i64 (R : Int)] 23)
 have hon := fun W => rayOn_any F R a oc hF hR ha hoc W
 have hoc64 : oc < 2 ^ 64 := Nat.lt_of_lt_of_le hoc (pow_FR hF hR)
 have hm1 := fun W h => leapLeaps_any F R a hF hR ha W h
 have hm2 := fun W h => leapDiag_any F R a hF hR ha W h
 have hm3 := fun W h => leapStr_any F R a hF hR ha W h
 have hs1 := fun W h => slideDiag_any F R a oc hF hR ha hoc64 W h
 have hs2 := fun W h => slideStr_any F R a oc hF hR ha hoc64 W h
 have hb1 := slideW_lt (a := a) (F := F) (R := R) (oc := oc) diagL 4
 have hb2 := slideW_lt (F := F) (R := R) (a := a) (oc := oc) strL 4
 have hb3 := leapW_lt (F := F) (R := R) (a := a) diagL 4
 have hb4 := leapW_lt (F := F) (R := R) (a := a) strL 4
 have hp := pow_FR hF hR
 have o1 : bits .or .u64 ((slideW F R a oc diagL 4 : Nat) : Int) ((slideW F R a oc strL 4 : Nat) : Int) = ((slideW F R a oc diagL 4 ||| slideW F R a oc strL 4 : Nat) : Int) := u64_or_nat _ _ (Nat.lt_of_lt_of_le hb1 hp) (Nat.lt_of_lt_of_le hb2 hp)
 have o2 : bits .or .u64 ((leapW F R a diagL 4 : Nat) : Int) ((leapW F R a strL 4 : Nat) : Int) = ((leapW F R a diagL 4 ||| leapW F R a strL 4 : Nat) : Int) := u64_or_nat _ _ (Nat.lt_of_lt_of_le hb3 hp) (Nat.lt_of_lt_of_le hb4 hp)
 have hrw : ∀ k, reachW F R a oc k = if k = 2 then leapW F R a leapsL 8 else if k = 3 then slideW F R a oc diagL 4 else if k = 4 then slideW F R a oc strL 4
  else if k = 5 then slideW F R a oc diagL 4 ||| slideW F R a oc strL 4 else leapW F R a diagL 4 ||| leapW F R a strL 4 := fun _ => rfl
 generalize reachW F R a oc = RW at *
 generalize slideW F R a oc diagL 4 = SD at *
 generalize slideW F R a oc strL 4 = SS at *
 generalize leapW F R a diagL 4 = LD at *
 generalize leapW F R a strL 4 = LS at *
 generalize leapW F R a leapsL 8 = LL at *
 clear hb1 hb2 hb3 hb4 hp hoc
 generalize SD ||| SS = SQ at *
 generalize LD ||| LS = LK at *
 replace o1 := Lib.hid o1
 replace o2 := Lib.hid o2
 have hc0 := hA.cells
 have hl0 := hA.lt
 have hgA := hg.call hB
 rcases (by omega : k = 2 ∨ k = 3 ∨ k = 4 ∨ k = 5 ∨ k = 6) with rfl | rfl | rfl | rfl | rfl
 ·have e0 : Hid (RW 2 = LL) := Lib.hid (by rw [hrw]; simp)
  clear hrw
  go_enter Tryz.func205, Tryz.ntmps205
  go_wp2_with fail
  refine (hon _).mono ?_
  rintro e w2 ⟨rfl, hb2⟩
  have hA2 := hA.call hb2
  have hB2 := below_call hB hB.size hb2
  have hg2 := hgA.call hb2
  clear hc0 hl0 hA hB hb2 hon hgA
  have hA := hA2
  have hc2 := hA2.cells
  have hl2 := hA2.lt
  go_wp2_with fail
  refine wp_region_vl (by kernel_rfl) (by kernel_rfl) [some 18, some 19, some 20, some 21, some 8, some 9] (by rfl) (by rfl) w2.heap.size (fun i8 => match i8 with | 0 => .agg #[.int .i64 (F : Int), .int .i64 (R : Int)] | 1 => .int .i64 ((a : Nat) : Int) | 2 => .slice (some ⟨2, 0, none⟩) 8 8 | 3 => .int .u64 (LL : Nat) | 4 => .int .u64 (LL : Nat) | 5 => .int .i64 0 | _ => undef) (fun _ => none) ?hstep ?hend
  case hstep =>
   intro i9 o9 f9 W ho hi hC hf K hK
   have hi : i9 < 6 := hi
   rcases (by omega : i9 = 0 ∨ i9 = 1 ∨ i9 = 2 ∨ i9 = 3 ∨ i9 = 4 ∨ i9 = 5) with rfl | rfl | rfl | rfl | rfl | rfl
   ·exact st_loadA (og ho rfl) 23 (.tmp 4) (oo ho rfl) (rd_out rfl rfl) [.int .i64 (F : Int), .int .i64 (R : Int)] (by kernel_rfl) (fun j v hv => by rw [Nat.zero_add, (hA.call hC).cells j]; simpa using hv) (hK _ _ (Below.refl _ _) rfl)
   ·exact st_move (og ho rfl) (.tmp 2) (oo ho rfl) (rd_out rfl rfl) (hK _ _ (Below.refl _ _) rfl)
   ·exact st_slice (og ho rfl) 236 (.global 2) none none none (oo ho rfl) rfl rfl rfl rfl (sl_2 W) (hK _ _ (Below.refl _ _) rfl)
   ·exact st_call3 (og ho rfl) 213 (.tmp 18) (.tmp 19) (.tmp 20) #[23, 3, 235] (oo ho rfl) (ri 0 (hf ⟨0, .data⟩ (oa ho rfl) rfl)) (ri 1 (hf ⟨1, .data⟩ (oa ho rfl) rfl)) (ri 2 (hf ⟨2, .data⟩ (oa ho rfl) rfl)) (fun _ _ => rfl) (hm1 W ((hg2.call hC))) (by rintro u w9 ⟨h9, hb9⟩; injection h9 with h9; subst h9; exact hK _ _ hb9 rfl) (by rintro ch w9 h9; revert h9; rintro ⟨h9, _⟩; cases h9) (by rintro w9 h9; revert h9; rintro ⟨h9, _⟩; cases h9)
   ·exact st_assign (og ho rfl) (.tmp 21) (oo ho rfl) (ri 3 (hf ⟨3, .data⟩ (oa ho rfl) rfl)) (hK _ _ (Below.refl _ _) rfl)
   ·exact st_assign (og ho rfl) (.const (.int .i64 0)) (oo ho rfl) rfl (hK _ _ (Below.refl _ _) rfl)
  case hend =>
   intro f9 W hC hf
   have hv := hf 4 (by decide)
   have hz := hf 5 (by decide)
   replace hv : f9 4 = .int .u64 (LL : Nat) := hv
   replace hz : f9 5 = .int .i64 0 := hz
   have hBW := below_call hB2 hB2.size hC
   clear hf
   simp only [putL, Act.put, List.setIfInBounds_toArray, List.set_cons_succ, List.set_cons_zero]
   rw [hv, hz]
   go_wp2_with fail
   go_ret2
   exact ⟨by rw [e0.out]; rfl, hBW⟩
 ·have e0 : Hid (RW 3 = SD) := Lib.hid (by rw [hrw]; simp)
  clear hrw
  go_enter Tryz.func205, Tryz.ntmps205
  go_wp2_with fail
  refine (hon _).mono ?_
  rintro e w2 ⟨rfl, hb2⟩
  have hA2 := hA.call hb2
  have hB2 := below_call hB hB.size hb2
  have hg2 := hgA.call hb2
  clear hc0 hl0 hA hB hb2 hon hgA
  have hA := hA2
  have hc2 := hA2.cells
  have hl2 := hA2.lt
  go_wp2_with fail
  refine wp_region_vl (by kernel_rfl) (by kernel_rfl) [some 24, some 25, some 26, some 27, some 28, some 8, some 9] (by rfl) (by rfl) w2.heap.size (fun i8 => match i8 with | 0 => .agg #[.int .i64 (F : Int), .int .i64 (R : Int)] | 1 => .int .i64 ((a : Nat) : Int) | 2 => .int .u64 (oc : Nat) | 3 => .slice (some ⟨3, 0, none⟩) 4 4 | 4 => .int .u64 (SD : Nat) | 5 => .int .u64 (SD : Nat) | 6 => .int .i64 0 | _ => undef) (fun _ => none) ?hstep ?hend
  case hstep =>
   intro i9 o9 f9 W ho hi hC hf K hK
   have hi : i9 < 7 := hi
   rcases (by omega : i9 = 0 ∨ i9 = 1 ∨ i9 = 2 ∨ i9 = 3 ∨ i9 = 4 ∨ i9 = 5 ∨ i9 = 6) with rfl | rfl | rfl | rfl | rfl | rfl | rfl
   ·exact st_loadA (og ho rfl) 23 (.tmp 4) (oo ho rfl) (rd_out rfl rfl) [.int .i64 (F : Int), .int .i64 (R : Int)] (by kernel_rfl) (fun j v hv => by rw [Nat.zero_add, (hA.call hC).cells j]; simpa using hv) (hK _ _ (Below.refl _ _) rfl)
   ·exact st_move (og ho rfl) (.tmp 2) (oo ho rfl) (rd_out rfl rfl) (hK _ _ (Below.refl _ _) rfl)
   ·exact st_move (og ho rfl) (.tmp 3) (oo ho rfl) (rd_out rfl rfl) (hK _ _ (Below.refl _ _) rfl)
   ·exact st_slice (og ho rfl) 238 (.global 3) none none none (oo ho rfl) rfl rfl rfl rfl (sl_3 W) (hK _ _ (Below.refl _ _) rfl)
   ·exact st_call4 (og ho rfl) 215 (.tmp 24) (.tmp 25) (.tmp 26) (.tmp 27) #[23, 3, 170, 235] (oo ho rfl) (ri 0 (hf ⟨0, .data⟩ (oa ho rfl) rfl)) (ri 1 (hf ⟨1, .data⟩ (oa ho rfl) rfl)) (ri 2 (hf ⟨2, .data⟩ (oa ho rfl) rfl)) (ri 3 (hf ⟨3, .data⟩ (oa ho rfl) rfl)) (fun _ _ => rfl) (hs1 W ((hg2.call hC))) (by rintro u w9 ⟨h9, hb9⟩; injection h9 with h9; subst h9; exact hK _ _ hb9 rfl) (by rintro ch w9 h9; revert h9; rintro ⟨h9, _⟩; cases h9) (by rintro w9 h9; revert h9; rintro ⟨h9, _⟩; cases h9)
   ·exact st_assign (og ho rfl) (.tmp 28) (oo ho rfl) (ri 4 (hf ⟨4, .data⟩ (oa ho rfl) rfl)) (hK _ _ (Below.refl _ _) rfl)
   ·exact st_assign (og ho rfl) (.const (.int .i64 0)) (oo ho rfl) rfl (hK _ _ (Below.refl _ _) rfl)
  case hend =>
   intro f9 W hC hf
   have hv := hf 5 (by decide)
   have hz := hf 6 (by decide)
   replace hv : f9 5 = .int .u64 (SD : Nat) := hv
   replace hz : f9 6 = .int .i64 0 := hz
   have hBW := below_call hB2 hB2.size hC
   clear hf
   simp only [putL, Act.put, List.setIfInBounds_toArray, List.set_cons_succ, List.set_cons_zero]
   rw [hv, hz]
   go_wp2_with fail
   go_ret2
   exact ⟨by rw [e0.out]; rfl, hBW⟩
 ·have e0 : Hid (RW 4 = SS) := Lib.hid (by rw [hrw]; simp)
  clear hrw
  go_enter Tryz.func205, Tryz.ntmps205
  go_wp2_with fail
  refine (hon _).mono ?_
  rintro e w2 ⟨rfl, hb2⟩
  have hA2 := hA.call hb2
  have hB2 := below_call hB hB.size hb2
  have hg2 := hgA.call hb2
  clear hc0 hl0 hA hB hb2 hon hgA
  have hA := hA2
  have hc2 := hA2.cells
  have hl2 := hA2.lt
  go_wp2_with fail
  refine wp_region_vl (by kernel_rfl) (by kernel_rfl) [some 31, some 32, some 33, some 34, some 35, some 8, some 9] (by rfl) (by rfl) w2.heap.size (fun i8 => match i8 with | 0 => .agg #[.int .i64 (F : Int), .int .i64 (R : Int)] | 1 => .int .i64 ((a : Nat) : Int) | 2 => .int .u64 (oc : Nat) | 3 => .slice (some ⟨4, 0, none⟩) 4 4 | 4 => .int .u64 (SS : Nat) | 5 => .int .u64 (SS : Nat) | 6 => .int .i64 0 | _ => undef) (fun _ => none) ?hstep ?hend
  case hstep =>
   intro i9 o9 f9 W ho hi hC hf K hK
   have hi : i9 < 7 := hi
   rcases (by omega : i9 = 0 ∨ i9 = 1 ∨ i9 = 2 ∨ i9 = 3 ∨ i9 = 4 ∨ i9 = 5 ∨ i9 = 6) with rfl | rfl | rfl | rfl | rfl | rfl | rfl
   ·exact st_loadA (og ho rfl) 23 (.tmp 4) (oo ho rfl) (rd_out rfl rfl) [.int .i64 (F : Int), .int .i64 (R : Int)] (by kernel_rfl) (fun j v hv => by rw [Nat.zero_add, (hA.call hC).cells j]; simpa using hv) (hK _ _ (Below.refl _ _) rfl)
   ·exact st_move (og ho rfl) (.tmp 2) (oo ho rfl) (rd_out rfl rfl) (hK _ _ (Below.refl _ _) rfl)
   ·exact st_move (og ho rfl) (.tmp 3) (oo ho rfl) (rd_out rfl rfl) (hK _ _ (Below.refl _ _) rfl)
   ·exact st_slice (og ho rfl) 238 (.global 4) none none none (oo ho rfl) rfl rfl rfl rfl (sl_4 W) (hK _ _ (Below.refl _ _) rfl)
   ·exact st_call4 (og ho rfl) 215 (.tmp 31) (.tmp 32) (.tmp 33) (.tmp 34) #[23, 3, 170, 235] (oo ho rfl) (ri 0 (hf ⟨0, .data⟩ (oa ho rfl) rfl)) (ri 1 (hf ⟨1, .data⟩ (oa ho rfl) rfl)) (ri 2 (hf ⟨2, .data⟩ (oa ho rfl) rfl)) (ri 3 (hf ⟨3, .data⟩ (oa ho rfl) rfl)) (fun _ _ => rfl) (hs2 W ((hg2.call hC))) (by rintro u w9 ⟨h9, hb9⟩; injection h9 with h9; subst h9; exact hK _ _ hb9 rfl) (by rintro ch w9 h9; revert h9; rintro ⟨h9, _⟩; cases h9) (by rintro w9 h9; revert h9; rintro ⟨h9, _⟩; cases h9)
   ·exact st_assign (og ho rfl) (.tmp 35) (oo ho rfl) (ri 4 (hf ⟨4, .data⟩ (oa ho rfl) rfl)) (hK _ _ (Below.refl _ _) rfl)
   ·exact st_assign (og ho rfl) (.const (.int .i64 0)) (oo ho rfl) rfl (hK _ _ (Below.refl _ _) rfl)
  case hend =>
   intro f9 W hC hf
   have hv := hf 5 (by decide)
   have hz := hf 6 (by decide)
   replace hv : f9 5 = .int .u64 (SS : Nat) := hv
   replace hz : f9 6 = .int .i64 0 := hz
   have hBW := below_call hB2 hB2.size hC
   clear hf
   simp only [putL, Act.put, List.setIfInBounds_toArray, List.set_cons_succ, List.set_cons_zero]
   rw [hv, hz]
   go_wp2_with fail
   go_ret2
   exact ⟨by rw [e0.out]; rfl, hBW⟩
 ·have e0 : Hid (RW 5 = SQ) := Lib.hid (by rw [hrw]; simp)
  clear hrw
  go_enter Tryz.func205, Tryz.ntmps205
  go_wp2_with fail
  refine (hon _).mono ?_
  rintro e w2 ⟨rfl, hb2⟩
  have hA2 := hA.call hb2
  have hB2 := below_call hB hB.size hb2
  have hg2 := hgA.call hb2
  clear hc0 hl0 hA hB hb2 hon hgA
  have hA := hA2
  have hc2 := hA2.cells
  have hl2 := hA2.lt
  go_wp2_with fail
  refine wp_region_vl (by kernel_rfl) (by kernel_rfl) [some 38, some 39, some 40, some 41, some 42, some 43, some 44, some 45, some 46, some 47, some 48, some 8, some 9] (by rfl) (by rfl) w2.heap.size (fun i8 => match i8 with | 0 => .agg #[.int .i64 (F : Int), .int .i64 (R : Int)] | 1 => .int .i64 ((a : Nat) : Int) | 2 => .int .u64 (oc : Nat) | 3 => .slice (some ⟨3, 0, none⟩) 4 4 | 4 => .int .u64 (SD : Nat) | 5 => .agg #[.int .i64 (F : Int), .int .i64 (R : Int)] | 6 => .int .i64 ((a : Nat) : Int) | 7 => .int .u64 (oc : Nat) | 8 => .slice (some ⟨4, 0, none⟩) 4 4 | 9 => .int .u64 (SS : Nat) | 10 => .int .u64 (SQ : Nat) | 11 => .int .u64 (SQ : Nat) | 12 => .int .i64 0 | _ => undef) (fun _ => none) ?hstep ?hend
  case hstep =>
   intro i9 o9 f9 W ho hi hC hf K hK
   have hi : i9 < 13 := hi
   rcases (by omega : i9 = 0 ∨ i9 = 1 ∨ i9 = 2 ∨ i9 = 3 ∨ i9 = 4 ∨ i9 = 5 ∨ i9 = 6 ∨ i9 = 7 ∨ i9 = 8 ∨ i9 = 9 ∨ i9 = 10 ∨ i9 = 11 ∨ i9 = 12) with rfl | rfl | rfl | rfl | rfl | rfl | rfl | rfl | rfl | rfl | rfl | rfl | rfl
   ·exact st_loadA (og ho rfl) 23 (.tmp 4) (oo ho rfl) (rd_out rfl rfl) [.int .i64 (F : Int), .int .i64 (R : Int)] (by kernel_rfl) (fun j v hv => by rw [Nat.zero_add, (hA.call hC).cells j]; simpa using hv) (hK _ _ (Below.refl _ _) rfl)
   ·exact st_move (og ho rfl) (.tmp 2) (oo ho rfl) (rd_out rfl rfl) (hK _ _ (Below.refl _ _) rfl)
   ·exact st_move (og ho rfl) (.tmp 3) (oo ho rfl) (rd_out rfl rfl) (hK _ _ (Below.refl _ _) rfl)
   ·exact st_slice (og ho rfl) 238 (.global 3) none none none (oo ho rfl) rfl rfl rfl rfl (sl_3 W) (hK _ _ (Below.refl _ _) rfl)
   ·exact st_call4 (og ho rfl) 215 (.tmp 38) (.tmp 39) (.tmp 40) (.tmp 41) #[23, 3, 170, 235] (oo ho rfl) (ri 0 (hf ⟨0, .data⟩ (oa ho rfl) rfl)) (ri 1 (hf ⟨1, .data⟩ (oa ho rfl) rfl)) (ri 2 (hf ⟨2, .data⟩ (oa ho rfl) rfl)) (ri 3 (hf ⟨3, .data⟩ (oa ho rfl) rfl)) (fun _ _ => rfl) (hs1 W ((hg2.call hC))) (by rintro u w9 ⟨h9, hb9⟩; injection h9 with h9; subst h9; exact hK _ _ hb9 rfl) (by rintro ch w9 h9; revert h9; rintro ⟨h9, _⟩; cases h9) (by rintro w9 h9; revert h9; rintro ⟨h9, _⟩; cases h9)
   ·exact st_loadA (og ho rfl) 23 (.tmp 4) (oo ho rfl) (rd_out rfl rfl) [.int .i64 (F : Int), .int .i64 (R : Int)] (by kernel_rfl) (fun j v hv => by rw [Nat.zero_add, (hA.call hC).cells j]; simpa using hv) (hK _ _ (Below.refl _ _) rfl)
   ·exact st_move (og ho rfl) (.tmp 2) (oo ho rfl) (rd_out rfl rfl) (hK _ _ (Below.refl _ _) rfl)
   ·exact st_move (og ho rfl) (.tmp 3) (oo ho rfl) (rd_out rfl rfl) (hK _ _ (Below.refl _ _) rfl)
   ·exact st_slice (og ho rfl) 238 (.global 4) none none none (oo ho rfl) rfl rfl rfl rfl (sl_4 W) (hK _ _ (Below.refl _ _) rfl)
   ·exact st_call4 (og ho rfl) 215 (.tmp 43) (.tmp 44) (.tmp 45) (.tmp 46) #[23, 3, 170, 235] (oo ho rfl) (ri 5 (hf ⟨5, .data⟩ (oa ho rfl) rfl)) (ri 6 (hf ⟨6, .data⟩ (oa ho rfl) rfl)) (ri 7 (hf ⟨7, .data⟩ (oa ho rfl) rfl)) (ri 8 (hf ⟨8, .data⟩ (oa ho rfl) rfl)) (fun _ _ => rfl) (hs2 W ((hg2.call hC))) (by rintro u w9 ⟨h9, hb9⟩; injection h9 with h9; subst h9; exact hK _ _ hb9 rfl) (by rintro ch w9 h9; revert h9; rintro ⟨h9, _⟩; cases h9) (by rintro w9 h9; revert h9; rintro ⟨h9, _⟩; cases h9)
   ·exact st_bin (og ho rfl) .or 170 170 (.tmp 42) (.tmp 47) (oo ho rfl) (ri 4 (hf ⟨4, .data⟩ (oa ho rfl) rfl)) (ri 9 (hf ⟨9, .data⟩ (oa ho rfl) rfl)) (gu_i _ _ _ _ _ _ _ _) (bin64_orE o1.out) (hK _ _ (Below.refl _ _) rfl)
   ·exact st_assign (og ho rfl) (.tmp 48) (oo ho rfl) (ri 10 (hf ⟨10, .data⟩ (oa ho rfl) rfl)) (hK _ _ (Below.refl _ _) rfl)
   ·exact st_assign (og ho rfl) (.const (.int .i64 0)) (oo ho rfl) rfl (hK _ _ (Below.refl _ _) rfl)
  case hend =>
   intro f9 W hC hf
   have hv := hf 11 (by decide)
   have hz := hf 12 (by decide)
   replace hv : f9 11 = .int .u64 (SQ : Nat) := hv
   replace hz : f9 12 = .int .i64 0 := hz
   have hBW := below_call hB2 hB2.size hC
   clear hf
   simp only [putL, Act.put, List.setIfInBounds_toArray, List.set_cons_succ, List.set_cons_zero]
   rw [hv, hz]
   go_wp2_with fail
   go_ret2
   exact ⟨by rw [e0.out]; rfl, hBW⟩
 ·have e0 : Hid (RW 6 = LK) := Lib.hid (by rw [hrw]; simp)
  clear hrw
  go_enter Tryz.func205, Tryz.ntmps205
  go_wp2_with fail
  refine (hon _).mono ?_
  rintro e w2 ⟨rfl, hb2⟩
  have hA2 := hA.call hb2
  have hB2 := below_call hB hB.size hb2
  have hg2 := hgA.call hb2
  clear hc0 hl0 hA hB hb2 hon hgA
  have hA := hA2
  have hc2 := hA2.cells
  have hl2 := hA2.lt
  go_wp2_with fail
  refine wp_region_vl (by kernel_rfl) (by kernel_rfl) [some 51, some 52, some 53, some 54, some 55, some 56, some 57, some 58, some 59, some 8, some 9] (by rfl) (by rfl) w2.heap.size (fun i8 => match i8 with | 0 => .agg #[.int .i64 (F : Int), .int .i64 (R : Int)] | 1 => .int .i64 ((a : Nat) : Int) | 2 => .slice (some ⟨3, 0, none⟩) 4 4 | 3 => .int .u64 (LD : Nat) | 4 => .agg #[.int .i64 (F : Int), .int .i64 (R : Int)] | 5 => .int .i64 ((a : Nat) : Int) | 6 => .slice (some ⟨4, 0, none⟩) 4 4 | 7 => .int .u64 (LS : Nat) | 8 => .int .u64 (LK : Nat) | 9 => .int .u64 (LK : Nat) | 10 => .int .i64 0 | _ => undef) (fun _ => none) ?hstep ?hend
  case hstep =>
   intro i9 o9 f9 W ho hi hC hf K hK
   have hi : i9 < 11 := hi
   rcases (by omega : i9 = 0 ∨ i9 = 1 ∨ i9 = 2 ∨ i9 = 3 ∨ i9 = 4 ∨ i9 = 5 ∨ i9 = 6 ∨ i9 = 7 ∨ i9 = 8 ∨ i9 = 9 ∨ i9 = 10) with rfl | rfl | rfl | rfl | rfl | rfl | rfl | rfl | rfl | rfl | rfl
   ·exact st_loadA (og ho rfl) 23 (.tmp 4) (oo ho rfl) (rd_out rfl rfl) [.int .i64 (F : Int), .int .i64 (R : Int)] (by kernel_rfl) (fun j v hv => by rw [Nat.zero_add, (hA.call hC).cells j]; simpa using hv) (hK _ _ (Below.refl _ _) rfl)
   ·exact st_move (og ho rfl) (.tmp 2) (oo ho rfl) (rd_out rfl rfl) (hK _ _ (Below.refl _ _) rfl)
   ·exact st_slice (og ho rfl) 238 (.global 3) none none none (oo ho rfl) rfl rfl rfl rfl (sl_3 W) (hK _ _ (Below.refl _ _) rfl)
   ·exact st_call3 (og ho rfl) 213 (.tmp 51) (.tmp 52) (.tmp 53) #[23, 3, 235] (oo ho rfl) (ri 0 (hf ⟨0, .data⟩ (oa ho rfl) rfl)) (ri 1 (hf ⟨1, .data⟩ (oa ho rfl) rfl)) (ri 2 (hf ⟨2, .data⟩ (oa ho rfl) rfl)) (fun _ _ => rfl) (hm2 W ((hg2.call hC))) (by rintro u w9 ⟨h9, hb9⟩; injection h9 with h9; subst h9; exact hK _ _ hb9 rfl) (by rintro ch w9 h9; revert h9; rintro ⟨h9, _⟩; cases h9) (by rintro w9 h9; revert h9; rintro ⟨h9, _⟩; cases h9)
   ·exact st_loadA (og ho rfl) 23 (.tmp 4) (oo ho rfl) (rd_out rfl rfl) [.int .i64 (F : Int), .int .i64 (R : Int)] (by kernel_rfl) (fun j v hv => by rw [Nat.zero_add, (hA.call hC).cells j]; simpa using hv) (hK _ _ (Below.refl _ _) rfl)
   ·exact st_move (og ho rfl) (.tmp 2) (oo ho rfl) (rd_out rfl rfl) (hK _ _ (Below.refl _ _) rfl)
   ·exact st_slice (og ho rfl) 238 (.global 4) none none none (oo ho rfl) rfl rfl rfl rfl (sl_4 W) (hK _ _ (Below.refl _ _) rfl)
   ·exact st_call3 (og ho rfl) 213 (.tmp 55) (.tmp 56) (.tmp 57) #[23, 3, 235] (oo ho rfl) (ri 4 (hf ⟨4, .data⟩ (oa ho rfl) rfl)) (ri 5 (hf ⟨5, .data⟩ (oa ho rfl) rfl)) (ri 6 (hf ⟨6, .data⟩ (oa ho rfl) rfl)) (fun _ _ => rfl) (hm3 W ((hg2.call hC))) (by rintro u w9 ⟨h9, hb9⟩; injection h9 with h9; subst h9; exact hK _ _ hb9 rfl) (by rintro ch w9 h9; revert h9; rintro ⟨h9, _⟩; cases h9) (by rintro w9 h9; revert h9; rintro ⟨h9, _⟩; cases h9)
   ·exact st_bin (og ho rfl) .or 170 170 (.tmp 54) (.tmp 58) (oo ho rfl) (ri 3 (hf ⟨3, .data⟩ (oa ho rfl) rfl)) (ri 7 (hf ⟨7, .data⟩ (oa ho rfl) rfl)) (gu_i _ _ _ _ _ _ _ _) (bin64_orE o2.out) (hK _ _ (Below.refl _ _) rfl)
   ·exact st_assign (og ho rfl) (.tmp 59) (oo ho rfl) (ri 8 (hf ⟨8, .data⟩ (oa ho rfl) rfl)) (hK _ _ (Below.refl _ _) rfl)
   ·exact st_assign (og ho rfl) (.const (.int .i64 0)) (oo ho rfl) rfl (hK _ _ (Below.refl _ _) rfl)
  case hend =>
   intro f9 W hC hf
   have hv := hf 9 (by decide)
   have hz := hf 10 (by decide)
   replace hv : f9 9 = .int .u64 (LK : Nat) := hv
   replace hz : f9 10 = .int .i64 0 := hz
   have hBW := below_call hB2 hB2.size hC
   clear hf
   simp only [putL, Act.put, List.setIfInBounds_toArray, List.set_cons_succ, List.set_cons_zero]
   rw [hv, hz]
   go_wp2_with fail
   go_ret2
   exact ⟨by rw [e0.out]; rfl, hBW⟩
end Go.Proofs.YtnpomigmeieofaaGreatDoor
