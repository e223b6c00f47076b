import Derived.Test.YtefmplccbkmalaaGreatDoorF07
set_option maxHeartbeats 12800000
namespace Go.Proofs.YtefmplccbkmalaaGreatDoor
open Go.RowKit

def lineB (a b : Nat) (df dr : Int) : Bool := !decide (a = b) && (decide (df = 0) || (decide (dr = 0) || (decide (df = dr) || decide (df + dr = 0))))
def lineX (a b : Nat) (df dr x : Int) : Int := if lineB a b df dr then x else 0
set_option maxRecDepth 100000 in
theorem refLine_any (F R a b : Nat) (hF : 3 ≤ F ∧ F ≤ 8) (ha : a < 64) (hb : b < 64) (w : World) :
  Calls Tryz.prog 197 #[.agg #[.int .i64 F, .int .i64 R], .int .i64 a, .int .i64 b] w fun e w' => e = .returned (.tuple #[.int .i64 (lineX a b (dF F a b) (dR F a b) (sgnI (dF F a b))), .int .i64 (lineX a b (dF F a b) (dR F a b) (sgnI (dR F a b))), .bool (lineB a b (dF F a b) (dR F a b))]) ∧ Below w.heap.size w w' := by
 have hA := HasO.new w (.cells [.int .i64 (F : Int), .int .i64 (R : Int)].toArray 23)
 have hB := below_box w (.cells [.int .i64 (F : Int), .int .i64 (R : Int)].toArray 23)
 obtain ⟨df, hdf⟩ : ∃ x : Int, x = dF F a b := ⟨_, rfl⟩
 obtain ⟨dr, hdr⟩ : ∃ x : Int, x = dR F a b := ⟨_, rfl⟩
 rw [← hdf, ← hdr]
 go_enter Tryz.func197, Tryz.ntmps197
 go_wp2_with fail
 show Code.wp _ _ _ _ (w.alloc (.cells [.int .i64 (F : Int), .int .i64 (R : Int)].toArray 23))
 obtain ⟨w1, hw1⟩ : ∃ x, x = w.alloc (.cells [.int .i64 (F : Int), .int .i64 (R : Int)].toArray 23) := ⟨_, rfl⟩
 rw [← hw1] at hA hB ⊢
 clear hw1
 refine wp_region_relL (by kernel_rfl) (by kernel_rfl) [some 13, some 14, some 15, some 16, some 17, some 18, some 9, some 10, none, none] (by rfl) (by rfl) (twoR w1 [.int .i64 (F : Int), .int .i64 (R : Int)].toArray a b #[.int .i64 (a % F : Nat), .int .i64 (a / F : Nat)] #[.int .i64 (b % F : Nat), .int .i64 (b / F : Nat)]) (fun S S9 f9 W h hR => twoR_congr S S9 f9 W h hR) (fun f9 => twoR_init f9) ?hstep ?hend
 case hstep =>
  intro S i9 o9 f9 W ho hi hSj hpre hcl hR K hK
  have hi : i9 < 10 := hi
  have hR0 := hR
  obtain ⟨hC, h0, h1, h2, h3, h4, h5, h6, h7, h8⟩ := hR0
  have hsz := hA.call hC
  rcases i9 with _ | _ | _ | _ | _ | _ | _ | _ | _ | _ | i9
  ·exact st_loadA (og ho) 23 (.tmp 3) (oo ho) (rd_out rfl rfl) [.int .i64 (F : Int), .int .i64 (R : Int)] (by kernel_rfl) (fun j v hv => by rw [Nat.zero_add, hsz.cells j]; simpa using hv) (hK _ _ (twoR_val hR 0 _ (Below.refl _ _) (by decide) (by refine ⟨?_, ?_, ?_, ?_, ?_, ?_⟩ <;> intro h <;> first | rfl | (cases h))))
  ·exact st_move (og ho) (.tmp 1) (oo ho) (rd_out rfl rfl) (hK _ _ (twoR_val hR 1 _ (Below.refl _ _) (by decide) (by refine ⟨?_, ?_, ?_, ?_, ?_, ?_⟩ <;> intro h <;> first | rfl | (cases h))))
  ·exact st_call2 (og ho) 40 (.tmp 13) (.tmp 14) #[23, 3] (oo ho) (ri 0 (h0 (da ho hpre 0))) (ri 1 (h1 (da ho hpre 1))) (fun _ _ => rfl) (refPlace_any F R a hF (by omega) W) (by rintro u w9 ⟨h9, hb9⟩; injection h9 with h9; subst h9; exact hK _ _ (twoR_val hR 2 _ hb9 (by decide) (by refine ⟨?_, ?_, ?_, ?_, ?_, ?_⟩ <;> intro h <;> first | rfl | (cases h)))) (by rintro ch w9 ⟨h9, _⟩; cases h9) (by rintro w9 ⟨h9, _⟩; cases h9)
  ·exact st_loadA (og ho) 23 (.tmp 3) (oo ho) (rd_out rfl rfl) [.int .i64 (F : Int), .int .i64 (R : Int)] (by kernel_rfl) (fun j v hv => by rw [Nat.zero_add, hsz.cells j]; simpa using hv) (hK _ _ (twoR_val hR 3 _ (Below.refl _ _) (by decide) (by refine ⟨?_, ?_, ?_, ?_, ?_, ?_⟩ <;> intro h <;> first | rfl | (cases h))))
  ·exact st_move (og ho) (.tmp 2) (oo ho) (rd_out rfl rfl) (hK _ _ (twoR_val hR 4 _ (Below.refl _ _) (by decide) (by refine ⟨?_, ?_, ?_, ?_, ?_, ?_⟩ <;> intro h <;> first | rfl | (cases h))))
  ·exact st_call2 (og ho) 40 (.tmp 16) (.tmp 17) #[23, 3] (oo ho) (ri 3 (h3 (da ho hpre 3))) (ri 4 (h4 (da ho hpre 4))) (fun _ _ => rfl) (refPlace_any F R b hF (by omega) W) (by rintro u w9 ⟨h9, hb9⟩; injection h9 with h9; subst h9; exact hK _ _ (twoR_val hR 5 _ hb9 (by decide) (by refine ⟨?_, ?_, ?_, ?_, ?_, ?_⟩ <;> intro h <;> first | rfl | (cases h)))) (by rintro ch w9 ⟨h9, _⟩; cases h9) (by rintro w9 ⟨h9, _⟩; cases h9)
  ·have hS8 : S 8 = false := by
    rcases h : S 8 with _ | _
    ·rfl
    ·have := hcl 8 _ h rfl ⟨6, .data⟩ (by simp) rfl
     rw [hSj] at this; cases this
   exact st_alloc (og ho) 85 (oo ho) (alloc99 W) (hK _ _ (twoR_new hR 6 (.inl rfl) hS8))
  ·have hS9 : S 9 = false := by
    rcases h : S 9 with _ | _
    ·rfl
    ·have := hcl 9 _ h rfl ⟨7, .data⟩ (by simp) rfl
     rw [hSj] at this; cases this
   exact st_alloc (og ho) 85 (oo ho) (alloc99 W) (hK _ _ (twoR_new hR 7 (.inr rfl) hS9))
  ·have hSi := (da ho hpre 6)
   obtain ⟨q, e1, e2, old, e3, e4, e5⟩ := h6 hSi
   exact st_storeO (og ho) 85 (.tmp 9) (.tmp 15) (oo ho) (ri 6 e1) _ old 85 (ri 2 (h2 (da ho hpre 2))) e3 (by kernel_rfl) e4 (by simp [Value.oneCell']) (hK _ _ (twoR_set1 hR hSi rfl _ e1))
  ·have hSi := (da ho hpre 7)
   obtain ⟨q, e1, e2, old, e3, e4, e5⟩ := h7 hSi
   exact st_storeO (og ho) 85 (.tmp 10) (.tmp 18) (oo ho) (ri 7 e1) _ old 85 (ri 5 (h5 (da ho hpre 5))) e3 (by kernel_rfl) e4 (by simp [Value.oneCell']) (hK _ _ (twoR_set2 hR hSi rfl _ e1))
  ·omega
 case hend =>
  intro S f9 W hS hR
  obtain ⟨hC, _, _, _, _, _, _, h6, h7, h8⟩ := hR
  obtain ⟨q1, e1, l1, o1, hO1, _, z1⟩ := h6 (hS 6 (by decide))
  obtain ⟨q2, e2, l2, o2, hO2, _, z2⟩ := h7 (hS 7 (by decide))
  replace z1 := z1 (hS 8 (by decide))
  replace z2 := z2 (hS 9 (by decide))
  subst z1 z2
  clear h6 h7 h8
  simp only [putL, Act.put, List.setIfInBounds_toArray, List.set_cons_succ, List.set_cons_zero]
  rw [e1, e2]
  clear e1 e2 hS
  generalize f9 0 = u0, f9 1 = u1, f9 2 = u2, f9 3 = u3, f9 4 = u4, f9 5 = u5, f9 8 = u8, f9 9 = u9
  have hne : 0 < F := by omega
  have b1 := Nat.mod_lt a hne
  have b2 := Nat.mod_lt b hne
  have b3 := Nat.div_le_self a F
  have b4 := Nat.div_le_self b F
  have hBW := below_call hB hB.size hC
  unfold dF at hdf
  unfold dR at hdr
  generalize a % F = a0, a / F = a1, b % F = b0, b / F = b1' at *
  clear hA
  have hdb : -100 < df ∧ df < 100 := by omega
  have hrb : -100 < dr ∧ dr < 100 := by omega
  have hwf : IntKind.i64.wrap ((b0 : Int) - (a0 : Int)) = df := by rw [← hdf]; exact IntWalk.i64_in _ (by omega)
  have hwr : IntKind.i64.wrap ((b1' : Int) - (a1 : Int)) = dr := by rw [← hdr]; exact IntWalk.i64_in _ (by omega)
  replace hdf := Lib.hid hdf
  replace hdr := Lib.hid hdr
  go_wp2_with fail
  refine wp_region_valsL (by kernel_rfl) (by kernel_rfl) [some 19, some 20, some 21, some 22, some 23, some 24, some 25, some 26, some 27, some 28, some 11, some 12] (by rfl) (by rfl) (fun i => match i with | 0 => .pointer (some ⟨q2, 0, none⟩) | 1 => .int .i64 ((b0 : Nat) : Int) | 2 => .pointer (some ⟨q1, 0, none⟩) | 3 => .int .i64 ((a0 : Nat) : Int) | 4 => .int .i64 df | 5 => .pointer (some ⟨q2, 1, none⟩) | 6 => .int .i64 ((b1' : Nat) : Int) | 7 => .pointer (some ⟨q1, 1, none⟩) | 8 => .int .i64 ((a1 : Nat) : Int) | 9 => .int .i64 dr | 10 => .int .i64 df | 11 => .int .i64 dr | _ => undef) (fun W2 => Below W.heap.size W W2) (Below.refl _ _).drew ?hstep ?hend
  case hstep =>
   intro i9 o9 f9 W2 ho hi hC hf K hK
   have hi : i9 < 12 := hi
   rcases i9 with _ | _ | _ | _ | _ | _ | _ | _ | _ | _ | _ | _ | i9
   ·exact st_field (og ho) 85 (.tmp 10) 0 (oo ho) (rd_out rfl rfl) (n := 0) (by kernel_rfl) (hK _ hC)
   ·exact st_loadS (og ho) 3 (.tmp 19) (oo ho) (ri 0 (da ho hf 0)) (by kernel_rfl) (((hO2.call hC).cells 0)) (hK _ hC)
   ·exact st_field (og ho) 85 (.tmp 9) 0 (oo ho) (rd_out rfl rfl) (n := 0) (by kernel_rfl) (hK _ hC)
   ·exact st_loadS (og ho) 3 (.tmp 21) (oo ho) (ri 2 (da ho hf 2)) (by kernel_rfl) (((hO1.call hC).cells 0)) (hK _ hC)
   ·exact st_bin (og ho) .sub 3 3 (.tmp 20) (.tmp 22) (oo ho) (ri 1 (da ho hf 1)) (ri 3 (da ho hf 3)) (gu_i _ _ _ _ _ _ _ _) (bin_subE hwf) (hK _ hC)
   ·exact st_field (og ho) 85 (.tmp 10) 1 (oo ho) (rd_out rfl rfl) (n := 1) (by kernel_rfl) (hK _ hC)
   ·exact st_loadS (og ho) 3 (.tmp 24) (oo ho) (ri 5 (da ho hf 5)) (by kernel_rfl) (((hO2.call hC).cells 1)) (hK _ hC)
   ·exact st_field (og ho) 85 (.tmp 9) 1 (oo ho) (rd_out rfl rfl) (n := 1) (by kernel_rfl) (hK _ hC)
   ·exact st_loadS (og ho) 3 (.tmp 26) (oo ho) (ri 7 (da ho hf 7)) (by kernel_rfl) (((hO1.call hC).cells 1)) (hK _ hC)
   ·exact st_bin (og ho) .sub 3 3 (.tmp 25) (.tmp 27) (oo ho) (ri 6 (da ho hf 6)) (ri 8 (da ho hf 8)) (gu_i _ _ _ _ _ _ _ _) (bin_subE hwr) (hK _ hC)
   ·exact st_assign (og ho) (.tmp 23) (oo ho) (ri 4 (da ho hf 4)) (hK _ hC)
   ·exact st_assign (og ho) (.tmp 28) (oo ho) (ri 9 (da ho hf 9)) (hK _ hC)
   ·omega
  case hend =>
   intro W2 hC2
   have hBW2 := below_call hBW hBW.size hC2
   simp only [putL, Act.put, List.setIfInBounds_toArray, List.set_cons_succ, List.set_cons_zero]
   clear hO1 hO2 hwf hwr hC hC2
   have e3 : wrap64 (df + dr) = df + dr := IntWalk.wrap64_in _ (by omega)
   by_cases hab : a = b
   ·have e0 : Hid (lineB a b df dr = false) := Lib.hid (by simp [lineB, hab])
    have c1 : ((a : Int) == (b : Int)) = true := by simp [hab]
    replace hab := Lib.hid hab
    go_wp2_with fail
    go_ret3
    exact ⟨by unfold lineX; rw [e0.out]; rfl, hBW2⟩
   have c1 : ((a : Int) == (b : Int)) = false := by simp; omega
   by_cases h1 : df = 0
   ·have e0 : Hid (lineB a b df dr = true) := Lib.hid (by simp [lineB, hab, h1])
    have c2 : (df != 0) = false := by simp [h1]
    replace h1 := Lib.hid h1
    go_wp2_with fail
    refine (refSign_any df _).mono ?_
    rintro e w3 ⟨rfl, rfl⟩
    go_wp2_with fail
    refine (refSign_any dr _).mono ?_
    rintro e w3 ⟨rfl, rfl⟩
    go_wp2_with fail
    go_ret3
    exact ⟨by unfold lineX; rw [e0.out]; rfl, hBW2⟩
   have c2 : (df != 0) = true := by simp [h1]
   by_cases h2 : dr = 0
   ·have e0 : Hid (lineB a b df dr = true) := Lib.hid (by simp [lineB, hab, h2])
    have c3 : (dr != 0) = false := by simp [h2]
    replace h2 := Lib.hid h2
    go_wp2_with fail
    refine (refSign_any df _).mono ?_
    rintro e w3 ⟨rfl, rfl⟩
    go_wp2_with fail
    refine (refSign_any dr _).mono ?_
    rintro e w3 ⟨rfl, rfl⟩
    go_wp2_with fail
    go_ret3
    exact ⟨by unfold lineX; rw [e0.out]; rfl, hBW2⟩
   have c3 : (dr != 0) = true := by simp [h2]
   by_cases h3 : df = dr
   ·have e0 : Hid (lineB a b df dr = true) := Lib.hid (by simp [lineB, hab, h3])
    have c4 : (df != dr) = false := by simp [h3]
    replace h3 := Lib.hid h3
    go_wp2_with fail
    refine (refSign_any df _).mono ?_
    rintro e w3 ⟨rfl, rfl⟩
    go_wp2_with fail
    refine (refSign_any dr _).mono ?_
    rintro e w3 ⟨rfl, rfl⟩
    go_wp2_with fail
    go_ret3
    exact ⟨by unfold lineX; rw [e0.out]; rfl, hBW2⟩
   have c4 : (df != dr) = true := by simp [h3]
   by_cases h4 : df + dr = 0
   ·have e0 : Hid (lineB a b df dr = true) := Lib.hid (by simp [lineB, hab, h4])
    have c5 : (df + dr != 0) = false := by simp [h4]
    replace h4 := Lib.hid h4
    go_wp2_with fail
    refine (refSign_any df _).mono ?_
    rintro e w3 ⟨rfl, rfl⟩
    go_wp2_with fail
    refine (refSign_any dr _).mono ?_
    rintro e w3 ⟨rfl, rfl⟩
    go_wp2_with fail
    go_ret3
    exact ⟨by unfold lineX; rw [e0.out]; rfl, hBW2⟩
   ·have e0 : Hid (lineB a b df dr = false) := Lib.hid (by simp [lineB, h1, h2, h3, h4])
    have c5 : (df + dr != 0) = true := by simp [h4]
    go_wp2_with fail
    go_ret3
    exact ⟨by unfold lineX; rw [e0.out]; rfl, hBW2⟩
def numI (f r a b : Int) : Int := if a < 0 ∨ f ≤ a ∨ b < 0 ∨ r ≤ b then -1 else b * f + a
theorem refNumber_v (f r a b : Int) (w : World) (h1 : -1000 < f ∧ f < 1000) (h3 : -1000 < a ∧ a < 1000) (h4 : -1000 < b ∧ b < 1000) : Calls Tryz.prog 46 #[.agg #[.int .i64 f, .int .i64 r], .int .i64 a, .int .i64 b] w fun e w' => e = .returned (.int .i64 (numI f r a b)) ∧ Below w.heap.size w w' :=
 refNumber_any f r a b w h1 h3 h4
def rayN (F R a : Nat) (df dr : Int) (k : Nat) : Int := numI F R (((a % F : Nat) : Int) + k * df) (((a / F : Nat) : Int) + k * dr)
def rayL (F R a : Nat) (df dr : Int) : Nat → Nat → List Int
 | 0, _ => []
 | n + 1, k => if rayN F R a df dr k < 0 then [] else rayN F R a df dr k :: rayL F R a df dr n (k + 1)
theorem rayL_len (F R a : Nat) (df dr : Int) : ∀ n k, (rayL F R a df dr n k).length ≤ n := by
 intro n
 induction n with
 | zero => intro k; simp [rayL]
 | succ n ih =>
  intro k
  simp only [rayL]
  split
  ·simp
  ·have := ih (k + 1); simp; omega
theorem rayL_neg {F R a : Nat} {df dr : Int} {k : Nat} (h : rayN F R a df dr k < 0) (n : Nat) : rayL F R a df dr n k = [] := by
 cases n with
 | zero => rfl
 | succ n => simp only [rayL]; rw [if_pos h]
theorem rayL_pos {F R a : Nat} {df dr : Int} {k : Nat} (h : ¬ rayN F R a df dr k < 0) (n : Nat) : rayL F R a df dr (n + 1) k = rayN F R a df dr k :: rayL F R a df dr n (k + 1) := by
 simp only [rayL]; rw [if_neg h]
theorem sqB_nat {F R a : Nat} (hF : 3 ≤ F ∧ F ≤ 8) (hR : 3 ≤ R ∧ R ≤ 8) (ha : a < F * R) : sqB F R a = true := by
 have h1 : sizeB F R = true := by simp [sizeB, sideB]; omega
 have h2 : (a : Int) < (F : Int) * (R : Int) := by rw [← Int.natCast_mul]; omega
 simp [sqB, h1, h2]
theorem sq_bd {F R a : Nat} (hF : 3 ≤ F ∧ F ≤ 8) (hR : 3 ≤ R ∧ R ≤ 8) (ha : a < F * R) : a < 64 ∧ a % F < F ∧ a / F < R := by
 have h1 : F * R ≤ 8 * 8 := Nat.mul_le_mul hF.2 hR.2
 exact ⟨by omega, Nat.mod_lt _ (by omega), Nat.div_lt_of_lt_mul ha⟩
theorem mul_sgn {k : Nat} {d : Int} (hk : k ≤ 9) (hd : -1 ≤ d ∧ d ≤ 1) : -9 ≤ (k : Int) * d ∧ (k : Int) * d ≤ 9 := by
 rcases (by omega : d = -1 ∨ d = 0 ∨ d = 1) with h | h | h <;> subst h <;> omega
theorem wrap_small {x : Int} (h : -1000 ≤ x ∧ x ≤ 1000) : wrap64 x = x := IntWalk.wrap64_in _ (by omega)
set_option maxRecDepth 100000 in
theorem refRay_any (F R a : Nat) (df dr : Int) (hF : 3 ≤ F ∧ F ≤ 8) (hR : 3 ≤ R ∧ R ≤ 8) (ha : a < F * R) (hdf : -1 ≤ df ∧ df ≤ 1) (hdr : -1 ≤ dr ∧ dr ≤ 1) (hn : ¬ (df = 0 ∧ dr = 0)) (w : World) :
  Calls Tryz.prog 207 #[.agg #[.int .i64 F, .int .i64 R], .int .i64 a, .int .i64 df, .int .i64 dr] w fun e w' => (∃ v, e = .returned v ∧ w'.ownsRow w.heap.size 3 1 v (rayL F R a df dr 8 1).length ((rayL F R a df dr 8 1).map (.int .i64))) ∧ Below w.heap.size w w' := by
 obtain ⟨i3, hi3, hz3, hs3, hy3⟩ := info_parts Tryz.info3
 have hA := HasO.new w (.cells [.int .i64 (F : Int), .int .i64 (R : Int)].toArray 23)
 have hB := below_box w (.cells [.int .i64 (F : Int), .int .i64 (R : Int)].toArray 23)
 have hv := sqB_nat hF hR ha
 obtain ⟨ha64, ha0, ha1⟩ := sq_bd hF hR ha
 obtain ⟨L, hL⟩ : ∃ L, L = rayL F R a df dr 8 1 := ⟨_, rfl⟩
 have hLl : L.length ≤ 8 := by rw [hL]; exact rayL_len F R a df dr 8 1
 rw [← hL]
 have hL0 : L = [] ++ rayL F R a df dr (9 - 1) 1 := by rw [List.nil_append]; exact hL
 replace hL := Lib.hid hL
 go_enter Tryz.func207, Tryz.ntmps207
 go_wp2_with fail
 refine (refSqValid_any F R a _).mono ?_
 rintro e w2 ⟨rfl, hb2⟩
 have hA2 := hA.call hb2
 have hB2 := below_call hB hB.size hb2
 clear hA hB hb2
 rw [hv]
 have hc2 := hA2.cells
 have hl2 := hA2.lt
 have hg : ((df == 0) = true ∧ (dr == 0) = false) ∨ (df == 0) = false := by
  by_cases h : df = 0
  ·left; exact ⟨by simp [h], by simpa using fun h2 => hn ⟨h, h2⟩⟩
  ·right; simp [h]
 have b1 : ((a % F : Nat) : Int) < 8 := by omega
 have b2 : ((a / F : Nat) : Int) < 8 := by omega
 have b3 : (0 : Int) ≤ ((a % F : Nat) : Int) := Int.natCast_nonneg _
 have b4 : (0 : Int) ≤ ((a / F : Nat) : Int) := Int.natCast_nonneg _
 have hray : ∀ k : Nat, rayN F R a df dr k = numI F R (((a % F : Nat) : Int) + k * df) (((a / F : Nat) : Int) + k * dr) := fun k => rfl
 rcases hg with ⟨c1, c2⟩ | c1
 all_goals
  go_wp2_with fail
  refine (refPlace_any F R a hF (by omega) _).mono ?_
  rintro e w3 ⟨rfl, hb3⟩
  have hA3 := hA2.call hb3
  have hB3 := below_call hB2 hB2.size hb3
  clear hA2 hB2 hb3 hc2 hl2
  go_wp2_with fail
  show Code.wp _ _ _ _ (w3.alloc (.cells #[.int .i64 ((a % F : Nat) : Int), .int .i64 ((a / F : Nat) : Int)] 85))
  have hA4 := hA3.alloc (.cells #[.int .i64 ((a % F : Nat) : Int), .int .i64 ((a / F : Nat) : Int)] 85)
  have hQ4 := HasO.new w3 (.cells #[.int .i64 ((a % F : Nat) : Int), .int .i64 ((a / F : Nat) : Int)] 85)
  have hB4 := below_call hB3 hB3.size (below_box w3 (.cells #[.int .i64 ((a % F : Nat) : Int), .int .i64 ((a / F : Nat) : Int)] 85))
  obtain ⟨w4, hw4⟩ : ∃ x, x = w3.alloc (.cells #[.int .i64 ((a % F : Nat) : Int), .int .i64 ((a / F : Nat) : Int)] 85) := ⟨_, rfl⟩
  rw [← hw4] at hA4 hB4 hQ4 ⊢
  clear hw4 hA3 hB3
  obtain ⟨q1, hq1⟩ : ∃ x, x = w3.heap.size := ⟨_, rfl⟩
  rw [← hq1] at hQ4 ⊢
  clear hq1
  obtain ⟨a0, hea0⟩ : ∃ x, x = a % F := ⟨_, rfl⟩
  obtain ⟨a1, hea1⟩ : ∃ x, x = a / F := ⟨_, rfl⟩
  rw [← hea0, ← hea1] at hray
  rw [← hea0] at b1 b3 hQ4
  rw [← hea1] at b2 b4 hQ4
  replace hea0 := Lib.hid hea0
  replace hea1 := Lib.hid hea1
  go_loopg [10, 11] 20 (fun q lv kv wr => ∃ (k : Nat) (P : List Int), q + k = 21 ∧ 1 ≤ k ∧ k ≤ 9 ∧ P.length ≤ 8 ∧ L = P ++ rayL F R a df dr (9 - k) k ∧ kv = .int .i64 k ∧ wr.ownsRow w4.heap.size 3 1 lv P.length (P.map (.int .i64)) ∧ Below w4.heap.size w4 wr)
  case atStart => exact ⟨1, [], rfl, by omega, by omega, by simp, hL0, rfl, World.ownsRow_nil _ _ _ _, Below.refl _ _⟩
  case round =>
   clear hL0
   obtain ⟨k, P, hq, hk1, hk9, hPl, hLP, rfl, hown, hbr⟩ := hrel
   have hAr := hA4.call hbr
   have hQr := hQ4.call hbr
   have hcr := hAr.cells
   have hdr' := hQr.cells
   have hlr := hAr.lt
   have hmr := hQr.lt
   have hBr := below_call hB4 hB4.size hbr
   by_cases hk : k ≤ 8
   ·have hk8 : (k : Int) ≤ 8 := by omega
    have m1 := mul_sgn hk9 hdf
    have m2 := mul_sgn hk9 hdr
    have e1 : wrap64 ((k : Int) * df) = k * df := wrap_small (by omega)
    have e2 : wrap64 ((k : Int) * dr) = k * dr := wrap_small (by omega)
    have e3 : wrap64 ((a0 : Int) + k * df) = a0 + k * df := wrap_small (by omega)
    have e4 : wrap64 ((a1 : Int) + k * dr) = a1 + k * dr := wrap_small (by omega)
    go_wp2_with fail
    refine (refNumber_v F R (a0 + k * df) (a1 + k * dr) wr (by omega) (by omega) (by omega)).mono ?_
    rintro e w5 ⟨rfl, hb5⟩
    have hbr5 := below_call hbr hbr.size hb5
    have hown5 := own_call hown hb5
    have hBr5 := below_call hBr hBr.size hb5
    rw [← hray k]
    obtain ⟨x, hx⟩ : ∃ x, x = rayN F R a df dr k := ⟨_, rfl⟩
    rw [← hx]
    clear hown hbr hb5 hAr hQr hcr hdr' hlr hmr hBr e1 e2 e3 e4
    by_cases hneg : x < 0
    ·have hLe : Hid (L = P) := Lib.hid (by rw [hLP, rayL_neg (by rw [← hx]; exact hneg), List.append_nil])
     replace hx := Lib.hid hx
     replace hLP := Lib.hid hLP
     go_wp2_with fail
     go_ret
     exact ⟨⟨_, rfl, by rw [hLe.out]; exact own_mono hown5 hB4.size⟩, hBr5⟩
    ·have hLe : Hid (L = (P ++ [x]) ++ rayL F R a df dr (9 - (k + 1)) (k + 1)) := Lib.hid (by
      rw [hLP, show 9 - k = (9 - (k + 1)) + 1 by omega, rayL_pos (by rw [← hx]; exact hneg), ← hx, List.append_assoc]; rfl)
     have hP8 : (P ++ [x]).length ≤ 8 := by
      have h1 := hLl
      rw [hLe.out, List.length_append] at h1
      omega
     replace hx := Lib.hid hx
     replace hLP := Lib.hid hLP
     go_wp2_with (at_builtin; refine wpList_push_at rfl (.tmp 48) (.tmp 50) 136 rfl w4.heap.size 3 i3 (.int .i64 0) 8 Tryz.underlying136 hi3 hz3 hs3 hy3 rfl _ P.length (P.map (.int .i64)) rfl hown5 1 [.int .i64 x] rfl (by intro u hu; simp at hu; subst hu; rfl) _ rfl rfl (by omega) hbr5.size ?_)
     intro v' w9 hown9 hg9 _
     have hb9 := (hbr5.alloc hbr5.size (.cells #[.int .i64 x] 3)).grown hg9 (Nat.le_trans hbr5.size (by simp)) (fun j e => (hown5.lt j e).1)
     replace hown9 : w9.ownsRow w4.heap.size 3 1 v' (P ++ [x]).length ((P ++ [x]).map (.int .i64)) := by simpa using hown9
     clear hown5 hg9
     go_wp2_with fail
     go_roundg (gk - 1)
     case measure => omega
     case rel => exact ⟨k + 1, P ++ [x], by omega, by omega, by omega, hP8, hLe.out, by go_num, hown9, hb9⟩
   ·have hk8 : ¬ (k : Int) ≤ 8 := by omega
    obtain rfl : k = 9 := by omega
    have hLe : Hid (L = P) := Lib.hid (by rw [hLP]; simp [rayL])
    replace hLP := Lib.hid hLP
    go_wp2_with fail
    go_ret
    exact ⟨⟨_, rfl, by rw [hLe.out]; exact own_mono hown hB4.size⟩, hBr⟩
def btwL (L : List Int) (b : Int) : List Int := if elI L b then L.takeWhile (fun x => !(x == b)) else []
theorem takeWhile_at : ∀ (L : List Int) (b : Int) (i : Nat), elI (L.take i) b = false → (h : i < L.length) → L[i] = b → L.takeWhile (fun x => !(x == b)) = L.take i := by
 intro L
 induction L with
 | nil => intro b i _ h; simp at h
 | cons y L ih =>
  intro b i h1 h2 h3
  cases i with
  | zero =>
   simp at h3
   simp [h3]
  | succ i =>
   simp only [List.take_succ_cons, elI, List.any_cons, Bool.or_eq_false_iff] at h1
   simp only [List.getElem_cons_succ] at h3
   have := ih b i h1.2 (by simpa using h2) h3
   rw [List.takeWhile_cons, h1.1]
   simp [this]
theorem btwL_at {L : List Int} {b : Int} {i : Nat} (h1 : elI (L.take i) b = false) (h2 : i < L.length) (h3 : L[i] = b) : btwL L b = L.take i := by
 have h4 : elI L b = true := by unfold elI; rw [List.any_eq_true]; exact ⟨L[i], List.getElem_mem h2, by simp [h3]⟩
 unfold btwL
 rw [if_pos h4]
 exact takeWhile_at L b i h1 h2 h3
theorem btwL_none {L : List Int} {b : Int} (h : elI L b = false) : btwL L b = [] := by
 unfold btwL; rw [h]; rfl
theorem btwL_len (L : List Int) (b : Int) : (btwL L b).length ≤ L.length := by
 unfold btwL
 split
 ·exact (List.takeWhile_sublist _).length_le
 ·simp
theorem arr_take {k : IntKind} {W : World} {g o : Nat} {xs : List Int} (i : Nat) (hl : g < W.heap.size) (h : ∀ j, j < xs.length → W.cell? ⟨g, o + j, none⟩ = some (.int k (xs[j]?.getD 0))) : Arr k W (some ⟨g, o, none⟩) (xs.take i) := by
 refine .inr ⟨g, o, rfl, hl, fun j hj => ?_⟩
 rw [List.length_take] at hj
 rw [h j (by omega), List.getElem?_take_of_lt (by omega)]
theorem sgn_bd (x : Int) : -1 ≤ sgnI x ∧ sgnI x ≤ 1 := by unfold sgnI; split <;> (try split) <;> omega
theorem sgn_zero (x : Int) : sgnI x = 0 ↔ x = 0 := by unfold sgnI; split <;> (try split) <;> omega
theorem line_ne {F a b : Nat} (h : lineB a b (dF F a b) (dR F a b) = true) : ¬ (sgnI (dF F a b) = 0 ∧ sgnI (dR F a b) = 0) := by
 rintro ⟨h1, h2⟩
 rw [sgn_zero] at h1 h2
 unfold lineB at h
 have : a = b := by
  unfold dF at h1
  unfold dR at h2
  have e1 : a % F = b % F := by omega
  have e2 : a / F = b / F := by omega
  have := Nat.div_add_mod a F
  have h5 := Nat.div_add_mod b F
  rw [e1, e2] at this
  omega
 simp [this] at h
def SlcR (w : World) (k : IntKind) (xs : List Int) (e : Ending) (w' : World) : Prop :=
 (∃ p c, e = .returned (.slice p xs.length c) ∧ Arr k w' p xs) ∧ Below w.heap.size w w'
set_option maxRecDepth 100000 in
theorem refBetween_any (F R a b : Nat) (hF : 3 ≤ F ∧ F ≤ 8) (hR : 3 ≤ R ∧ R ≤ 8) (ha : a < F * R) (hb : b < F * R) (hln : lineB a b (dF F a b) (dR F a b) = true) (w : World) :
  Calls Tryz.prog 195 #[.agg #[.int .i64 F, .int .i64 R], .int .i64 a, .int .i64 b] w (SlcR w .i64 (btwL (rayL F R a (sgnI (dF F a b)) (sgnI (dR F a b)) 8 1) b)) := by
 have hA := HasO.new w (.cells [.int .i64 (F : Int), .int .i64 (R : Int)].toArray 23)
 have hB := below_box w (.cells [.int .i64 (F : Int), .int .i64 (R : Int)].toArray 23)
 obtain ⟨ha64, ha0, ha1⟩ := sq_bd hF hR ha
 obtain ⟨hb64, hb0, hb1⟩ := sq_bd hF hR hb
 have hray := fun W => refRay_any F R a (sgnI (dF F a b)) (sgnI (dR F a b)) hF hR ha (sgn_bd _) (sgn_bd _) (line_ne hln) W
 have hlin := fun W => refLine_any F R a b hF ha64 hb64 W
 have e1 : lineX a b (dF F a b) (dR F a b) (sgnI (dF F a b)) = sgnI (dF F a b) := by unfold lineX; rw [hln]; rfl
 have e2 : lineX a b (dF F a b) (dR F a b) (sgnI (dR F a b)) = sgnI (dR F a b) := by unfold lineX; rw [hln]; rfl
 rw [e1, e2, hln] at hlin
 have hLl := rayL_len F R a (sgnI (dF F a b)) (sgnI (dR F a b)) 8 1
 generalize rayL F R a (sgnI (dF F a b)) (sgnI (dR F a b)) 8 1 = L at hray hLl ⊢
 generalize sgnI (dF F a b) = sf, sgnI (dR F a b) = sr at hray hlin
 clear e1 e2
 go_enter Tryz.func195, Tryz.ntmps195
 go_wp2_with fail
 refine (hlin _).mono ?_
 rintro e w2 ⟨rfl, hb2⟩
 have hA2 := hA.call hb2
 have hB2 := below_call hB hB.size hb2
 have hc2 := hA2.cells
 have hl2 := hA2.lt
 clear hA hB hb2
 go_wp2_with fail
 refine (hray _).mono ?_
 rintro e w3 ⟨⟨v, rfl, hown⟩, hb3⟩
 have hB3 := below_call hB2 hB2.size hb3
 obtain ⟨p, c, rfl, hLc, hArr⟩ := own_arr hown
 clear hA2 hB2 hb3 hc2 hl2 hown hray hlin
 go_wp2_with fail
 go_loopg [11] 20 (fun q iv wr => ∃ i : Nat, q + i = 20 ∧ i ≤ L.length ∧ iv = .int .i64 i ∧ Below w3.heap.size w3 wr ∧ elI (L.take i) b = false)
 case atStart => exact ⟨0, rfl, Nat.zero_le _, rfl, Below.refl _ _, rfl⟩
 case round =>
  obtain ⟨i, hq, hi, rfl, hbr, hel⟩ := hrel
  have hBr := below_call hB3 hB3.size hbr
  replace hel := Lib.hid hel
  by_cases hlt : i < L.length
  ·have hii : (i : Int) < L.length := by omega
   obtain ⟨g, o, rfl, hgl, hcc⟩ := (hArr.call hbr).at hlt
   have hci := hcc i hlt
   have hget : L[i]?.getD 0 = L[i] := by simp [hlt]
   obtain ⟨y, hy⟩ : ∃ y, y = L[i]?.getD 0 := ⟨_, rfl⟩
   rw [← hy] at hci hget
   replace hget := Lib.hid hget
   replace hcc := Lib.hid hcc
   clear hy
   by_cases hyb : y = b
   ·have e0 : Hid (btwL L b = L.take i) := Lib.hid (btwL_at hel.out hlt (by rw [← hget.out]; exact hyb))
    have hyb2 : (y == (b : Int)) = true := by simp [hyb]
    have hic : (i : Int) ≤ c := by omega
    replace hyb := Lib.hid hyb
    go_wp2_with fail
    go_ret
    refine ⟨⟨some ⟨g, o, none⟩, c, ?_, ?_⟩, hBr⟩
    ·rw [e0.out, List.length_take, Nat.min_eq_left (by omega)]; rfl
    ·rw [e0.out]; exact arr_take i hgl hcc.out
   ·have hyb2 : (y == (b : Int)) = false := by simp [hyb]
    go_wp2_with fail
    go_roundg (gk - 1)
    case measure => omega
    case rel => exact ⟨i + 1, by omega, by omega, by go_num, hbr, by have ha := hel.out; unfold elI at ha ⊢; rw [List.take_succ_eq_append_getElem hlt, List.any_append, ha]; simp [← hget.out]; exact hyb⟩
  ·have hii : ¬ (i : Int) < L.length := by omega
   have e0 : Hid (btwL L b = []) := Lib.hid (btwL_none (by have ha := hel.out; rwa [List.take_of_length_le (by omega)] at ha))
   go_wp2_with fail
   go_ret
   refine ⟨⟨none, 0, ?_, ?_⟩, hBr⟩
   ·rw [e0.out]; rfl
   ·rw [e0.out]; exact .inl rfl
end Go.Proofs.YtefmplccbkmalaaGreatDoor
