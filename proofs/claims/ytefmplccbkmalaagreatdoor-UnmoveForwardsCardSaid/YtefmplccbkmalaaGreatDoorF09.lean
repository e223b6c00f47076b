import Derived.Test.YtefmplccbkmalaaGreatDoorF01
import Derived.Test.YtefmplccbkmalaaGreatDoorF08
import Derived.Lib.QuietBelow
import Derived.BigQuiet
import Derived.StillTail
set_option maxHeartbeats 12800000
namespace Go.Proofs.YtefmplccbkmalaaGreatDoor
open Go.RowKit

def btwS (F R a b : Nat) : List Int := btwL (rayL F R a (sgnI (dF F a b)) (sgnI (dR F a b)) 8 1) b
def strB (df dr : Int) : Bool := decide (df = 0) || decide (dr = 0)
def reachB (F R : Nat) (k : Int) (a b oc : Nat) : Bool :=
 if k = 2 then dF F a b * dF F a b + dR F a b * dR F a b == 5 else if k = 6 then distI F a b == 1 else
  (lineB a b (dF F a b) (dR F a b) && (k == 5 || (strB (dF F a b) (dR F a b) == (k == 4)))) && freeL (btwS F R a b) oc
theorem bd_sq {x : Int} (h : -100 < x ∧ x < 100) : 0 ≤ x * x ∧ x * x < 10000 := by
 have h1 : (x * x).natAbs = x.natAbs * x.natAbs := Int.natAbs_mul x x
 have h2 : x.natAbs * x.natAbs ≤ 99 * 99 := Nat.mul_le_mul (by omega) (by omega)
 have h3 : 0 ≤ x * x := by rcases Int.le_total 0 x with h | h; exact Int.mul_nonneg h h; exact Int.mul_nonneg_of_nonpos_of_nonpos h h
 omega
theorem dF_bd {F a b : Nat} (hF : 3 ≤ F ∧ F ≤ 8) : -100 < dF F a b ∧ dF F a b < 100 := by
 have h1 := Nat.mod_lt a (show 0 < F by omega)
 have h2 := Nat.mod_lt b (show 0 < F by omega)
 unfold dF; omega
theorem dR_bd {F R a b : Nat} (hR : 3 ≤ R ∧ R ≤ 8) (ha : a / F < R) (hb : b / F < R) : -100 < dR F a b ∧ dR F a b < 100 := by
 unfold dR
 generalize a / F = x, b / F = y at *
 omega
set_option maxRecDepth 100000 in
theorem refReaches_any (F R : Nat) (k : Int) (a b oc : Nat) (hF : 3 ≤ F ∧ F ≤ 8) (hR : 3 ≤ R ∧ R ≤ 8) (ha : a < F * R) (hb : b < F * R) (w : World) :
  Calls Tryz.prog 165 #[.agg #[.int .i64 F, .int .i64 R], .int .i8 k, .int .i64 a, .int .i64 b, .int .u64 (oc : Nat)] w fun e w' => e = .returned (.bool (reachB F R k a b oc)) ∧ Below w.heap.size w w' := by
 have hA := HasO.new w (.cells [.int .i64 (F : Int), .int .i64 (R : Int)].toArray 23)
 have hB := below_box w (.cells [.int .i64 (F : Int), .int .i64 (R : Int)].toArray 23)
 obtain ⟨ha64, ha0, ha1⟩ := sq_bd hF hR ha
 obtain ⟨hb64, hb0, hb1⟩ := sq_bd hF hR hb
 have hdist := fun W => refDist_any F R a b hF ha64 hb64 W
 have hlin := fun W => refLine_any F R a b hF ha64 hb64 W
 have hbtw := fun h W => refBetween_any F R a b hF hR ha hb h W
 have hbl : (btwL (rayL F R a (sgnI (dF F a b)) (sgnI (dR F a b)) 8 1) b).length ≤ 8 := Nat.le_trans (btwL_len _ _) (rayL_len _ _ _ _ _ _ _)
 obtain ⟨V, hV⟩ : ∃ V, V = reachB F R k a b oc := ⟨_, rfl⟩
 have hVV : V = if k = 2 then dF F a b * dF F a b + dR F a b * dR F a b == 5 else if k = 6 then distI F a b == 1 else
  (lineB a b (dF F a b) (dR F a b) && (k == 5 || (strB (dF F a b) (dR F a b) == (k == 4)))) && freeL (btwL (rayL F R a (sgnI (dF F a b)) (sgnI (dR F a b)) 8 1) b) oc := hV
 rw [← hV]
 clear hV
 have hdb := dF_bd (a := a) (b := b) hF
 have hrb := dR_bd (a := a) (b := b) hR ha1 hb1
 have hdf : dF F a b = ((b % F : Nat) : Int) - ((a % F : Nat) : Int) := rfl
 have hdr : dR F a b = ((b / F : Nat) : Int) - ((a / F : Nat) : Int) := rfl
 generalize btwL (rayL F R a (sgnI (dF F a b)) (sgnI (dR F a b)) 8 1) b = B at hbtw hVV hbl
 generalize distI F a b = D at hdist hVV
 generalize dF F a b = df, dR F a b = dr at hlin hbtw hVV hdb hrb hdf hdr
 replace hVV := Lib.hid hVV
 go_enter Tryz.func165, Tryz.ntmps165
 go_wp2_with fail
 show Code.wp _ _ _ _ (w.alloc (.cells [.int .i64 (F : Int), .int .i64 (R : Int)].toArray 23))
 obtain ⟨w1, hw1⟩ : ∃ x, x = w.alloc (.cells [.int .i64 (F : Int), .int .i64 (R : Int)].toArray 23) := ⟨_, rfl⟩
 rw [← hw1] at hA hB ⊢
 clear hw1
 refine wp_region_relL (by kernel_rfl) (by kernel_rfl) [some 19, some 20, some 21, some 22, some 23, some 24, some 11, some 12, none, none] (by rfl) (by rfl) (twoR w1 [.int .i64 (F : Int), .int .i64 (R : Int)].toArray a b #[.int .i64 (a % F : Nat), .int .i64 (a / F : Nat)] #[.int .i64 (b % F : Nat), .int .i64 (b / F : Nat)]) (fun S S9 f9 W h hR => twoR_congr S S9 f9 W h hR) (fun f9 => twoR_init f9) ?hstep ?hend
 case hstep =>
  intro S i9 o9 f9 W ho hi hSj hpre hcl hR K hK
  have hi : i9 < 10 := hi
  have hR0 := hR
  obtain ⟨hC, h0, h1, h2, h3, h4, h5, h6, h7, h8⟩ := hR0
  have hsz := hA.call hC
  rcases i9 with _ | _ | _ | _ | _ | _ | _ | _ | _ | _ | i9
  ·exact st_loadA (og ho) 23 (.tmp 5) (oo ho) (rd_out rfl rfl) [.int .i64 (F : Int), .int .i64 (R : Int)] (by kernel_rfl) (fun j v hv => by rw [Nat.zero_add, hsz.cells j]; simpa using hv) (hK _ _ (twoR_val hR 0 _ (Below.refl _ _) (by decide) (by refine ⟨?_, ?_, ?_, ?_, ?_, ?_⟩ <;> intro h <;> first | rfl | (cases h))))
  ·exact st_move (og ho) (.tmp 2) (oo ho) (rd_out rfl rfl) (hK _ _ (twoR_val hR 1 _ (Below.refl _ _) (by decide) (by refine ⟨?_, ?_, ?_, ?_, ?_, ?_⟩ <;> intro h <;> first | rfl | (cases h))))
  ·exact st_call2 (og ho) 40 (.tmp 19) (.tmp 20) #[23, 3] (oo ho) (ri 0 (h0 (da ho hpre 0))) (ri 1 (h1 (da ho hpre 1))) (fun _ _ => rfl) (refPlace_any F R a hF (by omega) W) (by rintro u w9 ⟨h9, hb9⟩; injection h9 with h9; subst h9; exact hK _ _ (twoR_val hR 2 _ hb9 (by decide) (by refine ⟨?_, ?_, ?_, ?_, ?_, ?_⟩ <;> intro h <;> first | rfl | (cases h)))) (by rintro ch w9 ⟨h9, _⟩; cases h9) (by rintro w9 ⟨h9, _⟩; cases h9)
  ·exact st_loadA (og ho) 23 (.tmp 5) (oo ho) (rd_out rfl rfl) [.int .i64 (F : Int), .int .i64 (R : Int)] (by kernel_rfl) (fun j v hv => by rw [Nat.zero_add, hsz.cells j]; simpa using hv) (hK _ _ (twoR_val hR 3 _ (Below.refl _ _) (by decide) (by refine ⟨?_, ?_, ?_, ?_, ?_, ?_⟩ <;> intro h <;> first | rfl | (cases h))))
  ·exact st_move (og ho) (.tmp 3) (oo ho) (rd_out rfl rfl) (hK _ _ (twoR_val hR 4 _ (Below.refl _ _) (by decide) (by refine ⟨?_, ?_, ?_, ?_, ?_, ?_⟩ <;> intro h <;> first | rfl | (cases h))))
  ·exact st_call2 (og ho) 40 (.tmp 22) (.tmp 23) #[23, 3] (oo ho) (ri 3 (h3 (da ho hpre 3))) (ri 4 (h4 (da ho hpre 4))) (fun _ _ => rfl) (refPlace_any F R b hF (by omega) W) (by rintro u w9 ⟨h9, hb9⟩; injection h9 with h9; subst h9; exact hK _ _ (twoR_val hR 5 _ hb9 (by decide) (by refine ⟨?_, ?_, ?_, ?_, ?_, ?_⟩ <;> intro h <;> first | rfl | (cases h)))) (by rintro ch w9 ⟨h9, _⟩; cases h9) (by rintro w9 ⟨h9, _⟩; cases h9)
  ·have hS8 : S 8 = false := by
    rcases h : S 8 with _ | _
    ·rfl
    ·have := hcl 8 _ h rfl ⟨6, .data⟩ (by simp) rfl
     rw [hSj] at this; cases this
   exact st_alloc (og ho) 85 (oo ho) (alloc99 W) (hK _ _ (twoR_new hR 6 (.inl rfl) hS8))
  ·have hS9 : S 9 = false := by
    rcases h : S 9 with _ | _
    ·rfl
    ·have := hcl 9 _ h rfl ⟨7, .data⟩ (by simp) rfl
     rw [hSj] at this; cases this
   exact st_alloc (og ho) 85 (oo ho) (alloc99 W) (hK _ _ (twoR_new hR 7 (.inr rfl) hS9))
  ·have hSi := (da ho hpre 6)
   obtain ⟨q, e1, e2, old, e3, e4, e5⟩ := h6 hSi
   exact st_storeO (og ho) 85 (.tmp 11) (.tmp 21) (oo ho) (ri 6 e1) _ old 85 (ri 2 (h2 (da ho hpre 2))) e3 (by kernel_rfl) e4 (by simp [Value.oneCell']) (hK _ _ (twoR_set1 hR hSi rfl _ e1))
  ·have hSi := (da ho hpre 7)
   obtain ⟨q, e1, e2, old, e3, e4, e5⟩ := h7 hSi
   exact st_storeO (og ho) 85 (.tmp 12) (.tmp 24) (oo ho) (ri 7 e1) _ old 85 (ri 5 (h5 (da ho hpre 5))) e3 (by kernel_rfl) e4 (by simp [Value.oneCell']) (hK _ _ (twoR_set2 hR hSi rfl _ e1))
  ·omega
 case hend =>
  intro S f9 W hS hR
  obtain ⟨hC, _, _, _, _, _, _, h6, h7, h8⟩ := hR
  obtain ⟨q1, e1, l1, o1, hO1, _, z1⟩ := h6 (hS 6 (by decide))
  obtain ⟨q2, e2, l2, o2, hO2, _, z2⟩ := h7 (hS 7 (by decide))
  replace z1 := z1 (hS 8 (by decide))
  replace z2 := z2 (hS 9 (by decide))
  subst z1 z2
  clear h6 h7 h8
  simp only [putL, Act.put, List.setIfInBounds_toArray, List.set_cons_succ, List.set_cons_zero]
  rw [e1, e2]
  clear e1 e2 hS
  generalize f9 0 = u0, f9 1 = u1, f9 2 = u2, f9 3 = u3, f9 4 = u4, f9 5 = u5, f9 8 = u8, f9 9 = u9
  have hBW := below_call hB hB.size hC
  have hAW := hA.call hC
  generalize a % F = a0, a / F = a1, b % F = b0, b / F = b1' at *
  clear hA
  have hwf : IntKind.i64.wrap ((b0 : Int) - (a0 : Int)) = df := by rw [← hdf]; exact IntWalk.i64_in _ (by omega)
  have hwr : IntKind.i64.wrap ((b1' : Int) - (a1 : Int)) = dr := by rw [← hdr]; exact IntWalk.i64_in _ (by omega)
  replace hdf := Lib.hid hdf
  replace hdr := Lib.hid hdr
  go_wp2_with fail
  refine wp_region_valsL (by kernel_rfl) (by kernel_rfl) [some 25, some 26, some 27, some 28, some 29, some 30, some 31, some 32, some 33, some 34, some 13, some 14] (by rfl) (by rfl) (fun i => match i with | 0 => .pointer (some ⟨q2, 0, none⟩) | 1 => .int .i64 ((b0 : Nat) : Int) | 2 => .pointer (some ⟨q1, 0, none⟩) | 3 => .int .i64 ((a0 : Nat) : Int) | 4 => .int .i64 df | 5 => .pointer (some ⟨q2, 1, none⟩) | 6 => .int .i64 ((b1' : Nat) : Int) | 7 => .pointer (some ⟨q1, 1, none⟩) | 8 => .int .i64 ((a1 : Nat) : Int) | 9 => .int .i64 dr | 10 => .int .i64 df | 11 => .int .i64 dr | _ => undef) (fun W2 => Below W.heap.size W W2) (Below.refl _ _).drew ?hstep ?hend
  case hstep =>
   intro i9 o9 f9 W2 ho hi hC hf K hK
   have hi : i9 < 12 := hi
   rcases i9 with _ | _ | _ | _ | _ | _ | _ | _ | _ | _ | _ | _ | i9
   ·exact st_field (og ho) 85 (.tmp 12) 0 (oo ho) (rd_out rfl rfl) (n := 0) (by kernel_rfl) (hK _ hC)
   ·exact st_loadS (og ho) 3 (.tmp 25) (oo ho) (ri 0 (da ho hf 0)) (by kernel_rfl) (((hO2.call hC).cells 0)) (hK _ hC)
   ·exact st_field (og ho) 85 (.tmp 11) 0 (oo ho) (rd_out rfl rfl) (n := 0) (by kernel_rfl) (hK _ hC)
   ·exact st_loadS (og ho) 3 (.tmp 27) (oo ho) (ri 2 (da ho hf 2)) (by kernel_rfl) (((hO1.call hC).cells 0)) (hK _ hC)
   ·exact st_bin (og ho) .sub 3 3 (.tmp 26) (.tmp 28) (oo ho) (ri 1 (da ho hf 1)) (ri 3 (da ho hf 3)) (gu_i _ _ _ _ _ _ _ _) (bin_subE hwf) (hK _ hC)
   ·exact st_field (og ho) 85 (.tmp 12) 1 (oo ho) (rd_out rfl rfl) (n := 1) (by kernel_rfl) (hK _ hC)
   ·exact st_loadS (og ho) 3 (.tmp 30) (oo ho) (ri 5 (da ho hf 5)) (by kernel_rfl) (((hO2.call hC).cells 1)) (hK _ hC)
   ·exact st_field (og ho) 85 (.tmp 11) 1 (oo ho) (rd_out rfl rfl) (n := 1) (by kernel_rfl) (hK _ hC)
   ·exact st_loadS (og ho) 3 (.tmp 32) (oo ho) (ri 7 (da ho hf 7)) (by kernel_rfl) (((hO1.call hC).cells 1)) (hK _ hC)
   ·exact st_bin (og ho) .sub 3 3 (.tmp 31) (.tmp 33) (oo ho) (ri 6 (da ho hf 6)) (ri 8 (da ho hf 8)) (gu_i _ _ _ _ _ _ _ _) (bin_subE hwr) (hK _ hC)
   ·exact st_assign (og ho) (.tmp 29) (oo ho) (ri 4 (da ho hf 4)) (hK _ hC)
   ·exact st_assign (og ho) (.tmp 34) (oo ho) (ri 9 (da ho hf 9)) (hK _ hC)
   ·omega
  case hend =>
   intro W2 hC2
   have hBW2 := below_call hBW hBW.size hC2
   have hAW2 := hAW.call hC2
   have hcA := hAW2.cells
   have hlA := hAW2.lt
   simp only [putL, Act.put, List.setIfInBounds_toArray, List.set_cons_succ, List.set_cons_zero]
   clear hO1 hO2 hwf hwr hC hC2 hAW
   have g1 := bd_sq hdb
   have g2 := bd_sq hrb
   have e1 : wrap64 (df * df) = df * df := IntWalk.wrap64_in _ (by omega)
   have e2 : wrap64 (dr * dr) = dr * dr := IntWalk.wrap64_in _ (by omega)
   have e3 : wrap64 (df * df + dr * dr) = df * df + dr * dr := IntWalk.wrap64_in _ (by omega)
   by_cases k2 : k = 2
   ·have e0 : Hid (V = (df * df + dr * dr == 5)) := Lib.hid (by rw [hVV.out, if_pos k2])
    have c1 : (k == 2) = true := by simp [k2]
    replace k2 := Lib.hid k2
    go_wp2_with fail
    go_ret
    exact ⟨by rw [e0.out]; rfl, hBW2⟩
   by_cases k6 : k = 6
   ·have e0 : Hid (V = (D == 1)) := Lib.hid (by rw [hVV.out, if_neg k2, if_pos k6])
    have c1 : (k == 2) = false := by simp [k2]
    have c2 : (k == 6) = true := by simp [k6]
    replace k6 := Lib.hid k6
    replace k2 := Lib.hid k2
    go_wp2_with fail
    refine (hdist _).mono ?_
    rintro e w3 ⟨rfl, hb3⟩
    go_wp2_with fail
    go_ret
    exact ⟨by rw [e0.out]; rfl, below_call hBW2 hBW2.size hb3⟩
   have c1 : (k == 2) = false := by simp [k2]
   have c2 : (k == 6) = false := by simp [k6]
   replace hVV : Hid (V = ((lineB a b df dr && (k == 5 || (strB df dr == (k == 4)))) && freeL B oc)) := Lib.hid (by rw [hVV.out, if_neg k2, if_neg k6])
   replace k2 := Lib.hid k2
   replace k6 := Lib.hid k6
   clear g1 g2 e1 e2 e3
   go_wp2_with fail
   refine (hlin _).mono ?_
   rintro e w3 ⟨rfl, hb3⟩
   have hBW3 := below_call hBW2 hBW2.size hb3
   have hA3 := hAW2.call hb3
   have hcA3 := hA3.cells
   have hlA3 := hA3.lt
   clear hb3 hBW2 hAW2 hcA hlA hlin hdist
   have hst : ((df == 0) = true ∧ strB df dr = true) ∨ ((df == 0) = false ∧ (dr == 0) = true ∧ strB df dr = true) ∨ ((df == 0) = false ∧ (dr == 0) = false ∧ strB df dr = false) := by
    by_cases h1 : df = 0
    ·left; simp [strB, h1]
    ·by_cases h2 : dr = 0
     ·right; left; simp [strB, h1, h2]
     ·right; right; simp [strB, h1, h2]
   rcases hl : lineB a b df dr with _ | _
   ·have e0 : Hid (V = false) := Lib.hid (by rw [hVV.out, hl]; rfl)
    replace hVV := Lib.hid hVV
    rcases hst with ⟨d1, d2⟩ | ⟨d1, d3, d2⟩ | ⟨d1, d3, d2⟩
    all_goals
     go_wp2_with fail
     go_ret
     exact ⟨by rw [e0.out]; rfl, hBW3⟩
   ·have hkk : ((k == 5) = true) ∨ ((k == 5) = false ∧ (k == 4) = true) ∨ ((k == 5) = false ∧ (k == 4) = false) := by
     rcases h1 : (k == 5) with _ | _
     ·right
      rcases h2 : (k == 4) with _ | _
      ·right; exact ⟨rfl, rfl⟩
      ·left; exact ⟨rfl, rfl⟩
     ·left; rfl
    have hbtw' := hbtw hl w3
    clear hbtw
    obtain ⟨M, hM⟩ : ∃ M, M = (k == 5 || (strB df dr == (k == 4))) := ⟨_, rfl⟩
    have e0 : Hid (V = (M && freeL B oc)) := Lib.hid (by rw [hVV.out, hl, hM]; rfl)
    rcases hst with ⟨d1, d2⟩ | ⟨d1, d3, d2⟩ | ⟨d1, d3, d2⟩
    all_goals
     rcases hkk with f1 | ⟨f1, f2⟩ | ⟨f1, f2⟩
     all_goals
      (try rw [f1] at hM)
      (try rw [f2] at hM)
      (try rw [d2] at hM)
      replace hM := Lib.hid hM
      go_wp2_with fail
      first
       | (refine hbtw'.mono ?_
          rintro e w4 ⟨⟨p, c, rfl, hArr⟩, hb4⟩
          have hBW4 := below_call hBW3 hBW3.size hb4
          clear hb4 hBW3 hA3 hcA3 hlA3
          go_wp2_with fail
          refine (refFree_any p c B oc w4 hArr (by omega)).mono ?_
          rintro e w5 ⟨rfl, hb5⟩
          go_wp2_with fail
          go_ret
          exact ⟨by rw [e0.out, hM.out]; rfl, below_call hBW4 hBW4.size hb5⟩)
       | (go_ret
          exact ⟨by rw [e0.out, hM.out]; rfl, hBW3⟩)
end Go.Proofs.YtefmplccbkmalaaGreatDoor
namespace Go.Proofs.YtefmplccbkmalaaGreatDoor
open Go Go.Sort Go.RowKit

section
variable {P : Program} {ops : Array Oper} {md : Region.Mode} {C : World → Prop}
def wpAnyT (P : Program) (md : Region.Mode) (ops : Array Oper) (C : World → Prop) (n : Nat) (L : Array Bool → Act → Prop) : Nat → Array Bool → Act → Prop
 | 0, listed, a => L listed a
 | f + 1, listed, a => Region.ready md ops listed ≠ [] ∧ ∀ i ∈ Region.ready md ops listed, i < n ∧ qOp P ops C i (wpAnyT P md ops C n L f (listed.setIfInBounds i true)) a
theorem wpAny_of_headT {n g : Nat} {L : Array Bool → Act → Prop} {Q' : Exit → Act → World → Prop} (hL : ∀ listed a w, C w → L listed a → wpAny P md ops Q' g listed a w) :
  ∀ (f : Nat) (listed : Array Bool) (a : Act) (w : World), C w → wpAnyT P md ops C n L f listed a → wpAny P md ops Q' (f + g) listed a w
 | 0, listed, a, w, hw, h => by rw [Nat.zero_add]; exact hL _ _ _ hw h
 | f + 1, listed, a, w, hw, h => by
  rw [show f + 1 + g = (f + g) + 1 by omega]
  exact ⟨fun h0 => absurd h0 h.1, fun i hi => wpOp_of_qOp hw (fun a' w' hw' h' => wpAny_of_headT hL f _ a' w' hw' h') (h.2 i hi).2⟩
theorem wpAnyT_first {n i : Nat} {oi : Oper} {v : Value} {L : Array Bool → Act → Prop} (hi : ops[i]? = some oi) (hsel : ∀ (j : Nat) (o : Oper) cs b, ops[j]? = some o → o.op ≠ .select cs b)
  (hs : Region.sinkB md ops n = true) (hc : Region.chainB md ops n = true) (hn : n < ops.size) (hin : i < n)
  (hdone : ∀ listed a, L listed a → ∀ j ∈ Region.ready md ops listed, n ≤ j) :
  ∀ (f : Nat) (listed : Array Bool) (a : Act), HeadInv md ops n listed →
   (∀ j oj, ops[j]? = some oj → j ≠ i → listed.getD j true = false → (∀ e ∈ oj.after, Region.binds md e = true → e.on ≠ i) → oi.apart ops oj = true) →
   i ∈ Region.ready md ops listed → YieldsIn P ops C oi v a →
   wpAnyT P md ops C n L f (listed.setIfInBounds i true) (a.put oi.dst v) → wpAnyT P md ops C n L (f + 1) listed a := by
 intro f
 induction f with
 | zero =>
  intro listed a inv _ hr hy H
  have hun := (mem_ready.1 hr).1
  refine ⟨fun h => (by rw [h] at hr; cases hr), fun j hj => ?_⟩
  have hjn : j < n := by
   rcases Nat.lt_or_ge j n with h | h
   ·exact h
   ·exact absurd hj (tail_waits hs hc hn inv _ i rfl hin hun j h)
  refine ⟨hjn, ?_⟩
  by_cases hji : j = i
  ·subst hji; exact hy.qOp hi H
  ·have := hdone _ _ H j (ready_mono hj hji)
   omega
 | succ f ih =>
  intro listed a inv hfree hr hy H
  have hun := (mem_ready.1 hr).1
  refine ⟨fun h => (by rw [h] at hr; cases hr), fun j hj => ?_⟩
  have hjn : j < n := by
   rcases Nat.lt_or_ge j n with h | h
   ·exact h
   ·exact absurd hj (tail_waits hs hc hn inv _ i rfl hin hun j h)
  refine ⟨hjn, ?_⟩
  by_cases hji : j = i
  ·subst hji; exact hy.qOp hi H
  ·have h1 := (H.2 j (ready_mono hj hji)).2
   obtain ⟨hjun, oj, hoj, hall⟩ := mem_ready.1 hj
   have hnot : ∀ e ∈ oj.after, Region.binds md e = true → e.on ≠ i := fun e he hb heq => by
    have h1 := hall e he hb
    rw [heq, getD_both hun] at h1
    cases h1
   have h2 := qOp_put hoj (hfree j oj hoj hji hjun hnot) (fun cs b => hsel i oi cs b hi) (fun cs b => hsel j oj cs b hoj) hy h1
   have hfree' : ∀ k ok, ops[k]? = some ok → k ≠ i → (listed.setIfInBounds j true).getD k true = false →
     (∀ e ∈ ok.after, Region.binds md e = true → e.on ≠ i) → oi.apart ops ok = true := fun k ok hk hki hun hno => by
    refine hfree k ok hk hki ?_ hno
    by_cases hjk : j = k
    ·subst hjk; exact hjun
    ·rw [Go.getD_set_ne true hjk] at hun; exact hun
   refine qOp_mono (fun a' h3 => ih (listed.setIfInBounds j true) a' (inv.set hj hjn) hfree' (ready_mono hr (Ne.symm hji)) h3.1 ?_) h2
   rw [Array.setIfInBounds_comm _ _ hji]
   exact h3.2
theorem wpAnyT_lex {n g : Nat} {Lq : Act → Prop} (hsel : Region.noSelect ops = true) (hs : Region.sinkB md ops n = true) (hc : Region.chainB md ops n = true) (hn : n < ops.size) :
  ∀ (l : List Oper) (k : Nat) (listed : Array Bool) (a : Act), (∀ j, j < l.length → l[j]? = ops[k + j]?) → k + l.length = n → HeadInv md ops n listed →
  Region.lexHead md ops g l.length k listed = true → wpQuiet P ops C Lq l a →
  wpAnyT P md ops C n (fun listed' a' => Region.seqB md ops g n listed' = true ∧ Lq a') l.length listed a
 | [], k, listed, a, _, hk, _, hB, h => by
  have : k = n := by simpa using hk
  subst this
  exact ⟨by simpa [Region.lexHead] using hB, h⟩
 | o :: l, k, listed, a, hl, hk, inv, hB, h => by
  have h0 : ops[k]? = some o := by simpa using (hl 0 (by simp)).symm
  simp only [List.length_cons, Region.lexHead, Bool.and_eq_true] at hB
  obtain ⟨⟨hr, hf⟩, hB'⟩ := hB
  have hkn : k < n := by simp only [List.length_cons] at hk; omega
  have hr' : k ∈ Region.ready md ops listed := by simpa using hr
  have hst : qOp P ops C k (wpQuiet P ops C Lq l) a := by unfold qOp; simp only [h0]; exact h
  obtain ⟨v, hy, hK⟩ := yieldsIn_of_qOp h0 hst
  exact wpAnyT_first h0 (Region.noSelect_spec hsel) hs hc hn hkn (fun listed' a' hL => seqB_ready hL.1) l.length listed a inv (Region.free_spec h0 hf) hr' hy
   (wpAnyT_lex hsel hs hc hn l (k + 1) _ _ (fun j hj => by have := hl (j + 1) (by simp; omega); simpa [Nat.add_assoc, Nat.add_comm 1 j] using this) (by simp only [List.length_cons] at hk; omega) (inv.set hr' hkn) hB' hK)
theorem wpQuiet_mono {Q Q' : Act → Prop} (hQ : ∀ a, Q a → Q' a) : ∀ (l : List Oper) (a : Act), wpQuiet P ops C Q l a → wpQuiet P ops C Q' l a
 | [], a, h => hQ a h
 | o :: l, a, h => by
  simp only [wpQuiet] at h ⊢
  split
  ·rename_i hw
   rw [if_pos hw] at h
   exact Oper.quiet_mono (fun a' h' => wpQuiet_mono hQ l a' h') h
  ·rename_i hw
   rw [if_neg hw] at h
   exact wpQuiet_mono hQ l _ h
theorem wp_region_tailC {id : Nat} {Q : Exit → Act → World → Prop} {a : Act} {w : World} {l : List Oper} (n : Nat) (hm : P.follows .mixedOrders = true) (hB : Region.lexTailB .any l.toArray n = true) (hC : C w.drew)
  (h : wpQuiet P l.toArray C (fun a' => ∀ w', C w' → wpList P l.toArray Q (l.drop n) a' w') (l.take n) a) : (Code.region id l.toArray true).wp P Q a w := by
 simp only [Region.lexTailB, Bool.and_eq_true, decide_eq_true_eq] at hB
 obtain ⟨⟨⟨⟨hsel, hn⟩, hs⟩, hc⟩, hlex⟩ := hB
 have hn' : n < l.length := by simpa using hn
 have htl : (l.take n).length = n := by simp; omega
 have hdl : (l.drop n).length = l.toArray.size - n := by simp
 have inv0 : HeadInv .any l.toArray n (Array.replicate l.toArray.size false) :=
  ⟨by simp, fun j oj _ hl => (by rw [getD_replicate_false] at hl; cases hl), fun t _ ht => getD_in (by simpa using ht) (getD_replicate_false _ _)⟩
 have H := wpAnyT_lex (md := .any) (g := l.toArray.size - n) hsel hs hc hn (l.take n) 0 _ a (fun j hj => by
  have hj' : j < n := by rw [htl] at hj; exact hj
  simp [hj']) (by simpa using htl) inv0 (by rw [htl]; exact hlex) h
 refine wp_region_any hm ?_
 have := wpAny_of_headT (Q' := Q) (g := l.toArray.size - n) (fun listed a' w' hw' hL => by
  have := wpAny_of_seq (md := .any) (Q' := Q) (l.drop n) n listed a' w' (fun j => by simp [List.getElem?_drop]) (by rw [hdl]; exact hL.1) (hL.2 w' hw')
  rwa [hdl] at this) _ _ _ _ hC H
 rw [htl, show n + (l.toArray.size - n) = l.toArray.size by omega] at this
 exact this
theorem wp_region_tail {id : Nat} {Q : Exit → Act → World → Prop} {a : Act} {w : World} {l : List Oper} (n : Nat) (hm : P.follows .mixedOrders = true) (hB : Region.lexTailB .any l.toArray n = true)
  (h : wpQuiet P l.toArray (fun w' => ∃ p : Regrown, w' = grow (redrawn w p.d) p.os) (fun a' => ∀ w', Below w.heap.size w w' → wpList P l.toArray Q (l.drop n) a' w') (l.take n) a) : (Code.region id l.toArray true).wp P Q a w := by
 refine wp_region_tailC (C := fun w' => ∃ p : Regrown, w' = grow (redrawn w p.d) p.os) n hm hB ⟨⟨w.drawn + 1, #[]⟩, by rw [grow_empty]; rfl⟩ ?_
 have hq : ∀ a', (∀ w', Below w.heap.size w w' → wpList P l.toArray Q (l.drop n) a' w') → ∀ w', (∃ p : Regrown, w' = grow (redrawn w p.d) p.os) → wpList P l.toArray Q (l.drop n) a' w' := by
  rintro a' h' w' ⟨p, rfl⟩
  exact h' _ (below_regrown _ _ _)
 exact wpQuiet_mono hq _ _ h
theorem wp_region_all {id : Nat} {Q : Exit → Act → World → Prop} {a : Act} {w : World} {l : List Oper} (hm : P.follows .mixedOrders = true) (hB : Region.lexB .any l.toArray = true)
  (h : wpQuiet P l.toArray (fun w' => ∃ p : Regrown, w' = grow (redrawn w p.d) p.os) (fun a' => ∀ w', Below w.heap.size w w' → Q .normal a' w') l a) : (Code.region id l.toArray true).wp P Q a w := by
 refine wp_region_quiet_below hm hB ?_
 refine wpQuiet_mono ?_ _ _ h
 rintro a' h' w' ⟨p, rfl⟩
 exact h' _ (below_regrown _ _ _)
end
end Go.Proofs.YtefmplccbkmalaaGreatDoor
namespace Go.Proofs.YtefmplccbkmalaaGreatDoor
open Go Go.RowKit Go.Sort Go.BigFrame

theorem row_gr {w : World} {q : Nat} {cs : Array Value} {t : TypeId} (h : HasO w q (.cells cs t (0, 0))) (d : Nat) (os : Array Obj) (j : Nat) : (grow (redrawn w d) os).cell? ⟨q, j, none⟩ = cs[j]? := (h.call (below_regrown w d os)).cells j
theorem call_gr {P : Program} {f : FuncId} {args : Array Value} {w : World} {v : Value} (h : ∀ W, Below w.heap.size w W → Calls P f args W fun e w' => e = .returned v ∧ Below W.heap.size W w') (d : Nat) (os : Array Obj) :
  Calls P f args (grow (redrawn w d) os) fun e w'' => e = .returned v ∧ ∃ p : Regrown, w'' = grow (redrawn w p.d) p.os := Calls.regrown_of (h _ (below_regrown w d os))
theorem call_eq {P : Program} {f : FuncId} {args : Array Value} {w : World} {v : Value} (h : ∀ W, Calls P f args W fun e w' => e = .returned v ∧ W = w') (d : Nat) (os : Array Obj) :
  Calls P f args (grow (redrawn w d) os) fun e w'' => e = .returned v ∧ ∃ p : Regrown, w'' = grow (redrawn w p.d) p.os := (h _).mono fun _ _ ⟨he, hw⟩ => ⟨he, ⟨d, os⟩, hw.symm⟩
end Go.Proofs.YtefmplccbkmalaaGreatDoor
