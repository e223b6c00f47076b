import Derived.Test.YtefmplccbkmalaaGreatDoorC09
set_option maxHeartbeats 12800000
namespace Go.Proofs.YtefmplccbkmalaaGreatDoor
open Go.RowKit

def pawnHit (F : Nat) (bl : Bool) (a b : Nat) : Bool := (dR F a b == sdI bl) && ((dF F a b == 1) || (-(dF F a b) == 1))
def pawnL (F : Nat) (bl : Bool) (a : Nat) : Nat → List Int
 | 0 => []
 | k + 1 => if pawnHit F bl a k then pawnL F bl a k ++ [(k : Int)] else pawnL F bl a k
theorem pawnL_len (F : Nat) (bl : Bool) (a k : Nat) : (pawnL F bl a k).length ≤ k := by
 induction k with
 | zero => simp [pawnL]
 | succ k ih =>
  simp only [pawnL]
  split
  ·simp; omega
  ·omega
def pwR (w4 : World) (F : Nat) (bl : Bool) (a N : Nat) (b : Nat) (lv bv : Value) (wr : World) : Prop :=
 b ≤ N ∧ bv = .int .i64 b ∧ wr.ownsRow w4.heap.size 3 1 lv (pawnL F bl a b).length ((pawnL F bl a b).map (.int .i64)) ∧ Below w4.heap.size w4 wr
set_option maxRecDepth 100000 in
theorem refPawn_any (F R : Nat) (bl : Bool) (a : Nat) (hF : 3 ≤ F ∧ F ≤ 8) (hR : 3 ≤ R ∧ R ≤ 8) (ha : a < F * R) (w : World) :
  Calls Tryz.prog 191 #[.agg #[.int .i64 F, .int .i64 R], .bool bl, .int .i64 a] w fun e w' => (∃ v, e = .returned v ∧ w'.ownsRow w.heap.size 3 1 v (pawnL F bl a (F * R)).length ((pawnL F bl a (F * R)).map (.int .i64))) ∧ Below w.heap.size w w' := by
 obtain ⟨i3, hi3, hz3, hs3, hy3⟩ := info_parts Tryz.info3
 have hA := HasO.new w (.cells [.int .i64 (F : Int), .int .i64 (R : Int)].toArray 23)
 have hB := below_box w (.cells [.int .i64 (F : Int), .int .i64 (R : Int)].toArray 23)
 obtain ⟨ha64, ha0, ha1⟩ := sq_bd hF hR ha
 obtain ⟨N, hN⟩ : ∃ N, N = F * R := ⟨_, rfl⟩
 have hN64 : N ≤ 64 := by rw [hN]; exact Nat.mul_le_mul hF.2 hR.2
 have hw : wrap64 ((F : Int) * (R : Int)) = (N : Int) := by rw [hN, Int.natCast_mul]; exact IntWalk.wrap64_in _ (by rw [← Int.natCast_mul, ← hN]; omega)
 rw [← hN]
 go_enter Tryz.func191, Tryz.ntmps191
 go_wp2_with fail
 show Code.wp _ _ _ _ (w.alloc (.cells [.int .i64 (F : Int), .int .i64 (R : Int)].toArray 23))
 obtain ⟨w1, hw1⟩ : ∃ x, x = w.alloc (.cells [.int .i64 (F : Int), .int .i64 (R : Int)].toArray 23) := ⟨_, rfl⟩
 rw [← hw1] at hA hB ⊢
 clear hw1
 replace hN := Lib.hid hN
 go_loopg [7, 8] 65 (fun q lv bv wr => ∃ b : Nat, q + b = 65 ∧ pwR w1 F bl a N b lv bv wr)
 case atStart => exact ⟨0, rfl, ⟨Nat.zero_le _, rfl, World.ownsRow_nil _ _ _ _, Below.refl _ _⟩⟩
 case round =>
  obtain ⟨b, hq, ⟨hbN, rfl, hown, hbr⟩⟩ := hrel
  have hAr := hA.call hbr
  have hcr := hAr.cells
  have hlr := hAr.lt
  have hBr := below_call hB hB.size hbr
  by_cases hlt : b < N
  ·have hii : (b : Int) < N := by omega
   obtain ⟨hb64, hb0, hb1⟩ := sq_bd hF hR (show b < F * R by rw [← hN.out]; exact hlt)
   have hdb := dF_bd (a := a) (b := b) hF
   have hrb := dR_bd (a := a) (b := b) hR ha1 hb1
   have hdf : dF F a b = ((b % F : Nat) : Int) - ((a % F : Nat) : Int) := rfl
   have hdr : dR F a b = ((b / F : Nat) : Int) - ((a / F : Nat) : Int) := rfl
   have hlen := pawnL_len F bl a b
   have hnx : pawnL F bl a (b + 1) = if pawnHit F bl a b then pawnL F bl a b ++ [(b : Int)] else pawnL F bl a b := rfl
   have hhit : pawnHit F bl a b = ((dR F a b == sdI bl) && ((dF F a b == 1) || (-(dF F a b) == 1))) := rfl
   generalize dF F a b = df, dR F a b = dr at hdb hrb hdf hdr hhit
   go_wp2_with fail
   refine wp_region_relL (by kernel_rfl) (by kernel_rfl) [some 20, some 21, some 22, some 23, some 24, some 25, some 9, some 10, none, none] (by rfl) (by rfl) (twoR wr [.int .i64 (F : Int), .int .i64 (R : Int)].toArray a b #[.int .i64 (a % F : Nat), .int .i64 (a / F : Nat)] #[.int .i64 (b % F : Nat), .int .i64 (b / F : Nat)]) (fun S S9 f9 W h hR => twoR_congr S S9 f9 W h hR) (fun f9 => twoR_init f9) ?hstep ?hend
   case hstep =>
    intro S i9 o9 f9 W ho hi hSj hpre hcl hR K hK
    have hi : i9 < 10 := hi
    have hR0 := hR
    obtain ⟨hC, h0, h1, h2, h3, h4, h5, h6, h7, h8⟩ := hR0
    have hsz := hAr.call hC
    rcases i9 with _ | _ | _ | _ | _ | _ | _ | _ | _ | _ | i9
    ·exact st_loadA (og ho) 23 (.tmp 3) (oo ho) (rd_out rfl rfl) [.int .i64 (F : Int), .int .i64 (R : Int)] (by kernel_rfl) (fun j v hv => by rw [Nat.zero_add, hsz.cells j]; simpa using hv) (hK _ _ (twoR_val hR 0 _ (Below.refl _ _) (by decide) (by refine ⟨?_, ?_, ?_, ?_, ?_, ?_⟩ <;> intro h <;> first | rfl | (cases h))))
    ·exact st_move (og ho) (.tmp 2) (oo ho) (rd_out rfl rfl) (hK _ _ (twoR_val hR 1 _ (Below.refl _ _) (by decide) (by refine ⟨?_, ?_, ?_, ?_, ?_, ?_⟩ <;> intro h <;> first | rfl | (cases h))))
    ·exact st_call2 (og ho) 40 (.tmp 20) (.tmp 21) #[23, 3] (oo ho) (ri 0 (h0 (da ho hpre 0))) (ri 1 (h1 (da ho hpre 1))) (fun _ _ => rfl) (refPlace_any F R a hF (by omega) W) (by rintro u w9 ⟨h9, hb9⟩; injection h9 with h9; subst h9; exact hK _ _ (twoR_val hR 2 _ hb9 (by decide) (by refine ⟨?_, ?_, ?_, ?_, ?_, ?_⟩ <;> intro h <;> first | rfl | (cases h)))) (by rintro ch w9 ⟨h9, _⟩; cases h9) (by rintro w9 ⟨h9, _⟩; cases h9)
    ·exact st_loadA (og ho) 23 (.tmp 3) (oo ho) (rd_out rfl rfl) [.int .i64 (F : Int), .int .i64 (R : Int)] (by kernel_rfl) (fun j v hv => by rw [Nat.zero_add, hsz.cells j]; simpa using hv) (hK _ _ (twoR_val hR 3 _ (Below.refl _ _) (by decide) (by refine ⟨?_, ?_, ?_, ?_, ?_, ?_⟩ <;> intro h <;> first | rfl | (cases h))))
    ·exact st_move (og ho) (.tmp 8) (oo ho) (rd_out rfl rfl) (hK _ _ (twoR_val hR 4 _ (Below.refl _ _) (by decide) (by refine ⟨?_, ?_, ?_, ?_, ?_, ?_⟩ <;> intro h <;> first | rfl | (cases h))))
    ·exact st_call2 (og ho) 40 (.tmp 23) (.tmp 24) #[23, 3] (oo ho) (ri 3 (h3 (da ho hpre 3))) (ri 4 (h4 (da ho hpre 4))) (fun _ _ => rfl) (refPlace_any F R b hF (by omega) W) (by rintro u w9 ⟨h9, hb9⟩; injection h9 with h9; subst h9; exact hK _ _ (twoR_val hR 5 _ hb9 (by decide) (by refine ⟨?_, ?_, ?_, ?_, ?_, ?_⟩ <;> intro h <;> first | rfl | (cases h)))) (by rintro ch w9 ⟨h9, _⟩; cases h9) (by rintro w9 ⟨h9, _⟩; cases h9)
    ·have hS8 : S 8 = false := by
      rcases h : S 8 with _ | _
      ·rfl
      ·have := hcl 8 _ h rfl ⟨6, .data⟩ (by simp) rfl
       rw [hSj] at this; cases this
     exact st_alloc (og ho) 85 (oo ho) (alloc99 W) (hK _ _ (twoR_new hR 6 (.inl rfl) hS8))
    ·have hS9 : S 9 = false := by
      rcases h : S 9 with _ | _
      ·rfl
      ·have := hcl 9 _ h rfl ⟨7, .data⟩ (by simp) rfl
       rw [hSj] at this; cases this
     exact st_alloc (og ho) 85 (oo ho) (alloc99 W) (hK _ _ (twoR_new hR 7 (.inr rfl) hS9))
    ·have hSi := (da ho hpre 6)
     obtain ⟨q, e1, e2, old, e3, e4, e5⟩ := h6 hSi
     exact st_storeO (og ho) 85 (.tmp 9) (.tmp 22) (oo ho) (ri 6 e1) _ old 85 (ri 2 (h2 (da ho hpre 2))) e3 (by kernel_rfl) e4 (by simp [Value.oneCell']) (hK _ _ (twoR_set1 hR hSi rfl _ e1))
    ·have hSi := (da ho hpre 7)
     obtain ⟨q, e1, e2, old, e3, e4, e5⟩ := h7 hSi
     exact st_storeO (og ho) 85 (.tmp 10) (.tmp 25) (oo ho) (ri 7 e1) _ old 85 (ri 5 (h5 (da ho hpre 5))) e3 (by kernel_rfl) e4 (by simp [Value.oneCell']) (hK _ _ (twoR_set2 hR hSi rfl _ e1))
    ·omega
   case hend =>
    intro S f9 W hS hR
    obtain ⟨hC, _, _, _, _, _, _, h6, h7, h8⟩ := hR
    obtain ⟨q1, e1, l1, o1, hO1, _, z1⟩ := h6 (hS 6 (by decide))
    obtain ⟨q2, e2, l2, o2, hO2, _, z2⟩ := h7 (hS 7 (by decide))
    replace z1 := z1 (hS 8 (by decide))
    replace z2 := z2 (hS 9 (by decide))
    subst z1 z2
    clear h6 h7 h8
    simp only [putL, Act.put, List.setIfInBounds_toArray, List.set_cons_succ, List.set_cons_zero]
    rw [e1, e2]
    clear e1 e2 hS
    generalize f9 0 = u0, f9 1 = u1, f9 2 = u2, f9 3 = u3, f9 4 = u4, f9 5 = u5, f9 8 = u8, f9 9 = u9
    have hbW := below_call hbr hbr.size hC
    have hownW := own_call hown hC
    have hBW := below_call hBr hBr.size hC
    generalize a % F = a0, a / F = a1, b % F = b0, b / F = b1' at *
    clear hAr hcr hlr hbr hown hBr
    have hwf : IntKind.i64.wrap ((b0 : Int) - (a0 : Int)) = df := by rw [← hdf]; exact IntWalk.i64_in _ (by omega)
    have hwg : IntKind.i64.wrap ((a0 : Int) - (b0 : Int)) = -df := by rw [show (a0 : Int) - (b0 : Int) = -df by omega]; exact IntWalk.i64_in _ (by omega)
    have hwr : IntKind.i64.wrap ((b1' : Int) - (a1 : Int)) = dr := by rw [← hdr]; exact IntWalk.i64_in _ (by omega)
    replace hdf := Lib.hid hdf
    replace hdr := Lib.hid hdr
    go_wp2_with fail
    rcases c8 : (dr == sdI bl) with _ | _
    ·rw [c8] at hhit
     refine wp_region_valsL (by kernel_rfl) (by kernel_rfl) [some 26, some 27, some 28, some 29, some 30, some 31, some 32, some 33, some 34, some 35, some 36, some 37, some 38, some 39, some 40, some 41, some 42, some 43, some 44, some 45, some 46, some 47, some 48, some 49] (by rfl) (by rfl) (fun i => match i with | 0 => .pointer (some ⟨q2, 1, none⟩) | 1 => .int .i64 ((b1' : Nat) : Int) | 2 => .pointer (some ⟨q1, 1, none⟩) | 3 => .int .i64 ((a1 : Nat) : Int) | 4 => .int .i64 dr | 5 => .bool bl | 6 => .int .i64 (sdI bl) | 7 => .bool false | 8 => .bool false | 23 => .bool false | _ => undef) (fun W2 => Below W.heap.size W W2) (Below.refl _ _).drew ?hstep ?hend
     case hstep =>
      intro i9 o9 f9 W2 ho hi hC hf K hK
      have hi : i9 < 24 := hi
      rcases i9 with _ | _ | _ | _ | _ | _ | _ | _ | _ | _ | _ | _ | _ | _ | _ | _ | _ | _ | _ | _ | _ | _ | _ | _ | i9
      ·exact st_field (og ho) 85 (.tmp 10) 1 (oo ho) (rd_out rfl rfl) (n := 1) (by kernel_rfl) (hK _ hC)
      ·exact st_loadS (og ho) 3 (.tmp 26) (oo ho) (ri 0 (da ho hf 0)) (by kernel_rfl) (((hO2.call hC).cells 1)) (hK _ hC)
      ·exact st_field (og ho) 85 (.tmp 9) 1 (oo ho) (rd_out rfl rfl) (n := 1) (by kernel_rfl) (hK _ hC)
      ·exact st_loadS (og ho) 3 (.tmp 28) (oo ho) (ri 2 (da ho hf 2)) (by kernel_rfl) (((hO1.call hC).cells 1)) (hK _ hC)
      ·exact st_bin (og ho) .sub 3 3 (.tmp 27) (.tmp 29) (oo ho) (ri 1 (da ho hf 1)) (ri 3 (da ho hf 3)) (gu_i _ _ _ _ _ _ _ _) (bin_subE hwr) (hK _ hC)
      ·exact st_move (og ho) (.tmp 1) (oo ho) (rd_out rfl rfl) (hK _ hC)
      ·exact st_call1 (og ho) 205 (.tmp 31) #[4] (oo ho) (ri 5 (da ho hf 5)) (fun _ _ => rfl) (refForward_any bl W2) (by rintro u w9 ⟨h9, h10⟩; injection h9 with h9; subst h9; subst h10; exact hK _ hC) (fun _ _ h => nomatch h.1) (fun _ h => nomatch h.1)
      ·exact st_bin (og ho) .eql 3 3 (.tmp 30) (.tmp 32) (oo ho) (ri 4 (da ho hf 4)) (ri 6 (da ho hf 6)) (gu_i _ _ _ _ _ _ _ _) (bin_eqlE c8) (hK _ hC)
      ·exact st_move (og ho) (.tmp 33) (oo ho) (ri 7 (da ho hf 7)) (hK _ hC)
      iterate 7 exact skip_gd (uw ho (dg ho hf 8)) (hK _ hC)
      iterate 6 exact skip_gd (unwanted_undef rfl 15 false 41 (og ho) rfl rfl (by simp) (dg ho hf 15)) (hK _ hC)
      ·exact skip_gd (uw ho (dg ho hf 8)) (hK _ hC)
      ·exact st_pickF (og ho) (.tmp 34) (.tmp 48) (.const (.bool false)) (oo ho) (ri 8 (da ho hf 8)) rfl (hK _ hC)
      ·omega
     case hend =>
      intro W2 hC2
      have hbW2 := below_call hbW hbW.size hC2
      have hownW2 := own_call hownW hC2
      have hBW2 := below_call hBW hBW.size hC2
      simp only [putL, Act.put, List.setIfInBounds_toArray, List.set_cons_succ, List.set_cons_zero]
      clear hO1 hO2 hwf hwr hwg hC hC2 hbW hownW hBW
      replace hnx := Lib.hid (hnx.trans (if_neg (by rw [hhit]; simp)))
      go_wp2_with fail
      go_roundg (gk - 1)
      case measure => omega
      case rel => exact ⟨b + 1, by omega, ⟨by omega, by go_num, by rw [hnx.out]; exact hownW2, hbW2⟩⟩
    ·rcases c15 : (df == 1) with _ | _
     ·rcases c21 : (-df == 1) with _ | _
      ·rw [c8, c15, c21] at hhit
       refine wp_region_valsL (by kernel_rfl) (by kernel_rfl) [some 26, some 27, some 28, some 29, some 30, some 31, some 32, some 33, some 34, some 35, some 36, some 37, some 38, some 39, some 40, some 41, some 42, some 43, some 44, some 45, some 46, some 47, some 48, some 49] (by rfl) (by rfl) (fun i => match i with | 0 => .pointer (some ⟨q2, 1, none⟩) | 1 => .int .i64 ((b1' : Nat) : Int) | 2 => .pointer (some ⟨q1, 1, none⟩) | 3 => .int .i64 ((a1 : Nat) : Int) | 4 => .int .i64 dr | 5 => .bool bl | 6 => .int .i64 (sdI bl) | 7 => .bool true | 8 => .bool true | 9 => .pointer (some ⟨q2, 0, none⟩) | 10 => .int .i64 ((b0 : Nat) : Int) | 11 => .pointer (some ⟨q1, 0, none⟩) | 12 => .int .i64 ((a0 : Nat) : Int) | 13 => .int .i64 df | 14 => .bool false | 15 => .bool false | 16 => .pointer (some ⟨q1, 0, none⟩) | 17 => .int .i64 ((a0 : Nat) : Int) | 18 => .pointer (some ⟨q2, 0, none⟩) | 19 => .int .i64 ((b0 : Nat) : Int) | 20 => .int .i64 (-df) | 21 => .bool false | 22 => .bool false | 23 => .bool false | _ => undef) (fun W2 => Below W.heap.size W W2) (Below.refl _ _).drew ?hstep ?hend
       case hstep =>
        intro i9 o9 f9 W2 ho hi hC hf K hK
        have hi : i9 < 24 := hi
        rcases i9 with _ | _ | _ | _ | _ | _ | _ | _ | _ | _ | _ | _ | _ | _ | _ | _ | _ | _ | _ | _ | _ | _ | _ | _ | i9
        ·exact st_field (og ho) 85 (.tmp 10) 1 (oo ho) (rd_out rfl rfl) (n := 1) (by kernel_rfl) (hK _ hC)
        ·exact st_loadS (og ho) 3 (.tmp 26) (oo ho) (ri 0 (da ho hf 0)) (by kernel_rfl) (((hO2.call hC).cells 1)) (hK _ hC)
        ·exact st_field (og ho) 85 (.tmp 9) 1 (oo ho) (rd_out rfl rfl) (n := 1) (by kernel_rfl) (hK _ hC)
        ·exact st_loadS (og ho) 3 (.tmp 28) (oo ho) (ri 2 (da ho hf 2)) (by kernel_rfl) (((hO1.call hC).cells 1)) (hK _ hC)
        ·exact st_bin (og ho) .sub 3 3 (.tmp 27) (.tmp 29) (oo ho) (ri 1 (da ho hf 1)) (ri 3 (da ho hf 3)) (gu_i _ _ _ _ _ _ _ _) (bin_subE hwr) (hK _ hC)
        ·exact st_move (og ho) (.tmp 1) (oo ho) (rd_out rfl rfl) (hK _ hC)
        ·exact st_call1 (og ho) 205 (.tmp 31) #[4] (oo ho) (ri 5 (da ho hf 5)) (fun _ _ => rfl) (refForward_any bl W2) (by rintro u w9 ⟨h9, h10⟩; injection h9 with h9; subst h9; subst h10; exact hK _ hC) (fun _ _ h => nomatch h.1) (fun _ h => nomatch h.1)
        ·exact st_bin (og ho) .eql 3 3 (.tmp 30) (.tmp 32) (oo ho) (ri 4 (da ho hf 4)) (ri 6 (da ho hf 6)) (gu_i _ _ _ _ _ _ _ _) (bin_eqlE c8) (hK _ hC)
        ·exact st_move (og ho) (.tmp 33) (oo ho) (ri 7 (da ho hf 7)) (hK _ hC)
        ·exact gd (wo ho (dg ho hf 8)) (st_field rfl 85 (.tmp 10) 0 (oo ho) (rd_out rfl rfl) (n := 0) (by kernel_rfl) (hK _ hC))
        ·exact gd (wo ho (dg ho hf 8)) (st_loadS rfl 3 (.tmp 35) (oo ho) (ri 9 (da ho hf 9)) (by kernel_rfl) (((hO2.call hC).cells 0)) (hK _ hC))
        ·exact gd (wo ho (dg ho hf 8)) (st_field rfl 85 (.tmp 9) 0 (oo ho) (rd_out rfl rfl) (n := 0) (by kernel_rfl) (hK _ hC))
        ·exact gd (wo ho (dg ho hf 8)) (st_loadS rfl 3 (.tmp 37) (oo ho) (ri 11 (da ho hf 11)) (by kernel_rfl) (((hO1.call hC).cells 0)) (hK _ hC))
        ·exact gd (wo ho (dg ho hf 8)) (st_bin rfl .sub 3 3 (.tmp 36) (.tmp 38) (oo ho) (ri 10 (da ho hf 10)) (ri 12 (da ho hf 12)) (gu_i _ _ _ _ _ _ _ _) (bin_subE hwf) (hK _ hC))
        ·exact gd (wo ho (dg ho hf 8)) (st_bin rfl .eql 3 3 (.tmp 39) (.const (.int .i64 1)) (oo ho) (ri 13 (da ho hf 13)) rfl (gu_i _ _ _ _ _ _ _ _) (bin_eqlE c15) (hK _ hC))
        ·exact gd (wo ho (dg ho hf 8)) (st_move rfl (.tmp 40) (oo ho) (ri 14 (da ho hf 14)) (hK _ hC))
        ·exact gd (wo ho (dg ho hf 15)) (st_field rfl 85 (.tmp 9) 0 (oo ho) (rd_out rfl rfl) (n := 0) (by kernel_rfl) (hK _ hC))
        ·exact gd (wo ho (dg ho hf 15)) (st_loadS rfl 3 (.tmp 42) (oo ho) (ri 16 (da ho hf 16)) (by kernel_rfl) (((hO1.call hC).cells 0)) (hK _ hC))
        ·exact gd (wo ho (dg ho hf 15)) (st_field rfl 85 (.tmp 10) 0 (oo ho) (rd_out rfl rfl) (n := 0) (by kernel_rfl) (hK _ hC))
        ·exact gd (wo ho (dg ho hf 15)) (st_loadS rfl 3 (.tmp 44) (oo ho) (ri 18 (da ho hf 18)) (by kernel_rfl) (((hO2.call hC).cells 0)) (hK _ hC))
        ·exact gd (wo ho (dg ho hf 15)) (st_bin rfl .sub 3 3 (.tmp 43) (.tmp 45) (oo ho) (ri 17 (da ho hf 17)) (ri 19 (da ho hf 19)) (gu_i _ _ _ _ _ _ _ _) (bin_subE hwg) (hK _ hC))
        ·exact gd (wo ho (dg ho hf 15)) (st_bin rfl .eql 3 3 (.tmp 46) (.const (.int .i64 1)) (oo ho) (ri 20 (da ho hf 20)) rfl (gu_i _ _ _ _ _ _ _ _) (bin_eqlE c21) (hK _ hC))
        ·exact gd (wo ho (dg ho hf 8)) (st_pickF rfl (.tmp 41) (.const (.bool true)) (.tmp 47) (oo ho) (ri 15 (da ho hf 15)) (ri 21 (da ho hf 21)) (hK _ hC))
        ·exact st_pickT (og ho) (.tmp 34) (.tmp 48) (.const (.bool false)) (oo ho) (ri 8 (da ho hf 8)) (ri 22 (da ho hf 22)) (hK _ hC)
        ·omega
       case hend =>
        intro W2 hC2
        have hbW2 := below_call hbW hbW.size hC2
        have hownW2 := own_call hownW hC2
        have hBW2 := below_call hBW hBW.size hC2
        simp only [putL, Act.put, List.setIfInBounds_toArray, List.set_cons_succ, List.set_cons_zero]
        clear hO1 hO2 hwf hwr hwg hC hC2 hbW hownW hBW
        replace hnx := Lib.hid (hnx.trans (if_neg (by rw [hhit]; simp)))
        go_wp2_with fail
        go_roundg (gk - 1)
        case measure => omega
        case rel => exact ⟨b + 1, by omega, ⟨by omega, by go_num, by rw [hnx.out]; exact hownW2, hbW2⟩⟩
      ·rw [c8, c15, c21] at hhit
       refine wp_region_valsL (by kernel_rfl) (by kernel_rfl) [some 26, some 27, some 28, some 29, some 30, some 31, some 32, some 33, some 34, some 35, some 36, some 37, some 38, some 39, some 40, some 41, some 42, some 43, some 44, some 45, some 46, some 47, some 48, some 49] (by rfl) (by rfl) (fun i => match i with | 0 => .pointer (some ⟨q2, 1, none⟩) | 1 => .int .i64 ((b1' : Nat) : Int) | 2 => .pointer (some ⟨q1, 1, none⟩) | 3 => .int .i64 ((a1 : Nat) : Int) | 4 => .int .i64 dr | 5 => .bool bl | 6 => .int .i64 (sdI bl) | 7 => .bool true | 8 => .bool true | 9 => .pointer (some ⟨q2, 0, none⟩) | 10 => .int .i64 ((b0 : Nat) : Int) | 11 => .pointer (some ⟨q1, 0, none⟩) | 12 => .int .i64 ((a0 : Nat) : Int) | 13 => .int .i64 df | 14 => .bool false | 15 => .bool false | 16 => .pointer (some ⟨q1, 0, none⟩) | 17 => .int .i64 ((a0 : Nat) : Int) | 18 => .pointer (some ⟨q2, 0, none⟩) | 19 => .int .i64 ((b0 : Nat) : Int) | 20 => .int .i64 (-df) | 21 => .bool true | 22 => .bool true | 23 => .bool true | _ => undef) (fun W2 => Below W.heap.size W W2) (Below.refl _ _).drew ?hstep ?hend
       case hstep =>
        intro i9 o9 f9 W2 ho hi hC hf K hK
        have hi : i9 < 24 := hi
        rcases i9 with _ | _ | _ | _ | _ | _ | _ | _ | _ | _ | _ | _ | _ | _ | _ | _ | _ | _ | _ | _ | _ | _ | _ | _ | i9
        ·exact st_field (og ho) 85 (.tmp 10) 1 (oo ho) (rd_out rfl rfl) (n := 1) (by kernel_rfl) (hK _ hC)
        ·exact st_loadS (og ho) 3 (.tmp 26) (oo ho) (ri 0 (da ho hf 0)) (by kernel_rfl) (((hO2.call hC).cells 1)) (hK _ hC)
        ·exact st_field (og ho) 85 (.tmp 9) 1 (oo ho) (rd_out rfl rfl) (n := 1) (by kernel_rfl) (hK _ hC)
        ·exact st_loadS (og ho) 3 (.tmp 28) (oo ho) (ri 2 (da ho hf 2)) (by kernel_rfl) (((hO1.call hC).cells 1)) (hK _ hC)
        ·exact st_bin (og ho) .sub 3 3 (.tmp 27) (.tmp 29) (oo ho) (ri 1 (da ho hf 1)) (ri 3 (da ho hf 3)) (gu_i _ _ _ _ _ _ _ _) (bin_subE hwr) (hK _ hC)
        ·exact st_move (og ho) (.tmp 1) (oo ho) (rd_out rfl rfl) (hK _ hC)
        ·exact st_call1 (og ho) 205 (.tmp 31) #[4] (oo ho) (ri 5 (da ho hf 5)) (fun _ _ => rfl) (refForward_any bl W2) (by rintro u w9 ⟨h9, h10⟩; injection h9 with h9; subst h9; subst h10; exact hK _ hC) (fun _ _ h => nomatch h.1) (fun _ h => nomatch h.1)
        ·exact st_bin (og ho) .eql 3 3 (.tmp 30) (.tmp 32) (oo ho) (ri 4 (da ho hf 4)) (ri 6 (da ho hf 6)) (gu_i _ _ _ _ _ _ _ _) (bin_eqlE c8) (hK _ hC)
        ·exact st_move (og ho) (.tmp 33) (oo ho) (ri 7 (da ho hf 7)) (hK _ hC)
        ·exact gd (wo ho (dg ho hf 8)) (st_field rfl 85 (.tmp 10) 0 (oo ho) (rd_out rfl rfl) (n := 0) (by kernel_rfl) (hK _ hC))
        ·exact gd (wo ho (dg ho hf 8)) (st_loadS rfl 3 (.tmp 35) (oo ho) (ri 9 (da ho hf 9)) (by kernel_rfl) (((hO2.call hC).cells 0)) (hK _ hC))
        ·exact gd (wo ho (dg ho hf 8)) (st_field rfl 85 (.tmp 9) 0 (oo ho) (rd_out rfl rfl) (n := 0) (by kernel_rfl) (hK _ hC))
        ·exact gd (wo ho (dg ho hf 8)) (st_loadS rfl 3 (.tmp 37) (oo ho) (ri 11 (da ho hf 11)) (by kernel_rfl) (((hO1.call hC).cells 0)) (hK _ hC))
        ·exact gd (wo ho (dg ho hf 8)) (st_bin rfl .sub 3 3 (.tmp 36) (.tmp 38) (oo ho) (ri 10 (da ho hf 10)) (ri 12 (da ho hf 12)) (gu_i _ _ _ _ _ _ _ _) (bin_subE hwf) (hK _ hC))
        ·exact gd (wo ho (dg ho hf 8)) (st_bin rfl .eql 3 3 (.tmp 39) (.const (.int .i64 1)) (oo ho) (ri 13 (da ho hf 13)) rfl (gu_i _ _ _ _ _ _ _ _) (bin_eqlE c15) (hK _ hC))
        ·exact gd (wo ho (dg ho hf 8)) (st_move rfl (.tmp 40) (oo ho) (ri 14 (da ho hf 14)) (hK _ hC))
        ·exact gd (wo ho (dg ho hf 15)) (st_field rfl 85 (.tmp 9) 0 (oo ho) (rd_out rfl rfl) (n := 0) (by kernel_rfl) (hK _ hC))
        ·exact gd (wo ho (dg ho hf 15)) (st_loadS rfl 3 (.tmp 42) (oo ho) (ri 16 (da ho hf 16)) (by kernel_rfl) (((hO1.call hC).cells 0)) (hK _ hC))
        ·exact gd (wo ho (dg ho hf 15)) (st_field rfl 85 (.tmp 10) 0 (oo ho) (rd_out rfl rfl) (n := 0) (by kernel_rfl) (hK _ hC))
        ·exact gd (wo ho (dg ho hf 15)) (st_loadS rfl 3 (.tmp 44) (oo ho) (ri 18 (da ho hf 18)) (by kernel_rfl) (((hO2.call hC).cells 0)) (hK _ hC))
        ·exact gd (wo ho (dg ho hf 15)) (st_bin rfl .sub 3 3 (.tmp 43) (.tmp 45) (oo ho) (ri 17 (da ho hf 17)) (ri 19 (da ho hf 19)) (gu_i _ _ _ _ _ _ _ _) (bin_subE hwg) (hK _ hC))
        ·exact gd (wo ho (dg ho hf 15)) (st_bin rfl .eql 3 3 (.tmp 46) (.const (.int .i64 1)) (oo ho) (ri 20 (da ho hf 20)) rfl (gu_i _ _ _ _ _ _ _ _) (bin_eqlE c21) (hK _ hC))
        ·exact gd (wo ho (dg ho hf 8)) (st_pickF rfl (.tmp 41) (.const (.bool true)) (.tmp 47) (oo ho) (ri 15 (da ho hf 15)) (ri 21 (da ho hf 21)) (hK _ hC))
        ·exact st_pickT (og ho) (.tmp 34) (.tmp 48) (.const (.bool false)) (oo ho) (ri 8 (da ho hf 8)) (ri 22 (da ho hf 22)) (hK _ hC)
        ·omega
       case hend =>
        intro W2 hC2
        have hbW2 := below_call hbW hbW.size hC2
        have hownW2 := own_call hownW hC2
        have hBW2 := below_call hBW hBW.size hC2
        simp only [putL, Act.put, List.setIfInBounds_toArray, List.set_cons_succ, List.set_cons_zero]
        clear hO1 hO2 hwf hwr hwg hC hC2 hbW hownW hBW
        replace hnx := Lib.hid (hnx.trans (if_pos (by rw [hhit]; simp)))
        go_wp2_with (at_builtin; refine wpList_push_at rfl (.tmp 50) (.tmp 52) 136 rfl w1.heap.size 3 i3 (.int .i64 0) 8 Tryz.underlying136 hi3 hz3 hs3 hy3 rfl _ (pawnL F bl a b).length ((pawnL F bl a b).map (.int .i64)) rfl hownW2 1 [.int .i64 (b : Int)] rfl (by intro u hu; simp at hu; subst hu; rfl) _ rfl rfl (by omega) hbW2.size ?_)
        intro v' w9 hown9 hg9 _
        have hb9 := (hbW2.alloc hbW2.size (.cells #[.int .i64 (b : Int)] 3)).grown hg9 (Nat.le_trans hbW2.size (by simp)) (fun j e => (hownW2.lt j e).1)
        replace hown9 : w9.ownsRow w1.heap.size 3 1 v' (pawnL F bl a (b + 1)).length ((pawnL F bl a (b + 1)).map (.int .i64)) := by rw [hnx.out]; simpa using hown9
        clear hownW2 hg9
        go_wp2_with fail
        go_roundg (gk - 1)
        case measure => omega
        case rel => exact ⟨b + 1, by omega, ⟨by omega, by go_num, hown9, hb9⟩⟩
     ·rw [c8, c15] at hhit
      refine wp_region_valsL (by kernel_rfl) (by kernel_rfl) [some 26, some 27, some 28, some 29, some 30, some 31, some 32, some 33, some 34, some 35, some 36, some 37, some 38, some 39, some 40, some 41, some 42, some 43, some 44, some 45, some 46, some 47, some 48, some 49] (by rfl) (by rfl) (fun i => match i with | 0 => .pointer (some ⟨q2, 1, none⟩) | 1 => .int .i64 ((b1' : Nat) : Int) | 2 => .pointer (some ⟨q1, 1, none⟩) | 3 => .int .i64 ((a1 : Nat) : Int) | 4 => .int .i64 dr | 5 => .bool bl | 6 => .int .i64 (sdI bl) | 7 => .bool true | 8 => .bool true | 9 => .pointer (some ⟨q2, 0, none⟩) | 10 => .int .i64 ((b0 : Nat) : Int) | 11 => .pointer (some ⟨q1, 0, none⟩) | 12 => .int .i64 ((a0 : Nat) : Int) | 13 => .int .i64 df | 14 => .bool true | 15 => .bool true | 22 => .bool true | 23 => .bool true | _ => undef) (fun W2 => Below W.heap.size W W2) (Below.refl _ _).drew ?hstep ?hend
      case hstep =>
       intro i9 o9 f9 W2 ho hi hC hf K hK
       have hi : i9 < 24 := hi
       rcases i9 with _ | _ | _ | _ | _ | _ | _ | _ | _ | _ | _ | _ | _ | _ | _ | _ | _ | _ | _ | _ | _ | _ | _ | _ | i9
       ·exact st_field (og ho) 85 (.tmp 10) 1 (oo ho) (rd_out rfl rfl) (n := 1) (by kernel_rfl) (hK _ hC)
       ·exact st_loadS (og ho) 3 (.tmp 26) (oo ho) (ri 0 (da ho hf 0)) (by kernel_rfl) (((hO2.call hC).cells 1)) (hK _ hC)
       ·exact st_field (og ho) 85 (.tmp 9) 1 (oo ho) (rd_out rfl rfl) (n := 1) (by kernel_rfl) (hK _ hC)
       ·exact st_loadS (og ho) 3 (.tmp 28) (oo ho) (ri 2 (da ho hf 2)) (by kernel_rfl) (((hO1.call hC).cells 1)) (hK _ hC)
       ·exact st_bin (og ho) .sub 3 3 (.tmp 27) (.tmp 29) (oo ho) (ri 1 (da ho hf 1)) (ri 3 (da ho hf 3)) (gu_i _ _ _ _ _ _ _ _) (bin_subE hwr) (hK _ hC)
       ·exact st_move (og ho) (.tmp 1) (oo ho) (rd_out rfl rfl) (hK _ hC)
       ·exact st_call1 (og ho) 205 (.tmp 31) #[4] (oo ho) (ri 5 (da ho hf 5)) (fun _ _ => rfl) (refForward_any bl W2) (by rintro u w9 ⟨h9, h10⟩; injection h9 with h9; subst h9; subst h10; exact hK _ hC) (fun _ _ h => nomatch h.1) (fun _ h => nomatch h.1)
       ·exact st_bin (og ho) .eql 3 3 (.tmp 30) (.tmp 32) (oo ho) (ri 4 (da ho hf 4)) (ri 6 (da ho hf 6)) (gu_i _ _ _ _ _ _ _ _) (bin_eqlE c8) (hK _ hC)
       ·exact st_move (og ho) (.tmp 33) (oo ho) (ri 7 (da ho hf 7)) (hK _ hC)
       ·exact gd (wo ho (dg ho hf 8)) (st_field rfl 85 (.tmp 10) 0 (oo ho) (rd_out rfl rfl) (n := 0) (by kernel_rfl) (hK _ hC))
       ·exact gd (wo ho (dg ho hf 8)) (st_loadS rfl 3 (.tmp 35) (oo ho) (ri 9 (da ho hf 9)) (by kernel_rfl) (((hO2.call hC).cells 0)) (hK _ hC))
       ·exact gd (wo ho (dg ho hf 8)) (st_field rfl 85 (.tmp 9) 0 (oo ho) (rd_out rfl rfl) (n := 0) (by kernel_rfl) (hK _ hC))
       ·exact gd (wo ho (dg ho hf 8)) (st_loadS rfl 3 (.tmp 37) (oo ho) (ri 11 (da ho hf 11)) (by kernel_rfl) (((hO1.call hC).cells 0)) (hK _ hC))
       ·exact gd (wo ho (dg ho hf 8)) (st_bin rfl .sub 3 3 (.tmp 36) (.tmp 38) (oo ho) (ri 10 (da ho hf 10)) (ri 12 (da ho hf 12)) (gu_i _ _ _ _ _ _ _ _) (bin_subE hwf) (hK _ hC))
       ·exact gd (wo ho (dg ho hf 8)) (st_bin rfl .eql 3 3 (.tmp 39) (.const (.int .i64 1)) (oo ho) (ri 13 (da ho hf 13)) rfl (gu_i _ _ _ _ _ _ _ _) (bin_eqlE c15) (hK _ hC))
       ·exact gd (wo ho (dg ho hf 8)) (st_move rfl (.tmp 40) (oo ho) (ri 14 (da ho hf 14)) (hK _ hC))
       iterate 6 exact skip_gd (uw ho (dg ho hf 15)) (hK _ hC)
       ·exact gd (wo ho (dg ho hf 8)) (st_pickT rfl (.tmp 41) (.const (.bool true)) (.tmp 47) (oo ho) (ri 15 (da ho hf 15)) rfl (hK _ hC))
       ·exact st_pickT (og ho) (.tmp 34) (.tmp 48) (.const (.bool false)) (oo ho) (ri 8 (da ho hf 8)) (ri 22 (da ho hf 22)) (hK _ hC)
       ·omega
      case hend =>
       intro W2 hC2
       have hbW2 := below_call hbW hbW.size hC2
       have hownW2 := own_call hownW hC2
       have hBW2 := below_call hBW hBW.size hC2
       simp only [putL, Act.put, List.setIfInBounds_toArray, List.set_cons_succ, List.set_cons_zero]
       clear hO1 hO2 hwf hwr hwg hC hC2 hbW hownW hBW
       replace hnx := Lib.hid (hnx.trans (if_pos (by rw [hhit]; simp)))
       go_wp2_with (at_builtin; refine wpList_push_at rfl (.tmp 50) (.tmp 52) 136 rfl w1.heap.size 3 i3 (.int .i64 0) 8 Tryz.underlying136 hi3 hz3 hs3 hy3 rfl _ (pawnL F bl a b).length ((pawnL F bl a b).map (.int .i64)) rfl hownW2 1 [.int .i64 (b : Int)] rfl (by intro u hu; simp at hu; subst hu; rfl) _ rfl rfl (by omega) hbW2.size ?_)
       intro v' w9 hown9 hg9 _
       have hb9 := (hbW2.alloc hbW2.size (.cells #[.int .i64 (b : Int)] 3)).grown hg9 (Nat.le_trans hbW2.size (by simp)) (fun j e => (hownW2.lt j e).1)
       replace hown9 : w9.ownsRow w1.heap.size 3 1 v' (pawnL F bl a (b + 1)).length ((pawnL F bl a (b + 1)).map (.int .i64)) := by rw [hnx.out]; simpa using hown9
       clear hownW2 hg9
       go_wp2_with fail
       go_roundg (gk - 1)
       case measure => omega
       case rel => exact ⟨b + 1, by omega, ⟨by omega, by go_num, hown9, hb9⟩⟩
  ·have hii : ¬ (b : Int) < N := by omega
   obtain rfl : b = N := by omega
   go_wp2_with fail
   go_ret
   exact ⟨⟨_, rfl, own_mono hown hB.size⟩, hBr⟩
end Go.Proofs.YtefmplccbkmalaaGreatDoor
