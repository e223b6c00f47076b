import Derived.Test.YtefmplccbkmalaaGreatDoorF20
set_option maxHeartbeats 12800000
namespace Go.Proofs.YtefmplccbkmalaaGreatDoor
open Go.RowKit Go.Sort Go.BigFrame

theorem goB (pr K X : Int) : ((pr != 0) == (K == X)) = (true && (decide (pr ≠ 0) == decide (K = X))) := by
 have e1 : (K == X) = decide (K = X) := rfl
 have e2 : (pr != 0) = decide (pr ≠ 0) := by by_cases h : pr = 0 <;> simp [h]
 rw [e1, e2]; rfl
theorem stpW_lt (F R a oc : Nat) (bl : Bool) (hF : 3 ≤ F ∧ F ≤ 8) (hR : 3 ≤ R ∧ R ≤ 8) (_ : oc < 2 ^ (F * R)) : stpW F R bl a oc < 18446744073709551616 := by
 have hp := pow_FR hF hR
 have h1 : ∀ st, leapW F R a st 1 &&& (2 ^ 64 - 1 - oc) < 18446744073709551616 := fun st => Nat.lt_of_le_of_lt Nat.and_le_left (Nat.lt_of_lt_of_le (leapW_lt _ _) hp)
 unfold stpW
 simp only []
 repeat' split
 all_goals first
  | exact h1 _
  | exact Nat.or_lt_two_pow (n := 64) (h1 _) (h1 _)
set_option maxRecDepth 100000 in
theorem goes_any (F R a b : Nat) (ca pa ha fu pr : Int) (bl : Bool) (p : Option Addr) (c : Nat) (xs : List Int) (hF : 3 ≤ F ∧ F ≤ 8) (hR : 3 ≤ R ∧ R ≤ 8) (hlen : xs.length = F * R) (hor : orthB F R xs = true) (hal : a < F * R) (hbl : b < F * R) (hx0 : xs[a]?.getD 0 ≠ 0)
  (w : World) (hg : GlobOk w) (hx : Arr .i8 w p xs) :
  Calls Tryz.prog 63 #[.agg (posCs F R p xs.length c bl ca pa ha fu).toArray, .agg #[.int .i64 a, .int .i64 b, .int .i8 pr]] w fun e w' => e = .returned (.bool (goesW ⟨F, R, xs, bl, ca, pa, ha, fu⟩ ⟨a, b, pr⟩)) ∧ Below w.heap.size w w' := by
 have hbo : boardB F R xs = true := by unfold orthB at hor; simp only [Bool.and_eq_true] at hor; exact hor.1
 have h6 := orth6 hor
 have hocl : setW gNon xs xs.length < 2 ^ (F * R) := by
  rw [← hlen]
  apply Nat.lt_pow_two_of_testBit
  intro i hi
  rw [setW_bit]; simp; omega
 have hla : a < xs.length := by omega
 have hlb : b < xs.length := by omega
 have hax : -6 ≤ xs[a]?.getD 0 ∧ xs[a]?.getD 0 ≤ 6 := h6 _ (by rw [List.getElem?_eq_getElem hla]; exact List.getElem_mem hla)
 have hoc := fun W h => occ_any F R ca pa ha fu bl p c xs W h hbo
 have hre := fun k hk W hg => reach_any F R a (setW gNon xs xs.length) k hk hF hR hal hocl W hg
 have hst := fun W => steps_any F R a (setW gNon xs xs.length) bl hF hR hal hocl W
 have hsl := stpW_lt F R a (setW gNon xs xs.length) bl hF hR hocl
 have hpw := fun W => pawn_any F R a bl hF hR hal W
 have hV : goesW ⟨F, R, xs, bl, ca, pa, ha, fu⟩ ⟨a, b, pr⟩ = if kindI (xs[a]?.getD 0) ≠ 1 then decide (pr = 0) && (reachW F R a (setW gNon xs xs.length) (kindI (xs[a]?.getD 0))).testBit b else
   (stpW F R bl a (setW gNon xs xs.length) ||| (if xs[b]?.getD 0 = 0 ∧ (b : Int) ≠ pa then 0 else leapW F R a (pwnL bl) 2)).testBit b && (decide (pr ≠ 0) == decide (((b / F : Nat) : Int) = (if bl then 0 else (R : Int) - 1))) := rfl
 generalize goesW ⟨F, R, xs, bl, ca, pa, ha, fu⟩ ⟨a, b, pr⟩ = V at *
 generalize setW gNon xs xs.length = oc at *
 have hrl := fun k => (reachW_lt k : reachW F R a oc k < _)
 obtain ⟨g, o, rfl, hgl, hcc⟩ := hx.at hla
 have hca := hcc a hla
 have hcb := hcc b hlb
 obtain ⟨x, hxe⟩ : ∃ x, xs[a]?.getD 0 = x := ⟨_, rfl⟩
 obtain ⟨y, hye⟩ : ∃ y, xs[b]?.getD 0 = y := ⟨_, rfl⟩
 rw [hxe] at hca hax hx0 hV
 rw [hye] at hcb hV
 have hkd := fun W => kind64_any x (by omega) W
 have hA := HasO.new w (.cells (posCs F R (some ⟨g, o, none⟩) xs.length c bl ca pa ha fu).toArray 26)
 have hB := below_box w (.cells (posCs F R (some ⟨g, o, none⟩) xs.length c bl ca pa ha fu).toArray 26)
 have hM := HasO.new' (w.alloc (.cells (posCs F R (some ⟨g, o, none⟩) xs.length c bl ca pa ha fu).toArray 26)) (.cells #[.int .i64 a, .int .i64 b, .int .i8 pr] 40) (q := w.heap.size + 1) (by simp)
 have hb0 := below_box (w.alloc (.cells (posCs F R (some ⟨g, o, none⟩) xs.length c bl ca pa ha fu).toArray 26)) (.cells #[.int .i64 a, .int .i64 b, .int .i8 pr] 40)
 have hA1 := hA.call hb0
 have hB1 := below_call hB hB.size hb0
 have hg1 := hg.call hB1
 have hx1 := hx.call hB1
 have hgl1 : g < ((w.alloc (.cells (posCs F R (some ⟨g, o, none⟩) xs.length c bl ca pa ha fu).toArray 26)).alloc (.cells #[.int .i64 a, .int .i64 b, .int .i8 pr] 40)).heap.size := Nat.lt_of_lt_of_le hgl hB1.size
 have hca1 := (bcell hB1).1 g (o + a) hgl
 have hcb1 := (bcell hB1).1 g (o + b) hgl
 rw [hca] at hca1
 rw [hcb] at hcb1
 clear hcc hca hcb hA hB hb0 hx hg hgl
 have hlt1 := hA1.lt
 have hlt2 := hM.lt
 have c1 := hA1.cells
 have c2 := hM.cells
 have hii : (a : Int) < xs.length := by omega
 have hjj : (b : Int) < xs.length := by omega
 replace hlen := Lib.hid hlen
 replace hor := Lib.hid hor
 replace hbo := Lib.hid hbo
 replace hxe := Lib.hid hxe
 replace hye := Lib.hid hye
 go_enter Tryz.func63, Tryz.ntmps63
 go_wp2_with fail
 refine (hkd _).mono ?_
 rintro e w2 ⟨rfl, rfl⟩
 by_cases hk1 : kindI x = 1
 ·have hkk : ((kindI x : Int) != 1) = false := by simp [hk1]
  have hR1 : stpW F R bl a oc < 18446744073709551616 := hsl
  generalize stpW F R bl a oc = S1 at *
  have hR2 : leapW F R a (pwnL bl) 2 < 18446744073709551616 := Nat.lt_of_lt_of_le (leapW_lt _ _) (pow_FR hF hR)
  generalize leapW F R a (pwnL bl) 2 = S2 at *
  rw [if_neg (by simp [hk1])] at hV
  obtain ⟨Lv, hLv⟩ : ∃ Lv : Int, Lv = if bl then (0 : Int) else (R : Int) - 1 := ⟨_, rfl⟩
  rw [← hLv] at hV
  generalize kindI x = k at *
  generalize (w.alloc (.cells (posCs F R (some ⟨g, o, none⟩) xs.length c bl ca pa ha fu).toArray 26)).alloc (.cells #[.int .i64 a, .int .i64 b, .int .i8 pr] 40) = w1 at *
  have hb64 : b < 64 := Nat.lt_of_lt_of_le hbl (Nat.le_trans (Nat.mul_le_mul hF.2 hR.2) (by decide))
  have hbi : (b : Int) < 64 := by omega
  have hwd : Hid (wrap64 ((b : Int) / F) = ((b / F : Nat) : Int)) := Lib.hid (wdiv b F (by omega))
  generalize b / F = K at *
  have hR12 : S1 ||| S2 < 18446744073709551616 := Nat.or_lt_two_pow (n := 64) hR1 hR2
  have c81 := bit_and (x := b) hR1
  have c82 := bit_and (x := b) hR12
  have o0 : bits .or .u64 (S1 : Int) 0 = S1 := by have := u64_or_nat S1 0 hR1 (by decide); rw [Nat.or_zero] at this; exact this
  have o1 := u64_or_nat S1 S2 hR1 hR2
  obtain ⟨S12, hS12⟩ : ∃ n, n = S1 ||| S2 := ⟨_, rfl⟩
  rw [← hS12] at o1 c82 hR12
  have hn12 : Hid (S1 ||| S2 = S12) := Lib.hid hS12.symm
  clear hS12
  replace hR1 := Lib.hid hR1
  clear hR2
  replace o0 := Lib.hid o0
  replace o1 := Lib.hid o1
  replace hV := Lib.hid hV
  replace c81 := Lib.hid c81
  replace c82 := Lib.hid c82
  clear hrl hsl hre
  cases bl
  all_goals
   simp only [Bool.false_eq_true, if_true, if_false] at hLv
   go_wp2_with fail
   have m1 := row_gr hA1
   have m2 := row_gr hM
   have t2 := call_gr (w := w1) (fun W h => hoc W (hx1.call h))
   have t3 := call_gr (w := w1) (fun W _ => hst W)
   refine wp_region_all (by kernel_rfl) (by kernel_rfl) ?_
   repeat (go_big_quiet_step (first | with_reducible exact t2 _ _ | with_reducible exact t3 _ _))
   refine wpQuiet_nil ?_
   intro w3 hb3
   have hB3 := below_call hB1 hB1.size hb3
   have hM3 := hM.call hb3
   have hA3 := hA1.call hb3
   have hcb3 := (bcell hb3).1 g (o + b) hgl1
   rw [hcb1] at hcb3
   clear c1 c2 m1 m2 t2 t3 hlt1 hlt2 hoc hst hM hA1 hcb1 hca1
   have c1 := hA3.cells
   have c2 := hM3.cells
   have hlt1 := hA3.lt
   have hlt2 := hM3.lt
   go_wp2_with fail
   refine (hpw _).mono ?_
   rintro e w4 ⟨rfl, hb4⟩
   have hB4 := below_call hB3 hB3.size hb4
   have hM4 := hM3.call hb4
   have hA4 := hA3.call hb4
   have hcb4 := (bcell hb4).1 g (o + b) (Nat.lt_of_lt_of_le hgl1 hb3.size)
   rw [hcb3] at hcb4
   clear c1 c2 hlt1 hlt2 hpw hM3 hA3 hcb3
   have c1 := hA4.cells
   have c2 := hM4.cells
   have hlt1 := hA4.lt
   have hlt2 := hM4.lt
   have m1 := row_gr hA4
   have m2 := row_gr hM4
   have hwd := hwd.out
   have o0 := o0.out
   have o1 := o1.out
   have hVn : ¬ (y = 0 ∧ (b : Int) ≠ pa) → Hid (V = (S12.testBit b && decide (pr ≠ 0) == decide ((K : Int) = Lv))) := fun h => Lib.hid (by rw [hV.out, if_neg h, hn12.out])
   rcases z1 : (y == 0) with _ | _
   rotate_left
   rcases z2 : ((b : Int) != pa) with _ | _
   rotate_left
   ·have hV : Hid (V = (S1.testBit b && decide (pr ≠ 0) == decide ((K : Int) = Lv))) := Lib.hid (by simp at z1 z2; rw [hV.out]; simp [z1, z2])
    have c8 := c81.out
    have hR1 := hR1.out
    rcases z3 : S1.testBit b with _ | _
    ·rw [z3] at c8
     go_wp2_with fail
     refine wp_region_all (by kernel_rfl) (by kernel_rfl) ?_
     repeat (go_big_quiet_step (fail))
     refine wpQuiet_nil ?_
     intro w5 hb5
     go_wp2_with fail
     go_ret
     exact ⟨ret_bool (by rw [hV.out, z3]; rfl), below_call hB4 hB4.size hb5⟩
    ·rw [z3] at c8
     go_wp2_with fail
     refine wp_region_all (by kernel_rfl) (by kernel_rfl) ?_
     repeat (go_big_quiet_step (fail))
     refine wpQuiet_nil ?_
     intro w5 hb5
     go_wp2_with fail
     go_ret
     exact ⟨ret_bool (by rw [hV.out, z3, hLv]; exact goB _ _ _), below_call hB4 hB4.size hb5⟩
   all_goals
    have hV := hVn (by first | (simp at z1; simp [z1]; done) | (simp at z2; simp [z2]))
    have c8 := c82.out
    rcases z3 : S12.testBit b with _ | _
    ·rw [z3] at c8
     go_wp2_with fail
     refine wp_region_all (by kernel_rfl) (by kernel_rfl) ?_
     repeat (go_big_quiet_step (fail))
     refine wpQuiet_nil ?_
     intro w5 hb5
     go_wp2_with fail
     go_ret
     exact ⟨ret_bool (by rw [hV.out, z3]; rfl), below_call hB4 hB4.size hb5⟩
    ·rw [z3] at c8
     go_wp2_with fail
     refine wp_region_all (by kernel_rfl) (by kernel_rfl) ?_
     repeat (go_big_quiet_step (fail))
     refine wpQuiet_nil ?_
     intro w5 hb5
     go_wp2_with fail
     go_ret
     exact ⟨ret_bool (by rw [hV.out, z3, hLv]; exact goB _ _ _), below_call hB4 hB4.size hb5⟩
 ·have hkk : ((kindI x : Int) != 1) = true := by simp [hk1]
  have hk26 : 2 ≤ kindI x ∧ kindI x ≤ 6 := by unfold kindI at hk1 ⊢; split <;> omega
  generalize kindI x = k at *
  go_wp2_with fail
  generalize (w.alloc (.cells (posCs F R (some ⟨g, o, none⟩) xs.length c bl ca pa ha fu).toArray 26)).alloc (.cells #[.int .i64 a, .int .i64 b, .int .i8 pr] 40) = w1 at *
  have m1 := row_gr hA1
  have m2 := row_gr hM
  have t1 := call_eq (w := w1) hkd
  have t2 := call_gr (w := w1) (fun W h => hoc W (hx1.call h))
  have t3 := call_gr (w := w1) (fun W h => hre k hk26 W (hg1.call h))
  refine wp_region_all (by kernel_rfl) (by kernel_rfl) ?_
  repeat (go_big_quiet_step (first | with_reducible exact t1 _ _ | with_reducible exact t2 _ _ | with_reducible exact t3 _ _))
  refine wpQuiet_nil ?_
  intro w3 hb3
  have hB3 := below_call hB1 hB1.size hb3
  have hM3 := hM.call hb3
  have hR3 := hrl k
  generalize reachW F R a oc k = S at *
  rw [if_pos hk1] at hV
  replace hV := Lib.hid hV
  have c8 := bit_and (x := b) (Nat.lt_of_lt_of_le hR3 (pow_FR hF hR))
  have hb64 : b < 64 := Nat.lt_of_lt_of_le hbl (Nat.le_trans (Nat.mul_le_mul hF.2 hR.2) (by decide))
  have hbi : (b : Int) < 64 := by omega
  clear c1 c2 m1 m2 t1 t2 t3 hlt1 hlt2 hrl hre hst hpw hoc hkd hM hA1 hb3 hB1
  have c2 := hM3.cells
  have hlt2 := hM3.lt
  rcases z1 : (pr == 0) with _ | _
  ·go_wp2_with fail
   go_ret
   exact ⟨ret_bool (by simp at z1; rw [hV.out]; simp [z1]), hB3⟩
  ·rcases z2 : S.testBit b with _ | _
   all_goals
    rw [z2] at c8
    go_wp2_with fail
    go_ret
    exact ⟨ret_bool (by simp at z1; rw [hV.out]; simp [z1, z2]), hB3⟩
end Go.Proofs.YtefmplccbkmalaaGreatDoor
