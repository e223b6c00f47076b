import Derived.Test.YtefmplccbkmalaaGreatDoorF19
import Derived.Test.YtefmplccbkmalaaGreatDoorF30
import Derived.Maps.AppendAt
import Derived.Lib.TrailingZeros
set_option maxHeartbeats 12800000
namespace Go.Proofs.YtefmplccbkmalaaGreatDoor
open Go.RowKit

theorem slideW_bit {F R a b oc : Nat} (hF : 3 ≤ F ∧ F ≤ 8) (hR : 3 ≤ R ∧ R ≤ 8) (st : List (Int × Int)) : ∀ n, (slideW F R a oc st n).testBit b = true ↔ ∃ j, j < n ∧ elI (rayL F R a (st[j]?.getD (0, 0)).1 (st[j]?.getD (0, 0)).2 8 1) b = true ∧ freeL (btwL (rayL F R a (st[j]?.getD (0, 0)).1 (st[j]?.getD (0, 0)).2 8 1) b) oc = true := by
 have hFR : F * R ≤ 64 := Nat.mul_le_mul hF.2 hR.2
 intro n
 induction n with
 | zero => simp [slideW]
 | succ n ih =>
  have hL : ∀ x ∈ rayL F R a (st[n]?.getD (0, 0)).1 (st[n]?.getD (0, 0)).2 8 1, 0 ≤ x ∧ x < 64 := by
   intro x hx
   have := rayL_sq x hx
   rw [← Int.natCast_mul] at this
   omega
  simp only [slideW]
  rw [slideR_bit _ _ (fun x hx => (hL x hx).1), ray_free _ hL, ih]
  constructor
  ·rintro (⟨j, hj, h⟩ | h)
   ·exact ⟨j, by omega, h⟩
   ·exact ⟨n, by omega, h⟩
  ·rintro ⟨j, hj, h⟩
   rcases (by omega : j < n ∨ j = n) with h1 | rfl
   ·exact .inl ⟨j, h1, h⟩
   ·exact .inr h
def isStep (x : Int) : Prop := x = -1 ∨ x = 0 ∨ x = 1
theorem slideW_any {F R a b oc : Nat} (hF : 3 ≤ F ∧ F ≤ 8) (hR : 3 ≤ R ∧ R ≤ 8) (ha : a < F * R) (hb : b < F * R) (st : List (Int × Int)) (hst : ∀ s ∈ st, isStep s.1 ∧ isStep s.2 ∧ ¬ (s.1 = 0 ∧ s.2 = 0)) :
  (slideW F R a oc st st.length).testBit b = (lineB a b (dF F a b) (dR F a b) && (st.any (fun s => sgnI (dF F a b) == s.1 && sgnI (dR F a b) == s.2) && freeL (btwS F R a b) oc)) := by
 rw [Bool.eq_iff_iff, slideW_bit hF hR]
 simp only [Bool.and_eq_true, List.any_eq_true, beq_iff_eq]
 constructor
 ·rintro ⟨j, hj, h1, h2⟩
  rw [List.getElem?_eq_getElem hj, Option.getD_some] at h1 h2
  obtain ⟨c1, c2, c3⟩ := hst _ (List.getElem_mem hj)
  rw [ray_line hF hR ha hb c1 c2 c3] at h1
  simp only [Bool.and_eq_true, beq_iff_eq] at h1
  refine ⟨h1.1, ⟨st[j], List.getElem_mem hj, h1.2⟩, ?_⟩
  unfold btwS
  rw [h1.2.1, h1.2.2]
  exact h2
 ·rintro ⟨h1, ⟨s, hs, h2, h3⟩, h4⟩
  obtain ⟨j, hj, rfl⟩ := List.getElem_of_mem hs
  obtain ⟨c1, c2, c3⟩ := hst _ hs
  refine ⟨j, hj, ?_⟩
  rw [List.getElem?_eq_getElem hj, Option.getD_some, ray_line hF hR ha hb c1 c2 c3]
  refine ⟨by rw [h1, h2, h3]; simp, ?_⟩
  unfold btwS at h4
  rw [h2, h3] at h4
  exact h4
theorem dir_fin {a b : Nat} (x y : Int) (hx : -8 < x ∧ x < 8) (hy : -8 < y ∧ y < 8) (h : lineB a b x y = true) (hn : ¬ (x = 0 ∧ y = 0)) : strL.any (fun s => sgnI x == s.1 && sgnI y == s.2) = strB x y ∧ diagL.any (fun s => sgnI x == s.1 && sgnI y == s.2) = !strB x y := by
 have h1 : (decide (x = 0) || (decide (y = 0) || (decide (x = y) || decide (x + y = 0)))) = true := by
  unfold lineB at h
  simp only [Bool.and_eq_true] at h
  exact h.2
 clear h
 exact fin15 (p := fun x y => (decide (x = 0) || (decide (y = 0) || (decide (x = y) || decide (x + y = 0)))) = true → ¬ (x = 0 ∧ y = 0) → (strL.any (fun s => sgnI x == s.1 && sgnI y == s.2) = strB x y ∧ diagL.any (fun s => sgnI x == s.1 && sgnI y == s.2) = !strB x y)) (by decide +kernel) x y hx hy h1 hn
theorem d_zero {F a b : Nat} (h1 : dF F a b = 0) (h2 : dR F a b = 0) : a = b := by
 have e1 := Nat.mod_add_div a F
 have e2 := Nat.mod_add_div b F
 unfold dF at h1
 unfold dR at h2
 have h3 : a % F = b % F := by omega
 have h4 : a / F = b / F := by omega
 rw [← e1, ← e2, h3, h4]
theorem d_self (F a : Nat) : dF F a a = 0 ∧ dR F a a = 0 := by unfold dF dR; omega
theorem reach_self {F R a oc : Nat} {k : Int} : reachB F R k a a oc = false := by
 obtain ⟨h1, h2⟩ := d_self F a
 unfold reachB distI lineB
 rw [h1, h2]
 split
 ·rfl
 ·split
  ·rfl
  ·simp
theorem reach_eq {F R a b oc : Nat} {k : Int} (hF : 3 ≤ F ∧ F ≤ 8) (hR : 3 ≤ R ∧ R ≤ 8) (ha : a < F * R) (hb : b < F * R) (hk : 2 ≤ k ∧ k ≤ 6) : (reachW F R a oc k).testBit b = reachB F R k a b oc := by
 have hx := dF_small (F := F) (a := a) (b := b) hF
 have hy := dR_small hR ha hb
 have hl := leapW_any (a := a) leapsL hF hb
 have hd := leapW_any (a := a) diagL hF hb
 have hs := leapW_any (a := a) strL hF hb
 have hsd := slideW_any (oc := oc) hF hR ha hb diagL (by unfold isStep; decide)
 have hss := slideW_any (oc := oc) hF hR ha hb strL (by unfold isStep; decide)
 rw [show leapsL.length = 8 from rfl] at hl
 rw [show diagL.length = 4 from rfl] at hd hsd
 rw [show strL.length = 4 from rfl] at hs hss
 have hline : lineB a b (dF F a b) (dR F a b) = true → strL.any (fun s => sgnI (dF F a b) == s.1 && sgnI (dR F a b) == s.2) = strB (dF F a b) (dR F a b) ∧ diagL.any (fun s => sgnI (dF F a b) == s.1 && sgnI (dR F a b) == s.2) = !strB (dF F a b) (dR F a b) := by
  intro h
  refine dir_fin _ _ hx hy h ?_
  rintro ⟨h1, h2⟩
  have := d_zero h1 h2
  subst this
  simp [lineB] at h
 unfold reachW reachB
 rcases (by omega : k = 2 ∨ k = 3 ∨ k = 4 ∨ k = 5 ∨ k = 6) with rfl | rfl | rfl | rfl | rfl
 ·simp only [if_true]
  rw [hl]
  exact knight_fin _ _ hx hy
 ·simp only [show ¬ ((3 : Int) = 2) by decide, show ¬ ((3 : Int) = 6) by decide, if_false, if_true]
  rw [hsd]
  rcases h : lineB a b (dF F a b) (dR F a b) with _ | _
  ·rfl
  ·rw [(hline h).2]; cases strB (dF F a b) (dR F a b) <;> simp
 ·simp only [show ¬ ((4 : Int) = 2) by decide, show ¬ ((4 : Int) = 3) by decide, show ¬ ((4 : Int) = 6) by decide, if_false, if_true]
  rw [hss]
  rcases h : lineB a b (dF F a b) (dR F a b) with _ | _
  ·rfl
  ·rw [(hline h).1]; cases strB (dF F a b) (dR F a b) <;> simp
 ·simp only [show ¬ ((5 : Int) = 2) by decide, show ¬ ((5 : Int) = 3) by decide, show ¬ ((5 : Int) = 4) by decide, show ¬ ((5 : Int) = 6) by decide, if_false, if_true]
  rw [Nat.testBit_or, hsd, hss]
  rcases h : lineB a b (dF F a b) (dR F a b) with _ | _
  ·rfl
  ·rw [(hline h).1, (hline h).2]; cases strB (dF F a b) (dR F a b) <;> simp
 ·simp only [show ¬ ((6 : Int) = 2) by decide, show ¬ ((6 : Int) = 3) by decide, show ¬ ((6 : Int) = 4) by decide, show ¬ ((6 : Int) = 5) by decide, if_false, if_true]
  rw [Nat.testBit_or, hd, hs]
  exact king_fin _ _ hx hy
theorem att_eq {F R a b oc : Nat} {xs : List Int} (hF : 3 ≤ F ∧ F ≤ 8) (hR : 3 ≤ R ∧ R ≤ 8) (ha : a < F * R) (hb : b < F * R) (hk : xs[a]?.getD 0 ≠ 0 ∧ -6 ≤ xs[a]?.getD 0 ∧ xs[a]?.getD 0 ≤ 6) : (atW F R oc (xs[a]?.getD 0) a).testBit b = attB F R xs a b oc := by
 unfold atW attB
 generalize xs[a]?.getD 0 = x at *
 have hkk : 1 ≤ kindI x ∧ kindI x ≤ 6 := by unfold kindI; split <;> omega
 split
 ·have hl := leapW_any (a := a) (pwnL (decide (x < 0))) hF hb
  rw [show (pwnL (decide (x < 0))).length = 2 from rfl] at hl
  rw [hl, pawnL_mem _ hb, pawn_fin _ _ _ (dF_small hF) (dR_small hR ha hb)]
  rfl
 ·rw [reach_eq hF hR ha hb (by omega)]
  by_cases h : a = b
  ·subst h; rw [reach_self]; simp
  ·simp [h]
theorem atrW_zero {F R oc : Nat} {xs : List Int} {a : Nat} {bl : Bool} : ∀ n, atrW F R oc xs a bl n = 0 ↔ ∀ k, k < n → (decide (sgnI (xs[k]?.getD 0) = sdI bl) && (atW F R oc (xs[k]?.getD 0) k).testBit a) = false := by
 intro n
 induction n with
 | zero => simp [atrW]
 | succ n ih =>
  simp only [atrW]
  split
  ·rename_i h
   constructor
   ·intro h1
    have h2 : (atrW F R oc xs a bl n ||| 2 ^ n).testBit n = true := by rw [Nat.testBit_or, Nat.testBit_two_pow]; simp
    rw [h1] at h2; simp at h2
   ·intro h1
    have := h1 n (by omega)
    rw [h] at this; cases this
  ·rename_i h
   rw [ih]
   constructor
   ·intro h1 k hk
    rcases (by omega : k < n ∨ k = n) with h2 | rfl
    ·exact h1 k h2
    ·simpa using h
   ·intro h1 k hk
    exact h1 k (by omega)
theorem atkL_nil {F R : Nat} {xs : List Int} {oc at_ : Nat} {own : List Int} : ∀ n, (atkL F R xs oc at_ own n).length = 0 ↔ ∀ k, k < n → attB F R xs (own[k]?.getD 0).toNat at_ oc = false := by
 intro n
 induction n with
 | zero => simp [atkL]
 | succ n ih =>
  simp only [atkL]
  split
  ·rename_i h
   constructor
   ·intro h1; simp at h1
   ·intro h1
    have := h1 n (by omega)
    rw [h] at this; cases this
  ·rename_i h
   rw [ih]
   constructor
   ·intro h1 k hk
    rcases (by omega : k < n ∨ k = n) with h2 | rfl
    ·exact h1 k h2
    ·simpa using h
   ·intro h1 k hk
    exact h1 k (by omega)
theorem chk_eq {F R : Nat} {xs : List Int} {k : Nat} {bl : Bool} (hF : 3 ≤ F ∧ F ≤ 8) (hR : 3 ≤ R ∧ R ≤ 8) (hlen : xs.length = F * R) (h6 : ∀ x ∈ xs, -6 ≤ x ∧ x ≤ 6) (hk : k < F * R) (hkk : kgI xs bl = k) : chkB F R xs k bl = !decide (chkW F R xs bl = 0) := by
 have e1 : (chkW F R xs bl = 0) ↔ (attrL F R xs k (!bl)).length = 0 := by
  unfold chkW attrL
  rw [hkk, Int.toNat_natCast, atrW_zero, atkL_nil]
  have hsg : ∀ j, j < xs.length → decide (sgnI (xs[j]?.getD 0) = sdI (!bl)) = true → (atW F R (setW gNon xs xs.length) (xs[j]?.getD 0) j).testBit k = attB F R xs j k (setW gNon xs xs.length) := by
   intro j hj hs
   refine att_eq hF hR (by omega) hk ⟨?_, ?_⟩
   ·intro h0
    rw [h0] at hs
    simp only [decide_eq_true_eq] at hs
    unfold sgnI sdI at hs
    cases bl <;> simp at hs
   ·have := h6 xs[j] (List.getElem_mem hj)
    rw [List.getElem?_eq_getElem hj, Option.getD_some]; exact this
  constructor
  ·intro h m hm
   have hmem := List.getElem_mem hm
   rw [List.getElem?_eq_getElem hm, Option.getD_some]
   unfold sideL_ at hmem
   rw [idxs_mem] at hmem
   obtain ⟨j, hj, hs, he⟩ := hmem
   have he2 : (sideL_ xs !bl)[m] = (j : Int) := he
   rw [he2, Int.toNat_natCast]
   have hs2 : decide (sgnI (xs[j]?.getD 0) = sdI (!bl)) = true := by simpa using hs
   have := h j hj
   rw [hs2, Bool.true_and, hsg j hj hs2] at this
   exact this
  ·intro h j hj
   rcases hs : decide (sgnI (xs[j]?.getD 0) = sdI (!bl)) with _ | _
   ·rfl
   ·rw [Bool.true_and, hsg j hj hs]
    have hmem : (j : Int) ∈ sideL_ xs (!bl) := by unfold sideL_; rw [idxs_mem]; exact ⟨j, hj, by simpa using hs, rfl⟩
    obtain ⟨m, hm, he⟩ := List.getElem_of_mem hmem
    have := h m hm
    rw [List.getElem?_eq_getElem hm, Option.getD_some, he, Int.toNat_natCast] at this
    exact this
 unfold chkB
 by_cases h : chkW F R xs bl = 0
 ·have h2 := e1.1 h
  rw [h2]; simp [h]
 ·have h2 : ¬ (attrL F R xs k (!bl)).length = 0 := fun h3 => h (e1.2 h3)
  simp [h]; omega
theorem lastK_iff {F R : Nat} {xs : List Int} : ∀ n, lastK F R xs n = true ↔ ∀ k, k < n → ((kindI (xs[k]?.getD 0) == 1) && (((k / F : Nat) : Int) == lastI R (decide (xs[k]?.getD 0 < 0)))) = false := by
 intro n
 induction n with
 | zero => simp [lastK]
 | succ n ih =>
  simp only [lastK, Bool.and_eq_true, Bool.not_eq_true']
  rw [ih]
  constructor
  ·rintro ⟨h1, h2⟩ k hk
   rcases (by omega : k < n ∨ k = n) with h3 | rfl
   ·exact h1 k h3
   ·exact h2
  ·intro h
   exact ⟨fun k hk => h k (by omega), h n (by omega)⟩
theorem last_eq {F R : Nat} {xs : List Int} (hF : 3 ≤ F ∧ F ≤ 8) (hR : 3 ≤ R ∧ R ≤ 8) (hlen : xs.length = F * R) : lastK F R xs xs.length = pawnsB F xs := by
 have hFl : F ≤ xs.length := by rw [hlen]; exact Nat.le_mul_of_pos_right F (by omega)
 have hdiv : ∀ k, k < xs.length → (k / F = R - 1 ↔ xs.length - F ≤ k) := by
  intro k hk
  rw [hlen] at hk
  have h1 : k / F < R := Nat.div_lt_of_lt_mul hk
  have h2 := Nat.le_div_iff_mul_le (x := R - 1) (y := k) (show 0 < F by omega)
  have h3 : (R - 1) * F = xs.length - F := by rw [hlen, Nat.sub_mul, Nat.one_mul, Nat.mul_comm]
  rw [h3] at h2
  omega
 have hdz : ∀ k, (k / F = 0 ↔ k < F) := fun k => by rw [Nat.div_eq_zero_iff]; omega
 rw [Bool.eq_iff_iff, lastK_iff]
 unfold pawnsB
 simp only [Bool.and_eq_true, Bool.not_eq_true', List.any_eq_false, beq_iff_eq]
 constructor
 ·intro h
  constructor
  ·intro x hx hx1
   rw [List.mem_drop_iff_getElem] at hx
   obtain ⟨j, hj, rfl⟩ := hx
   have := h (j + (xs.length - F)) (by omega)
   have hjl : j + (xs.length - F) < xs.length := by omega
   rw [List.getElem?_eq_getElem hjl, Option.getD_some] at this
   have e1 : xs[j + (xs.length - F)] = 1 := by rw [← hx1]; congr 1; omega
   have e2 := (hdiv (j + (xs.length - F)) hjl).2 (by omega)
   rw [e1, e2] at this
   simp [kindI, lastI] at this
   omega
  ·intro x hx hx1
   rw [List.mem_take_iff_getElem] at hx
   obtain ⟨j, hj, rfl⟩ := hx
   have hjl : j < xs.length := by omega
   have := h j hjl
   rw [List.getElem?_eq_getElem hjl, Option.getD_some, hx1, (hdz j).2 (by omega)] at this
   simp [kindI, lastI] at this
 ·rintro ⟨h1, h2⟩ k hk
  rw [List.getElem?_eq_getElem hk, Option.getD_some]
  by_cases c1 : xs[k] = 1
  ·rw [c1]
   have : ¬ xs.length - F ≤ k := by
    intro hkf
    refine h1 xs[k] ?_ c1
    rw [List.mem_drop_iff_getElem]
    exact ⟨k - (xs.length - F), by omega, by congr 1; omega⟩
   rw [← hdiv k hk] at this
   simp [kindI, lastI]; omega
  ·by_cases c2 : xs[k] = -1
   ·rw [c2]
    have : ¬ k < F := by
     intro hkf
     refine h2 xs[k] ?_ c2
     rw [List.mem_take_iff_getElem]
     exact ⟨k, by omega, rfl⟩
    rw [← hdz k] at this
    simp [kindI, lastI]
    exact fun h => this (by omega)
   ·have : (kindI xs[k] == 1) = false := by
     unfold kindI
     split <;> simp <;> omega
    rw [this]; rfl
theorem pv_eq (f r : Int) (xs : List Int) (bl : Bool) (ca pa ha fu : Int) : pvW f r xs bl ca pa ha fu = pvB f r xs bl ca pa ha fu := by
 have hW : pvW f r xs bl ca pa ha fu = ((((((true && boardB f r xs) && kingsB f r xs bl) && pawnsB f.toNat xs) && cstB f r xs ca) && passB f.toNat r.toNat xs bl pa ha) && cntB ha fu) := rfl
 rw [hW]
 rcases ho : orthB f r xs with _ | _
 ·have h1 : kingsB f r xs bl = false := by unfold kingsB; rw [ho]; rfl
  unfold pvB
  rw [h1, ho]; simp
 ·have hor := ho
  obtain ⟨F, R, rfl, rfl, hF, hR, hlen, hok, h6⟩ := orthB_fact ho
  have hbo : boardB F R xs = true := by unfold orthB at ho; simp only [Bool.and_eq_true] at ho; exact ho.1
  unfold pvB kingsB
  rw [ho, hbo]
  simp only [Int.toNat_natCast, Bool.true_and]
  unfold pvN
  rw [last_eq hF hR hlen]
  unfold cntB
  have hchk : ∀ b, (!decide (kgI xs b < 0)) = true → chkB F R xs (kgI xs b).toNat b = !decide (chkW F R xs b = 0) := by
   intro b hb
   rcases kgI_bd xs b with h | ⟨k, h, hk⟩
   ·rw [h] at hb; simp at hb
   ·rw [h, Int.toNat_natCast]
    exact chk_eq hF hR hlen h6 (by omega) h
  cases bl
  ·simp only [Bool.not_false]
   rcases c1 : (!decide (kgI xs true < 0)) with _ | _
   ·simp
   ·rw [hchk true c1]
    simp only [Bool.not_not, Bool.true_and, Bool.and_assoc]
  ·simp only [Bool.not_true]
   rcases c1 : (!decide (kgI xs false < 0)) with _ | _
   ·simp
   ·rw [hchk false c1]
    simp only [Bool.not_not, Bool.true_and, Bool.and_assoc]
def cI (a b : Int) : Int := if a < b then -1 else if b < a then 1 else 0
set_option maxRecDepth 100000 in
theorem compare_any (a b : Int) (w : World) : Calls Tryz.prog 52 #[.int .i64 a, .int .i64 b] w fun e w' => e = .returned (.int .i64 (cI a b)) ∧ w' = w := by
 obtain ⟨r, hr⟩ : ∃ r, r = cI a b := ⟨_, rfl⟩
 rw [← hr]
 replace hr := Lib.hid hr
 have h1 := Tryz.cmp_isNaN_int a w
 have h2 := Tryz.cmp_isNaN_int b w
 go_enter Tryz.func52, Tryz.ntmps52
 go_wp2_with fail
 refine h1.mono ?_
 rintro e w2 ⟨rfl, rfl⟩
 go_wp2_with fail
 refine h2.mono ?_
 rintro e w2 ⟨rfl, rfl⟩
 by_cases hab : a < b
 ·go_wp2_with fail
  go_ret
  exact ⟨by rw [show r = -1 from by rw [hr.out]; unfold cI; split <;> (try split) <;> omega]; rfl, rfl⟩
 ·by_cases hba : b < a
  ·go_wp2_with fail
   go_ret
   exact ⟨by rw [show r = 1 from by rw [hr.out]; unfold cI; split <;> (try split) <;> omega]; rfl, rfl⟩
  ·go_wp2_with fail
   go_ret
   exact ⟨by rw [show r = 0 from by rw [hr.out]; unfold cI; split <;> (try split) <;> omega]; rfl, rfl⟩
section ops
variable {P : Program} {o : Oper} {a : Act} {w : World} {K : Act → World → Prop} {Q : Exit → Act → World → Prop} {t : Nat → Option Bool} {X : Prop}
end ops
def SlOf (base : Nat) (L : List Value) (v : Value) (W : World) : Prop := ∃ g, v = .slice (some ⟨g, 0, none⟩) L.length L.length ∧ base ≤ g ∧ g < W.heap.size ∧ ∀ j, j < L.length → W.cell? ⟨g, j, none⟩ = L[j]?
theorem SlOf.call {base : Nat} {L : List Value} {v : Value} {W W' : World} (h : SlOf base L v W) (hb : Below W.heap.size W W') : SlOf base L v W' := by
 obtain ⟨g, e, h1, h2, h3⟩ := h
 exact ⟨g, e, h1, Nat.lt_of_lt_of_le h2 hb.size, fun j hj => (hb.cell (p := ⟨g, j, none⟩) h2).trans (h3 j hj)⟩
end Go.Proofs.YtefmplccbkmalaaGreatDoor
namespace Go.Proofs.YtefmplccbkmalaaGreatDoor
open Go.RowKit Go.Sort Go.BigFrame

theorem nan106_any (x : Int) (w : World) : Calls Tryz.prog 106 #[.int .i8 x] w fun e w' => e = .returned (.bool false) ∧ w = w' := by
 have h0 : (x != x) = false := by simp
 go_enter Tryz.func106, Tryz.ntmps106
 go_wp2_with fail
 go_ret
 exact ⟨rfl, rfl⟩
theorem nan108_any (x : Int) (w : World) : Calls Tryz.prog 108 #[.int .u8 x] w fun e w' => e = .returned (.bool false) ∧ w = w' := by
 have h0 : (x != x) = false := by simp
 go_enter Tryz.func108, Tryz.ntmps108
 go_wp2_with fail
 go_ret
 exact ⟨rfl, rfl⟩
set_option maxRecDepth 100000 in
theorem cmp51_any (a b : Int) (w : World) : Calls Tryz.prog 51 #[.int .i8 a, .int .i8 b] w fun e w' => e = .returned (.int .i64 (cI a b)) ∧ w = w' := by
 obtain ⟨r, hr⟩ : ∃ r, r = cI a b := ⟨_, rfl⟩
 rw [← hr]
 replace hr := Lib.hid hr
 go_enter Tryz.func51, Tryz.ntmps51
 go_wp2_with fail
 refine (nan106_any a w).mono ?_
 rintro e w2 ⟨rfl, rfl⟩
 go_wp2_with fail
 refine (nan106_any b w).mono ?_
 rintro e w2 ⟨rfl, rfl⟩
 by_cases hab : a < b
 ·go_wp2_with fail
  go_ret
  exact ⟨by rw [show r = -1 from by rw [hr.out]; unfold cI; split <;> (try split) <;> omega]; rfl, rfl⟩
 ·by_cases hba : b < a
  ·go_wp2_with fail
   go_ret
   exact ⟨by rw [show r = 1 from by rw [hr.out]; unfold cI; split <;> (try split) <;> omega]; rfl, rfl⟩
  ·go_wp2_with fail
   go_ret
   exact ⟨by rw [show r = 0 from by rw [hr.out]; unfold cI; split <;> (try split) <;> omega]; rfl, rfl⟩
set_option maxRecDepth 100000 in
theorem cmp53_any (a b : Int) (w : World) : Calls Tryz.prog 53 #[.int .u8 a, .int .u8 b] w fun e w' => e = .returned (.int .i64 (cI a b)) ∧ w = w' := by
 obtain ⟨r, hr⟩ : ∃ r, r = cI a b := ⟨_, rfl⟩
 rw [← hr]
 replace hr := Lib.hid hr
 go_enter Tryz.func53, Tryz.ntmps53
 go_wp2_with fail
 refine (nan108_any a w).mono ?_
 rintro e w2 ⟨rfl, rfl⟩
 go_wp2_with fail
 refine (nan108_any b w).mono ?_
 rintro e w2 ⟨rfl, rfl⟩
 by_cases hab : a < b
 ·go_wp2_with fail
  go_ret
  exact ⟨by rw [show r = -1 from by rw [hr.out]; unfold cI; split <;> (try split) <;> omega]; rfl, rfl⟩
 ·by_cases hba : b < a
  ·go_wp2_with fail
   go_ret
   exact ⟨by rw [show r = 1 from by rw [hr.out]; unfold cI; split <;> (try split) <;> omega]; rfl, rfl⟩
  ·go_wp2_with fail
   go_ret
   exact ⟨by rw [show r = 0 from by rw [hr.out]; unfold cI; split <;> (try split) <;> omega]; rfl, rfl⟩
theorem cmp52_any (a b : Int) (w : World) : Calls Tryz.prog 52 #[.int .i64 a, .int .i64 b] w fun e w' => e = .returned (.int .i64 (cI a b)) ∧ w = w' := (compare_any a b w).mono (fun _ _ h => ⟨h.1, h.2.symm⟩)
def orL : List Int → Int
 | [] => 0
 | x :: l => if x = 0 then orL l else x
set_option maxRecDepth 100000 in
theorem orL_any (g : Nat) (l : List Int) (hl : l.length ≤ 100) (w : World) (hc : ∀ j, j < l.length → w.cell? ⟨g, j, none⟩ = some (.int .i64 (l[j]?.getD 0))) :
  Calls Tryz.prog 49 #[.slice (some ⟨g, 0, none⟩) l.length l.length] w fun e w' => e = .returned (.int .i64 (orL l)) ∧ RowKit.Below w.heap.size w w' := by
 obtain ⟨r, hr⟩ : ∃ r, r = orL l := ⟨_, rfl⟩
 rw [← hr]
 have hnx : ∀ k, k < l.length → orL (l.drop k) = if l[k]?.getD 0 = 0 then orL (l.drop (k + 1)) else l[k]?.getD 0 := fun k hk => by
  rw [List.drop_eq_getElem_cons hk, List.getElem?_eq_getElem hk]; rfl
 have hn0 : orL (l.drop l.length) = 0 := by rw [List.drop_length]; rfl
 have hr0 : orL (l.drop 0) = r := hr.symm
 clear hr
 generalize orL = OR at *
 go_enter Tryz.func49, Tryz.ntmps49
 go_wp2_with fail
 go_loopg [5, 8] 101 (fun q xv iv wr => ∃ k : Nat, q + k = 101 ∧ k ≤ l.length ∧ iv = .int .i64 (k : Nat) ∧ wr = w ∧ Hid (OR (l.drop k) = r))
 case atStart => exact ⟨0, rfl, Nat.zero_le _, rfl, rfl, Lib.hid hr0⟩
 case round =>
  obtain ⟨k, hq, hkl, rfl, rfl, hcv⟩ := hrel
  by_cases hk : k < l.length
  ·have hki : (k : Int) < l.length := by omega
   have hx := hc k hk
   have hn := hnx k hk
   rw [hcv.out] at hn
   generalize l[k]?.getD 0 = x at *
   rcases z : (x != 0) with _ | _
   ·have hcv2 : Hid (OR (l.drop (k + 1)) = r) := Lib.hid (by rw [hn, if_pos (by simpa using z)])
    clear hn hnx hn0 hr0 hc
    go_wp2_with fail
    go_roundg (gk - 1)
    case measure => omega
    case rel => exact ⟨k + 1, by omega, by omega, by go_num, rfl, hcv2⟩
   ·have hrx : Hid (r = x) := Lib.hid (by rw [hn, if_neg (by simpa using z)])
    clear hn hnx hn0 hr0 hc
    go_wp2_with fail
    go_ret
    exact ⟨by rw [hrx.out]; rfl, Below.refl _ _⟩
  ·obtain rfl : k = l.length := by omega
   have hrx : Hid (r = 0) := Lib.hid (by rw [← hcv.out, hn0])
   clear hnx hn0 hr0
   go_wp2_with fail
   go_ret
   exact ⟨by rw [hrx.out]; rfl, Below.refl _ _⟩
set_option maxRecDepth 100000 in
theorem mvCmp_any (a b : Mv) (w : World) : Calls Tryz.prog 50 #[.agg a.cs.toArray, .agg b.cs.toArray] w fun e w' => e = .returned (.int .i64 (orL [cI a.fr b.fr, cI a.tg b.tg, cI a.pr b.pr])) ∧ RowKit.Below w.heap.size w w' := by
 obtain ⟨W1, hW1⟩ : ∃ W1, W1 = (w.alloc (.cells a.cs.toArray 40)).alloc (.cells b.cs.toArray 40) := ⟨_, rfl⟩
 have hB : RowKit.Below w.heap.size w W1 := by subst hW1; exact (below_box w _).alloc (by simp) _
 have hP : HasO W1 w.heap.size (.cells a.cs.toArray 40 (0, 0)) := by subst hW1; exact (HasO.new w _).alloc _
 have hM : HasO W1 (w.heap.size + 1) (.cells b.cs.toArray 40 (0, 0)) := by subst hW1; exact HasO.new' _ _ (by simp)
 have ht1 := fun (W : World) => cmp52_any a.fr b.fr W
 have ht2 := fun (W : World) => cmp52_any a.tg b.tg W
 have ht3 := fun W => cmp51_any a.pr b.pr W
 generalize cI a.fr b.fr = x1 at *
 generalize cI a.tg b.tg = x2 at *
 generalize cI a.pr b.pr = x3 at *
 replace hW1 := Lib.hid hW1
 go_enter Tryz.func50, Tryz.ntmps50
 go_upto_region 1 with fail
 change Code.wp Tryz.prog _ _ _ ((w.alloc (.cells a.cs.toArray 40)).alloc (.cells b.cs.toArray 40))
 rw [← hW1.out]
 have p0 : ∀ d os j, (grow (redrawn W1 d) os).cell? ⟨w.heap.size, j, none⟩ = (#[.int .i64 a.fr, .int .i64 a.tg, .int .i8 a.pr] : Array Value)[j]? := row_gr hP
 have p1 : ∀ d os j, (grow (redrawn W1 d) os).cell? ⟨w.heap.size + 1, j, none⟩ = (#[.int .i64 b.fr, .int .i64 b.tg, .int .i8 b.pr] : Array Value)[j]? := row_gr hM
 have t1 := call_eq (w := W1) ht1
 have t2 := call_eq (w := W1) ht2
 have t3 := call_eq (w := W1) ht3
 refine wp_region_tail 15 (by kernel_rfl) (by kernel_rfl) ?_
 simp only [List.take_succ_cons, List.take_zero, List.drop_succ_cons, List.drop_zero]
 repeat (go_big_quiet_step (first | with_reducible exact t1 _ _ | with_reducible exact t2 _ _ | with_reducible exact t3 _ _ | fail))
 refine wpQuiet_nil ?_
 intro W2 hb2
 have hB2 := below_call hB hB.size hb2
 clear p0 p1 t1 t2 t3
 have ho := orL_any W2.heap.size [x1, x2, x3] (by simp) (W2.alloc (.cells #[.int .i64 x1, .int .i64 x2, .int .i64 x3] 3)) (fun j hj => by
  rcases (by simp at hj; omega : j = 0 ∨ j = 1 ∨ j = 2) with rfl | rfl | rfl <;> exact (HasO.new W2 (.cells #[.int .i64 x1, .int .i64 x2, .int .i64 x3] 3)).cells _)
 have hB3 := hB2.alloc (by have := hb2.size; have := hB.size; omega) (.cells #[.int .i64 x1, .int .i64 x2, .int .i64 x3] 3)
 go_wp2_with fail
 refine ho.mono ?_
 rintro e W4 ⟨rfl, hb4⟩
 go_wp2_with fail
 go_ret
 exact ⟨rfl, below_call hB3 hB3.size hb4⟩
set_option maxRecDepth 100000 in
theorem retCmp_any (a b : Ret) (w : World) : Calls Tryz.prog 18 #[.agg a.cs.toArray, .agg b.cs.toArray] w fun e w' => e = .returned (.int .i64 (orL [orL [cI a.mv.fr b.mv.fr, cI a.mv.tg b.mv.tg, cI a.mv.pr b.mv.pr], cI a.cp b.cp, cI a.at_ b.at_, cI a.ca b.ca, cI a.pa b.pa])) ∧ RowKit.Below w.heap.size w w' := by
 obtain ⟨W1, hW1⟩ : ∃ W1, W1 = (w.alloc (.cells a.cs.toArray 42)).alloc (.cells b.cs.toArray 42) := ⟨_, rfl⟩
 have hB : RowKit.Below w.heap.size w W1 := by subst hW1; exact (below_box w _).alloc (by simp) _
 have hP : HasO W1 w.heap.size (.cells a.cs.toArray 42 (0, 0)) := by subst hW1; exact (HasO.new w _).alloc _
 have hM : HasO W1 (w.heap.size + 1) (.cells b.cs.toArray 42 (0, 0)) := by subst hW1; exact HasO.new' _ _ (by simp)
 have ht0 := fun (W : World) (_ : RowKit.Below W1.heap.size W1 W) => mvCmp_any a.mv b.mv W
 have ht1 := fun W => cmp51_any a.cp b.cp W
 have ht2 := fun (W : World) => cmp52_any a.at_ b.at_ W
 have ht3 := fun W => cmp53_any a.ca b.ca W
 have ht4 := fun (W : World) => cmp52_any a.pa b.pa W
 generalize orL [cI a.mv.fr b.mv.fr, cI a.mv.tg b.mv.tg, cI a.mv.pr b.mv.pr] = x0 at *
 generalize cI a.cp b.cp = x1 at *
 generalize cI a.at_ b.at_ = x2 at *
 generalize cI a.ca b.ca = x3 at *
 generalize cI a.pa b.pa = x4 at *
 replace hW1 := Lib.hid hW1
 go_enter Tryz.func18, Tryz.ntmps18
 go_upto_region 1 with fail
 change Code.wp Tryz.prog _ _ _ ((w.alloc (.cells a.cs.toArray 42)).alloc (.cells b.cs.toArray 42))
 rw [← hW1.out]
 have p0 : ∀ d os j, (grow (redrawn W1 d) os).cell? ⟨w.heap.size, j, none⟩ = (#[.int .i64 a.mv.fr, .int .i64 a.mv.tg, .int .i8 a.mv.pr, .int .i8 a.cp, .int .i64 a.at_, .int .u8 a.ca, .int .i64 a.pa] : Array Value)[j]? := row_gr hP
 have p1 : ∀ d os j, (grow (redrawn W1 d) os).cell? ⟨w.heap.size + 1, j, none⟩ = (#[.int .i64 b.mv.fr, .int .i64 b.mv.tg, .int .i8 b.mv.pr, .int .i8 b.cp, .int .i64 b.at_, .int .u8 b.ca, .int .i64 b.pa] : Array Value)[j]? := row_gr hM
 have t0 := call_gr (w := W1) ht0
 have t1 := call_eq (w := W1) ht1
 have t2 := call_eq (w := W1) ht2
 have t3 := call_eq (w := W1) ht3
 have t4 := call_eq (w := W1) ht4
 refine wp_region_tail 25 (by kernel_rfl) (by kernel_rfl) ?_
 simp only [List.take_succ_cons, List.take_zero, List.drop_succ_cons, List.drop_zero]
 repeat (go_big_quiet_step (first | with_reducible exact t0 _ _ | with_reducible exact t1 _ _ | with_reducible exact t2 _ _ | with_reducible exact t3 _ _ | with_reducible exact t4 _ _ | fail))
 refine wpQuiet_nil ?_
 intro W2 hb2
 have hB2 := below_call hB hB.size hb2
 clear p0 p1 t0 t1 t2 t3 t4
 have ho := orL_any W2.heap.size [x0, x1, x2, x3, x4] (by simp) (W2.alloc (.cells #[.int .i64 x0, .int .i64 x1, .int .i64 x2, .int .i64 x3, .int .i64 x4] 3)) (fun j hj => by
  rcases (by simp at hj; omega : j = 0 ∨ j = 1 ∨ j = 2 ∨ j = 3 ∨ j = 4) with rfl | rfl | rfl | rfl | rfl <;> exact (HasO.new W2 (.cells #[.int .i64 x0, .int .i64 x1, .int .i64 x2, .int .i64 x3, .int .i64 x4] 3)).cells _)
 have hB3 := hB2.alloc (by have := hb2.size; have := hB.size; omega) (.cells #[.int .i64 x0, .int .i64 x1, .int .i64 x2, .int .i64 x3, .int .i64 x4] 3)
 go_wp2_with fail
 refine ho.mono ?_
 rintro e W4 ⟨rfl, hb4⟩
 go_wp2_with fail
 go_ret
 exact ⟨rfl, below_call hB3 hB3.size hb4⟩
def bitsL (S : Nat) : List Nat := (List.range 64).filter S.testBit
theorem filter_first {p p' : Nat → Bool} {k : Nat} (h1 : ∀ i, i < k → p i = false) (h2 : p k = true) (h3 : ∀ i, i ≤ k → p' i = false) (h4 : ∀ i, k < i → p' i = p i) (d : Nat) : (List.range (k + 1 + d)).filter p = k :: (List.range (k + 1 + d)).filter p' := by
 induction d with
 | zero =>
  have e1 : (List.range k).filter p = [] := by
   rw [List.filter_eq_nil_iff]; intro a ha; rw [h1 a (List.mem_range.1 ha)]; decide
  have e2 : (List.range k).filter p' = [] := by
   rw [List.filter_eq_nil_iff]; intro a ha; rw [h3 a (Nat.le_of_lt (List.mem_range.1 ha))]; decide
  rw [Nat.add_zero, List.range_succ, List.filter_append, List.filter_append, e1, e2]
  simp [h2, h3 k (Nat.le_refl _)]
 | succ d ih =>
  rw [← Nat.add_assoc, List.range_succ, List.filter_append, List.filter_append, ih, List.cons_append]
  have e : [k + 1 + d].filter p' = [k + 1 + d].filter p := by
   simp only [List.filter_cons, List.filter_nil, h4 (k + 1 + d) (by omega)]
  rw [e]
theorem bits_step {S : Nat} (h0 : S ≠ 0) (h : S < 18446744073709551616) : ∃ k, Lib.ctz 64 S = k ∧ k < 64 ∧ bitsL S = k :: bitsL (S &&& (S - 1)) ∧ S &&& (S - 1) < 18446744073709551616 := by
 have hp : S < 2 ^ 64 := h
 obtain ⟨m, hm, hk⟩ := Lib.ctzFrom_spec 64 S (by omega) hp
 have hc : Lib.ctz 64 S = Lib.ctzFrom 64 S := by unfold Lib.ctz; rw [if_neg h0]
 rw [hc]
 generalize Lib.ctzFrom 64 S = k at *
 have hS : ∀ i, S.testBit i = (decide (k ≤ i) && (2 * m + 1).testBit (i - k)) := fun i => by rw [hm, Nat.testBit_two_pow_mul]
 have hpos : 0 < 2 ^ k := Nat.two_pow_pos k
 have hS1 : S - 1 = 2 ^ k * (2 * m) + (2 ^ k - 1) := by
  rw [hm, Nat.mul_add, Nat.mul_one]; omega
 have hT : ∀ i, (S - 1).testBit i = if i < k then (2 ^ k - 1).testBit i else (2 * m).testBit (i - k) := fun i => by
  rw [hS1, Nat.testBit_two_pow_mul_add _ (by omega)]
 have ho : ∀ j, 0 < j → (2 * m + 1).testBit j = (2 * m).testBit j := fun j hj => by
  obtain ⟨j, rfl⟩ : ∃ i, j = i + 1 := ⟨j - 1, by omega⟩
  rw [Nat.testBit_succ, Nat.testBit_succ]
  congr 1
  omega
 have hA : ∀ i, (S &&& (S - 1)).testBit i = (decide (k < i) && S.testBit i) := fun i => by
  rw [Nat.testBit_and, hT]
  by_cases h1 : i < k
  ·have : S.testBit i = false := by rw [hS]; simp; omega
   rw [this]; simp
  ·rw [if_neg h1]
   by_cases h2 : i = k
   ·subst h2
    rw [Nat.sub_self]
    have : (2 * m).testBit 0 = false := by simp
    rw [this]; simp
   ·rw [hS, ho (i - k) (by omega)]
    simp [show k ≤ i by omega, show k < i by omega]
 refine ⟨k, rfl, hk, ?_, Nat.lt_of_le_of_lt Nat.and_le_left h⟩
 unfold bitsL
 have h64 : 64 = k + 1 + (63 - k) := by omega
 rw [h64]
 refine filter_first (fun i hi => ?_) ?_ (fun i hi => ?_) (fun i hi => ?_) _
 ·rw [hS]; simp; omega
 ·rw [hS]; simp
 ·rw [hA]; simp; omega
 ·rw [hA]; simp [hi]
theorem bits_zero : bitsL 0 = [] := by decide
theorem bits_mem {S a : Nat} : a ∈ bitsL S ↔ a < 64 ∧ S.testBit a = true := by
 unfold bitsL; simp
end Go.Proofs.YtefmplccbkmalaaGreatDoor
