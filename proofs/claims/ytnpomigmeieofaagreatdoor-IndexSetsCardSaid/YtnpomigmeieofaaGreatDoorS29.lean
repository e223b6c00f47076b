import Derived.Test.YtnpomigmeieofaaGreatDoorS28
set_option maxHeartbeats 12800000
namespace Go.Proofs.YtnpomigmeieofaaGreatDoor
open Go.RowKit

theorem slideW_bit {F R a b oc : Nat} (hF : 3 ≤ F ∧ F ≤ 8) (hR : 3 ≤ R ∧ R ≤ 8) (st : List (Int × Int)) : ∀ n, (slideW F R a oc st n).testBit b = true ↔ ∃ j, j < n ∧ elI (rayL F R a (st[j]?.getD (0, 0)).1 (st[j]?.getD (0, 0)).2 8 1) b = true ∧ freeL (btwL (rayL F R a (st[j]?.getD (0, 0)).1 (st[j]?.getD (0, 0)).2 8 1) b) oc = true := by
 have hFR : F * R ≤ 64 := Nat.mul_le_mul hF.2 hR.2
 intro n
 induction n with
 | zero => simp [slideW]
 | succ n ih =>
  have hL : ∀ x ∈ rayL F R a (st[n]?.getD (0, 0)).1 (st[n]?.getD (0, 0)).2 8 1, 0 ≤ x ∧ x < 64 := by
   intro x hx
   have := rayL_sq x hx
   rw [← Int.natCast_mul] at this
   omega
  simp only [slideW]
  rw [slideR_bit _ _ (fun x hx => (hL x hx).1), ray_free _ hL, ih]
  constructor
  ·rintro (⟨j, hj, h⟩ | h)
   ·exact ⟨j, by omega, h⟩
   ·exact ⟨n, by omega, h⟩
  ·rintro ⟨j, hj, h⟩
   rcases (by omega : j < n ∨ j = n) with h1 | rfl
   ·exact .inl ⟨j, h1, h⟩
   ·exact .inr h
def isStep (x : Int) : Prop := x = -1 ∨ x = 0 ∨ x = 1
theorem slideW_any {F R a b oc : Nat} (hF : 3 ≤ F ∧ F ≤ 8) (hR : 3 ≤ R ∧ R ≤ 8) (ha : a < F * R) (hb : b < F * R) (st : List (Int × Int)) (hst : ∀ s ∈ st, isStep s.1 ∧ isStep s.2 ∧ ¬ (s.1 = 0 ∧ s.2 = 0)) :
  (slideW F R a oc st st.length).testBit b = (lineB a b (dF F a b) (dR F a b) && (st.any (fun s => sgnI (dF F a b) == s.1 && sgnI (dR F a b) == s.2) && freeL (btwS F R a b) oc)) := by
 rw [Bool.eq_iff_iff, slideW_bit hF hR]
 simp only [Bool.and_eq_true, List.any_eq_true, beq_iff_eq]
 constructor
 ·rintro ⟨j, hj, h1, h2⟩
  rw [List.getElem?_eq_getElem hj, Option.getD_some] at h1 h2
  obtain ⟨c1, c2, c3⟩ := hst _ (List.getElem_mem hj)
  rw [ray_line hF hR ha hb c1 c2 c3] at h1
  simp only [Bool.and_eq_true, beq_iff_eq] at h1
  refine ⟨h1.1, ⟨st[j], List.getElem_mem hj, h1.2⟩, ?_⟩
  unfold btwS
  rw [h1.2.1, h1.2.2]
  exact h2
 ·rintro ⟨h1, ⟨s, hs, h2, h3⟩, h4⟩
  obtain ⟨j, hj, rfl⟩ := List.getElem_of_mem hs
  obtain ⟨c1, c2, c3⟩ := hst _ hs
  refine ⟨j, hj, ?_⟩
  rw [List.getElem?_eq_getElem hj, Option.getD_some, ray_line hF hR ha hb c1 c2 c3]
  refine ⟨by rw [h1, h2, h3]; simp, ?_⟩
  unfold btwS at h4
  rw [h2, h3] at h4
  exact h4
theorem dir_fin {a b : Nat} (x y : Int) (hx : -8 < x ∧ x < 8) (hy : -8 < y ∧ y < 8) (h : lineB a b x y = true) (hn : ¬ (x = 0 ∧ y = 0)) : strL.any (fun s => sgnI x == s.1 && sgnI y == s.2) = strB x y ∧ diagL.any (fun s => sgnI x == s.1 && sgnI y == s.2) = !strB x y := by
 have h1 : (decide (x = 0) || (decide (y = 0) || (decide (x = y) || decide (x + y = 0)))) = true := by
  unfold lineB at h
  simp only [Bool.and_eq_true] at h
  exact h.2
 clear h
 exact fin15 (p := fun x y => (decide (x = 0) || (decide (y = 0) || (decide (x = y) || decide (x + y = 0)))) = true → ¬ (x = 0 ∧ y = 0) → (strL.any (fun s => sgnI x == s.1 && sgnI y == s.2) = strB x y ∧ diagL.any (fun s => sgnI x == s.1 && sgnI y == s.2) = !strB x y)) (by decide +kernel) x y hx hy h1 hn
theorem d_zero {F a b : Nat} (h1 : dF F a b = 0) (h2 : dR F a b = 0) : a = b := by
 have e1 := Nat.mod_add_div a F
 have e2 := Nat.mod_add_div b F
 unfold dF at h1
 unfold dR at h2
 have h3 : a % F = b % F := by omega
 have h4 : a / F = b / F := by omega
 rw [← e1, ← e2, h3, h4]
theorem d_self (F a : Nat) : dF F a a = 0 ∧ dR F a a = 0 := by unfold dF dR; omega
theorem reach_self {F R a oc : Nat} {k : Int} : reachB F R k a a oc = false := by
 obtain ⟨h1, h2⟩ := d_self F a
 unfold reachB distI lineB
 rw [h1, h2]
 split
 ·rfl
 ·split
  ·rfl
  ·simp
theorem reach_eq {F R a b oc : Nat} {k : Int} (hF : 3 ≤ F ∧ F ≤ 8) (hR : 3 ≤ R ∧ R ≤ 8) (ha : a < F * R) (hb : b < F * R) (hk : 2 ≤ k ∧ k ≤ 6) : (reachW F R a oc k).testBit b = reachB F R k a b oc := by
 have hx := dF_small (F := F) (a := a) (b := b) hF
 have hy := dR_small hR ha hb
 have hl := leapW_any (a := a) leapsL hF hb
 have hd := leapW_any (a := a) diagL hF hb
 have hs := leapW_any (a := a) strL hF hb
 have hsd := slideW_any (oc := oc) hF hR ha hb diagL (by unfold isStep; decide)
 have hss := slideW_any (oc := oc) hF hR ha hb strL (by unfold isStep; decide)
 rw [show leapsL.length = 8 from rfl] at hl
 rw [show diagL.length = 4 from rfl] at hd hsd
 rw [show strL.length = 4 from rfl] at hs hss
 have hline : lineB a b (dF F a b) (dR F a b) = true → strL.any (fun s => sgnI (dF F a b) == s.1 && sgnI (dR F a b) == s.2) = strB (dF F a b) (dR F a b) ∧ diagL.any (fun s => sgnI (dF F a b) == s.1 && sgnI (dR F a b) == s.2) = !strB (dF F a b) (dR F a b) := by
  intro h
  refine dir_fin _ _ hx hy h ?_
  rintro ⟨h1, h2⟩
  have := d_zero h1 h2
  subst this
  simp [lineB] at h
 unfold reachW reachB
 rcases (by omega : k = 2 ∨ k = 3 ∨ k = 4 ∨ k = 5 ∨ k = 6) with rfl | rfl | rfl | rfl | rfl
 ·simp only [if_true]
  rw [hl]
  exact knight_fin _ _ hx hy
 ·simp only [show ¬ ((3 : Int) = 2) by decide, show ¬ ((3 : Int) = 6) by decide, if_false, if_true]
  rw [hsd]
  rcases h : lineB a b (dF F a b) (dR F a b) with _ | _
  ·rfl
  ·rw [(hline h).2]; cases strB (dF F a b) (dR F a b) <;> simp
 ·simp only [show ¬ ((4 : Int) = 2) by decide, show ¬ ((4 : Int) = 3) by decide, show ¬ ((4 : Int) = 6) by decide, if_false, if_true]
  rw [hss]
  rcases h : lineB a b (dF F a b) (dR F a b) with _ | _
  ·rfl
  ·rw [(hline h).1]; cases strB (dF F a b) (dR F a b) <;> simp
 ·simp only [show ¬ ((5 : Int) = 2) by decide, show ¬ ((5 : Int) = 3) by decide, show ¬ ((5 : Int) = 4) by decide, show ¬ ((5 : Int) = 6) by decide, if_false, if_true]
  rw [Nat.testBit_or, hsd, hss]
  rcases h : lineB a b (dF F a b) (dR F a b) with _ | _
  ·rfl
  ·rw [(hline h).1, (hline h).2]; cases strB (dF F a b) (dR F a b) <;> simp
 ·simp only [show ¬ ((6 : Int) = 2) by decide, show ¬ ((6 : Int) = 3) by decide, show ¬ ((6 : Int) = 4) by decide, show ¬ ((6 : Int) = 5) by decide, if_false, if_true]
  rw [Nat.testBit_or, hd, hs]
  exact king_fin _ _ hx hy
theorem att_eq {F R a b oc : Nat} {xs : List Int} (hF : 3 ≤ F ∧ F ≤ 8) (hR : 3 ≤ R ∧ R ≤ 8) (ha : a < F * R) (hb : b < F * R) (hk : xs[a]?.getD 0 ≠ 0 ∧ -6 ≤ xs[a]?.getD 0 ∧ xs[a]?.getD 0 ≤ 6) : (atW F R oc (xs[a]?.getD 0) a).testBit b = attB F R xs a b oc := by
 unfold atW attB
 generalize xs[a]?.getD 0 = x at *
 have hkk : 1 ≤ kindI x ∧ kindI x ≤ 6 := by unfold kindI; split <;> omega
 split
 ·have hl := leapW_any (a := a) (pwnL (decide (x < 0))) hF hb
  rw [show (pwnL (decide (x < 0))).length = 2 from rfl] at hl
  rw [hl, pawnL_mem _ hb, pawn_fin _ _ _ (dF_small hF) (dR_small hR ha hb)]
  rfl
 ·rw [reach_eq hF hR ha hb (by omega)]
  by_cases h : a = b
  ·subst h; rw [reach_self]; simp
  ·simp [h]
theorem atrW_zero {F R oc : Nat} {xs : List Int} {a : Nat} {bl : Bool} : ∀ n, atrW F R oc xs a bl n = 0 ↔ ∀ k, k < n → (decide (sgnI (xs[k]?.getD 0) = sdI bl) && (atW F R oc (xs[k]?.getD 0) k).testBit a) = false := by
 intro n
 induction n with
 | zero => simp [atrW]
 | succ n ih =>
  simp only [atrW]
  split
  ·rename_i h
   constructor
   ·intro h1
    have h2 : (atrW F R oc xs a bl n ||| 2 ^ n).testBit n = true := by rw [Nat.testBit_or, Nat.testBit_two_pow]; simp
    rw [h1] at h2; simp at h2
   ·intro h1
    have := h1 n (by omega)
    rw [h] at this; cases this
  ·rename_i h
   rw [ih]
   constructor
   ·intro h1 k hk
    rcases (by omega : k < n ∨ k = n) with h2 | rfl
    ·exact h1 k h2
    ·simpa using h
   ·intro h1 k hk
    exact h1 k (by omega)
theorem atkL_nil {F R : Nat} {xs : List Int} {oc at_ : Nat} {own : List Int} : ∀ n, (atkL F R xs oc at_ own n).length = 0 ↔ ∀ k, k < n → attB F R xs (own[k]?.getD 0).toNat at_ oc = false := by
 intro n
 induction n with
 | zero => simp [atkL]
 | succ n ih =>
  simp only [atkL]
  split
  ·rename_i h
   constructor
   ·intro h1; simp at h1
   ·intro h1
    have := h1 n (by omega)
    rw [h] at this; cases this
  ·rename_i h
   rw [ih]
   constructor
   ·intro h1 k hk
    rcases (by omega : k < n ∨ k = n) with h2 | rfl
    ·exact h1 k h2
    ·simpa using h
   ·intro h1 k hk
    exact h1 k (by omega)
theorem chk_eq {F R : Nat} {xs : List Int} {k : Nat} {bl : Bool} (hF : 3 ≤ F ∧ F ≤ 8) (hR : 3 ≤ R ∧ R ≤ 8) (hlen : xs.length = F * R) (h6 : ∀ x ∈ xs, -6 ≤ x ∧ x ≤ 6) (hk : k < F * R) (hkk : kgI xs bl = k) : chkB F R xs k bl = !decide (chkW F R xs bl = 0) := by
 have e1 : (chkW F R xs bl = 0) ↔ (attrL F R xs k (!bl)).length = 0 := by
  unfold chkW attrL
  rw [hkk, Int.toNat_natCast, atrW_zero, atkL_nil]
  have hsg : ∀ j, j < xs.length → decide (sgnI (xs[j]?.getD 0) = sdI (!bl)) = true → (atW F R (setW gNon xs xs.length) (xs[j]?.getD 0) j).testBit k = attB F R xs j k (setW gNon xs xs.length) := by
   intro j hj hs
   refine att_eq hF hR (by omega) hk ⟨?_, ?_⟩
   ·intro h0
    rw [h0] at hs
    simp only [decide_eq_true_eq] at hs
    unfold sgnI sdI at hs
    cases bl <;> simp at hs
   ·have := h6 xs[j] (List.getElem_mem hj)
    rw [List.getElem?_eq_getElem hj, Option.getD_some]; exact this
  constructor
  ·intro h m hm
   have hmem := List.getElem_mem hm
   rw [List.getElem?_eq_getElem hm, Option.getD_some]
   unfold sideL_ at hmem
   rw [idxs_mem] at hmem
   obtain ⟨j, hj, hs, he⟩ := hmem
   have he2 : (sideL_ xs !bl)[m] = (j : Int) := he
   rw [he2, Int.toNat_natCast]
   have hs2 : decide (sgnI (xs[j]?.getD 0) = sdI (!bl)) = true := by simpa using hs
   have := h j hj
   rw [hs2, Bool.true_and, hsg j hj hs2] at this
   exact this
  ·intro h j hj
   rcases hs : decide (sgnI (xs[j]?.getD 0) = sdI (!bl)) with _ | _
   ·rfl
   ·rw [Bool.true_and, hsg j hj hs]
    have hmem : (j : Int) ∈ sideL_ xs (!bl) := by unfold sideL_; rw [idxs_mem]; exact ⟨j, hj, by simpa using hs, rfl⟩
    obtain ⟨m, hm, he⟩ := List.getElem_of_mem hmem
    have := h m hm
    rw [List.getElem?_eq_getElem hm, Option.getD_some, he, Int.toNat_natCast] at this
    exact this
 unfold chkB
 by_cases h : chkW F R xs bl = 0
 ·have h2 := e1.1 h
  rw [h2]; simp [h]
 ·have h2 : ¬ (attrL F R xs k (!bl)).length = 0 := fun h3 => h (e1.2 h3)
  simp [h]; omega
theorem lastK_iff {F R : Nat} {xs : List Int} : ∀ n, lastK F R xs n = true ↔ ∀ k, k < n → ((kindI (xs[k]?.getD 0) == 1) && (((k / F : Nat) : Int) == lastI R (decide (xs[k]?.getD 0 < 0)))) = false := by
 intro n
 induction n with
 | zero => simp [lastK]
 | succ n ih =>
  simp only [lastK, Bool.and_eq_true, Bool.not_eq_true']
  rw [ih]
  constructor
  ·rintro ⟨h1, h2⟩ k hk
   rcases (by omega : k < n ∨ k = n) with h3 | rfl
   ·exact h1 k h3
   ·exact h2
  ·intro h
   exact ⟨fun k hk => h k (by omega), h n (by omega)⟩
theorem last_eq {F R : Nat} {xs : List Int} (hF : 3 ≤ F ∧ F ≤ 8) (hR : 3 ≤ R ∧ R ≤ 8) (hlen : xs.length = F * R) : lastK F R xs xs.length = pawnsB F xs := by
 have hFl : F ≤ xs.length := by rw [hlen]; exact Nat.le_mul_of_pos_right F (by omega)
 have hdiv : ∀ k, k < xs.length → (k / F = R - 1 ↔ xs.length - F ≤ k) := by
  intro k hk
  rw [hlen] at hk
  have h1 : k / F < R := Nat.div_lt_of_lt_mul hk
  have h2 := Nat.le_div_iff_mul_le (x := R - 1) (y := k) (show 0 < F by omega)
  have h3 : (R - 1) * F = xs.length - F := by rw [hlen, Nat.sub_mul, Nat.one_mul, Nat.mul_comm]
  rw [h3] at h2
  omega
 have hdz : ∀ k, (k / F = 0 ↔ k < F) := fun k => by rw [Nat.div_eq_zero_iff]; omega
 rw [Bool.eq_iff_iff, lastK_iff]
 unfold pawnsB
 simp only [Bool.and_eq_true, Bool.not_eq_true', List.any_eq_false, beq_iff_eq]
 constructor
 ·intro h
  constructor
  ·intro x hx hx1
   rw [List.mem_drop_iff_getElem] at hx
   obtain ⟨j, hj, rfl⟩ := hx
   have := h (j + (xs.length - F)) (by omega)
   have hjl : j + (xs.length - F) < xs.length := by omega
   rw [List.getElem?_eq_getElem hjl, Option.getD_some] at this
   have e1 : xs[j + (xs.length - F)] = 1 := by rw [← hx1]; congr 1; omega
   have e2 := (hdiv (j + (xs.length - F)) hjl).2 (by omega)
   rw [e1, e2] at this
   simp [kindI, lastI] at this
   omega
  ·intro x hx hx1
   rw [List.mem_take_iff_getElem] at hx
   obtain ⟨j, hj, rfl⟩ := hx
   have hjl : j < xs.length := by omega
   have := h j hjl
   rw [List.getElem?_eq_getElem hjl, Option.getD_some, hx1, (hdz j).2 (by omega)] at this
   simp [kindI, lastI] at this
 ·rintro ⟨h1, h2⟩ k hk
  rw [List.getElem?_eq_getElem hk, Option.getD_some]
  by_cases c1 : xs[k] = 1
  ·rw [c1]
   have : ¬ xs.length - F ≤ k := by
    intro hkf
    refine h1 xs[k] ?_ c1
    rw [List.mem_drop_iff_getElem]
    exact ⟨k - (xs.length - F), by omega, by congr 1; omega⟩
   rw [← hdiv k hk] at this
   simp [kindI, lastI]; omega
  ·by_cases c2 : xs[k] = -1
   ·rw [c2]
    have : ¬ k < F := by
     intro hkf
     refine h2 xs[k] ?_ c2
     rw [List.mem_take_iff_getElem]
     exact ⟨k, by omega, rfl⟩
    rw [← hdz k] at this
    simp [kindI, lastI]
    exact fun h => this (by omega)
   ·have : (kindI xs[k] == 1) = false := by
     unfold kindI
     split <;> simp <;> omega
    rw [this]; rfl
theorem pv_eq (f r : Int) (xs : List Int) (bl : Bool) (ca pa ha fu : Int) : pvW f r xs bl ca pa ha fu = pvB f r xs bl ca pa ha fu := by
 have hW : pvW f r xs bl ca pa ha fu = ((((((true && boardB f r xs) && kingsB f r xs bl) && pawnsB f.toNat xs) && cstB f r xs ca) && passB f.toNat r.toNat xs bl pa ha) && cntB ha fu) := rfl
 rw [hW]
 rcases ho : orthB f r xs with _ | _
 ·have h1 : kingsB f r xs bl = false := by unfold kingsB; rw [ho]; rfl
  unfold pvB
  rw [h1, ho]; simp
 ·have hor := ho
  obtain ⟨F, R, rfl, rfl, hF, hR, hlen, hok, h6⟩ := orthB_fact ho
  have hbo : boardB F R xs = true := by unfold orthB at ho; simp only [Bool.and_eq_true] at ho; exact ho.1
  unfold pvB kingsB
  rw [ho, hbo]
  simp only [Int.toNat_natCast, Bool.true_and]
  unfold pvN
  rw [last_eq hF hR hlen]
  unfold cntB
  have hchk : ∀ b, (!decide (kgI xs b < 0)) = true → chkB F R xs (kgI xs b).toNat b = !decide (chkW F R xs b = 0) := by
   intro b hb
   rcases kgI_bd xs b with h | ⟨k, h, hk⟩
   ·rw [h] at hb; simp at hb
   ·rw [h, Int.toNat_natCast]
    exact chk_eq hF hR hlen h6 (by omega) h
  cases bl
  ·simp only [Bool.not_false]
   rcases c1 : (!decide (kgI xs true < 0)) with _ | _
   ·simp
   ·rw [hchk true c1]
    simp only [Bool.not_not, Bool.true_and, Bool.and_assoc]
  ·simp only [Bool.not_true]
   rcases c1 : (!decide (kgI xs false < 0)) with _ | _
   ·simp
   ·rw [hchk false c1]
    simp only [Bool.not_not, Bool.true_and, Bool.and_assoc]
def ct (xs : List Int) (x : Int) : Nat → Nat
 | 0 => 0
 | k + 1 => ct xs x k + if xs[k]?.getD 0 = x then 1 else 0
theorem ct_le (xs : List Int) (x : Int) (k : Nat) : ct xs x k ≤ k := by
 induction k with
 | zero => exact Nat.le_refl _
 | succ k ih => simp only [ct]; split <;> omega
def ofM (f r : Int) (xs : List Int) (k : Nat) : Men := ⟨f, r, ct xs 1 k, ct xs 2 k, ct xs 3 k, ct xs 4 k, ct xs 5 k, ct xs (-1) k, ct xs (-2) k, ct xs (-3) k, ct xs (-4) k, ct xs (-5) k⟩
theorem ofM_p1 {f r : Int} {xs : List Int} {k : Nat} (h : xs[k]?.getD 0 = 1) : ofM f r xs (k + 1) = ⟨f, r, (ct xs 1 k : Int) + 1, ct xs 2 k, ct xs 3 k, ct xs 4 k, ct xs 5 k, ct xs (-1) k, ct xs (-2) k, ct xs (-3) k, ct xs (-4) k, ct xs (-5) k⟩ := by simp [ofM, ct, h]
theorem ofM_p2 {f r : Int} {xs : List Int} {k : Nat} (h : xs[k]?.getD 0 = 2) : ofM f r xs (k + 1) = ⟨f, r, ct xs 1 k, (ct xs 2 k : Int) + 1, ct xs 3 k, ct xs 4 k, ct xs 5 k, ct xs (-1) k, ct xs (-2) k, ct xs (-3) k, ct xs (-4) k, ct xs (-5) k⟩ := by simp [ofM, ct, h]
theorem ofM_p3 {f r : Int} {xs : List Int} {k : Nat} (h : xs[k]?.getD 0 = 3) : ofM f r xs (k + 1) = ⟨f, r, ct xs 1 k, ct xs 2 k, (ct xs 3 k : Int) + 1, ct xs 4 k, ct xs 5 k, ct xs (-1) k, ct xs (-2) k, ct xs (-3) k, ct xs (-4) k, ct xs (-5) k⟩ := by simp [ofM, ct, h]
theorem ofM_p4 {f r : Int} {xs : List Int} {k : Nat} (h : xs[k]?.getD 0 = 4) : ofM f r xs (k + 1) = ⟨f, r, ct xs 1 k, ct xs 2 k, ct xs 3 k, (ct xs 4 k : Int) + 1, ct xs 5 k, ct xs (-1) k, ct xs (-2) k, ct xs (-3) k, ct xs (-4) k, ct xs (-5) k⟩ := by simp [ofM, ct, h]
theorem ofM_p5 {f r : Int} {xs : List Int} {k : Nat} (h : xs[k]?.getD 0 = 5) : ofM f r xs (k + 1) = ⟨f, r, ct xs 1 k, ct xs 2 k, ct xs 3 k, ct xs 4 k, (ct xs 5 k : Int) + 1, ct xs (-1) k, ct xs (-2) k, ct xs (-3) k, ct xs (-4) k, ct xs (-5) k⟩ := by simp [ofM, ct, h]
theorem ofM_m1 {f r : Int} {xs : List Int} {k : Nat} (h : xs[k]?.getD 0 = (-1)) : ofM f r xs (k + 1) = ⟨f, r, ct xs 1 k, ct xs 2 k, ct xs 3 k, ct xs 4 k, ct xs 5 k, (ct xs (-1) k : Int) + 1, ct xs (-2) k, ct xs (-3) k, ct xs (-4) k, ct xs (-5) k⟩ := by simp [ofM, ct, h]
theorem ofM_m2 {f r : Int} {xs : List Int} {k : Nat} (h : xs[k]?.getD 0 = (-2)) : ofM f r xs (k + 1) = ⟨f, r, ct xs 1 k, ct xs 2 k, ct xs 3 k, ct xs 4 k, ct xs 5 k, ct xs (-1) k, (ct xs (-2) k : Int) + 1, ct xs (-3) k, ct xs (-4) k, ct xs (-5) k⟩ := by simp [ofM, ct, h]
theorem ofM_m3 {f r : Int} {xs : List Int} {k : Nat} (h : xs[k]?.getD 0 = (-3)) : ofM f r xs (k + 1) = ⟨f, r, ct xs 1 k, ct xs 2 k, ct xs 3 k, ct xs 4 k, ct xs 5 k, ct xs (-1) k, ct xs (-2) k, (ct xs (-3) k : Int) + 1, ct xs (-4) k, ct xs (-5) k⟩ := by simp [ofM, ct, h]
theorem ofM_m4 {f r : Int} {xs : List Int} {k : Nat} (h : xs[k]?.getD 0 = (-4)) : ofM f r xs (k + 1) = ⟨f, r, ct xs 1 k, ct xs 2 k, ct xs 3 k, ct xs 4 k, ct xs 5 k, ct xs (-1) k, ct xs (-2) k, ct xs (-3) k, (ct xs (-4) k : Int) + 1, ct xs (-5) k⟩ := by simp [ofM, ct, h]
theorem ofM_m5 {f r : Int} {xs : List Int} {k : Nat} (h : xs[k]?.getD 0 = (-5)) : ofM f r xs (k + 1) = ⟨f, r, ct xs 1 k, ct xs 2 k, ct xs 3 k, ct xs 4 k, ct xs 5 k, ct xs (-1) k, ct xs (-2) k, ct xs (-3) k, ct xs (-4) k, (ct xs (-5) k : Int) + 1⟩ := by simp [ofM, ct, h]
theorem ofM_no {f r : Int} {xs : List Int} {k : Nat} {x : Int} (h : xs[k]?.getD 0 = x) (h2 : x = 0 ∨ 6 ≤ x ∨ x ≤ -6) : ofM f r xs (k + 1) = ofM f r xs k := by
 have e : ∀ y, (-5 ≤ y ∧ y ≤ 5 ∧ y ≠ 0) → ct xs y (k + 1) = ct xs y k := by
  intro y hy
  simp only [ct]
  rw [h, if_neg (by omega)]
  rfl
 simp only [ofM]
 rw [e 1 (by decide), e 2 (by decide), e 3 (by decide), e 4 (by decide), e 5 (by decide), e (-1) (by decide), e (-2) (by decide), e (-3) (by decide), e (-4) (by decide), e (-5) (by decide)]
set_option maxRecDepth 100000 in
theorem idxOf_any (f r ca pa ha fu : Int) (bl : Bool) (p : Option Addr) (c : Nat) (xs : List Int) (hl : xs.length ≤ 1000) (h8 : ∀ x ∈ xs, -128 ≤ x ∧ x ≤ 127) (w : World) (hx0 : Arr .i8 w p xs) :
  Calls Tryz.prog 45 #[.agg (posCs f r p xs.length c bl ca pa ha fu).toArray] w fun e w' => e = .returned (.agg (ofM f r xs xs.length).cs.toArray) ∧ Below w.heap.size w w' := by
 have hA := HasO.new w (.cells (posCs f r p xs.length c bl ca pa ha fu).toArray 40)
 have hZ2 := HasO.new' ((w.alloc (.cells (posCs f r p xs.length c bl ca pa ha fu).toArray 40)).alloc (.cells zeroMen.cs.toArray 26)) (.cells zeroMen.cs.toArray 26) (q := w.heap.size + 2) (by simp)
 have hA5 := (hA.alloc (.cells zeroMen.cs.toArray 26)).alloc (.cells (Men.mk f r 0 0 0 0 0 0 0 0 0 0).cs.toArray 26)
 have hR5 := (HasO.new' (w.alloc (.cells (posCs f r p xs.length c bl ca pa ha fu).toArray 40)) (.cells zeroMen.cs.toArray 26) (q := w.heap.size + 1) (by simp)).alloc (.cells (Men.mk f r 0 0 0 0 0 0 0 0 0 0).cs.toArray 26)
 have hM5 : HasO (((w.alloc (.cells (posCs f r p xs.length c bl ca pa ha fu).toArray 40)).alloc (.cells zeroMen.cs.toArray 26)).alloc (.cells (Men.mk f r 0 0 0 0 0 0 0 0 0 0).cs.toArray 26)) (w.heap.size + 2) (.cells (ofM f r xs 0).cs.toArray 26 (0, 0)) := HasO.new' ((w.alloc (.cells (posCs f r p xs.length c bl ca pa ha fu).toArray 40)).alloc (.cells zeroMen.cs.toArray 26)) (.cells (Men.mk f r 0 0 0 0 0 0 0 0 0 0).cs.toArray 26) (q := w.heap.size + 2) (by simp)
 have hB5 : Below w.heap.size w (((w.alloc (.cells (posCs f r p xs.length c bl ca pa ha fu).toArray 40)).alloc (.cells zeroMen.cs.toArray 26)).alloc (.cells (Men.mk f r 0 0 0 0 0 0 0 0 0 0).cs.toArray 26)) := ((below_box w (.cells (posCs f r p xs.length c bl ca pa ha fu).toArray 40)).alloc (by simp) _).alloc (by simp; omega) _
 have hx5 := hx0.call hB5
 have h0 := hA.cells 0
 have h1 := hA.cells 1
 have hl0 := hA.lt
 have h2 := hA5.cells 2
 have hl5 := hA5.lt
 clear hA
 have hbd : ∀ k, k ≤ xs.length → ∀ x, ct xs x k ≤ 1000 := fun k hk x => Nat.le_trans (ct_le xs x k) (by omega)
 go_enter Tryz.func45, Tryz.ntmps45
 go_wp2_with fail
 show Code.wp _ _ _ _ (((w.alloc (.cells (posCs f r p xs.length c bl ca pa ha fu).toArray 40)).alloc (.cells zeroMen.cs.toArray 26)).alloc (.cells (Men.mk f r 0 0 0 0 0 0 0 0 0 0).cs.toArray 26))
 generalize (((w.alloc (.cells (posCs f r p xs.length c bl ca pa ha fu).toArray 40)).alloc (.cells zeroMen.cs.toArray 26)).alloc (.cells (Men.mk f r 0 0 0 0 0 0 0 0 0 0).cs.toArray 26)) = w5 at *
 clear h0 h1 h2 hl0 hl5 hZ2
 go_loopg [12] 1001 (fun q iv wr => ∃ i : Nat, q + i = 1001 ∧ i ≤ xs.length ∧ iv = .int .i64 i ∧ HasO wr w.heap.size (.cells (posCs f r p xs.length c bl ca pa ha fu).toArray 40 (0, 0)) ∧ HasO wr (w.heap.size + 1) (.cells zeroMen.cs.toArray 26 (0, 0)) ∧ HasO wr (w.heap.size + 2) (.cells (ofM f r xs i).cs.toArray 26 (0, 0)) ∧ Below w.heap.size w wr ∧ Arr .i8 wr p xs)
 case atStart => exact ⟨0, rfl, Nat.zero_le _, rfl, hA5, hR5, hM5, hB5, hx5⟩
 case round =>
  obtain ⟨i, hq, hi, rfl, hAr, hRr, hMr, hBr, hxr⟩ := hrel
  clear hA5 hR5 hM5 hB5 hx5
  have h2 := hAr.cells 2
  have hlA := hAr.lt
  have hlM := hMr.lt
  have hlR := hRr.lt
  have hfM := hMr.frozen
  by_cases hlt : i < xs.length
  ·have hii : (i : Int) < xs.length := by omega
   have hxr0 := hxr
   obtain ⟨g, o, rfl, hgl, hcc⟩ := hxr.at hlt
   have hci := hcc i hlt
   obtain ⟨x, hx⟩ : ∃ x, xs[i]?.getD 0 = x := ⟨_, rfl⟩
   have hx8 : -128 ≤ x ∧ x ≤ 127 := h8 x (by rw [← hx, List.getElem?_eq_getElem hlt]; exact List.getElem_mem hlt)
   rw [hx] at hci
   clear hcc
   have hbi := hbd i (by omega)
   have hMi : ofM f r xs i = ⟨f, r, ct xs 1 i, ct xs 2 i, ct xs 3 i, ct xs 4 i, ct xs 5 i, ct xs (-1) i, ct xs (-2) i, ct xs (-3) i, ct xs (-4) i, ct xs (-5) i⟩ := rfl
   rcases (by omega : x = 1 ∨ x = 2 ∨ x = 3 ∨ x = 4 ∨ x = 5 ∨ x = -1 ∨ x = -2 ∨ x = -3 ∨ x = -4 ∨ x = -5 ∨ (x = 0 ∨ 6 ≤ x ∨ x ≤ -6)) with rfl | rfl | rfl | rfl | rfl | rfl | rfl | rfl | rfl | rfl | hno
   ·have hnx := ofM_p1 (f := f) (r := r) hx
    have hb0 := hbi 1
    clear hMi hbi
    obtain ⟨n, hn⟩ : ∃ n, n = ct xs 1 i := ⟨_, rfl⟩
    have hcell : wr.cell? ⟨w.heap.size + 2, 2, none⟩ = some (.int .i64 (n : Int)) := by rw [hn]; exact hMr.cells 2
    rw [← hn] at hb0
    have hnew := hMr.set_ 2 (.int .i64 ((n : Int) + 1))
    have halt : Alt (w.heap.size + 2) (w.heap.size + 3) wr (wr.setCell ⟨w.heap.size + 2, 2, none⟩ (.int .i64 ((n : Int) + 1))) := Alt.setCell (by simp)
    have hMn : HasO (wr.setCell ⟨w.heap.size + 2, 2, none⟩ (.int .i64 ((n : Int) + 1))) (w.heap.size + 2) (.cells (ofM f r xs (i + 1)).cs.toArray 26 (0, 0)) := by
     rw [hnx, ← hn]; rw [hn]; rw [hn] at hnew; exact hnew
    have hAn := halt.hasO hAr (by omega)
    have hRn := halt.hasO hRr (by omega)
    have hBn := halt.below hBr (by omega) hBr.size
    clear hnew hnx hn
    go_wp2_with fail
    go_roundg (gk - 1)
    case measure => omega
    case rel => exact ⟨i + 1, by omega, by omega, by go_num, hAn, hRn, hMn, hBn, hx0.call hBn⟩
   ·have hnx := ofM_p2 (f := f) (r := r) hx
    have hb0 := hbi 2
    clear hMi hbi
    obtain ⟨n, hn⟩ : ∃ n, n = ct xs 2 i := ⟨_, rfl⟩
    have hcell : wr.cell? ⟨w.heap.size + 2, 3, none⟩ = some (.int .i64 (n : Int)) := by rw [hn]; exact hMr.cells 3
    rw [← hn] at hb0
    have hnew := hMr.set_ 3 (.int .i64 ((n : Int) + 1))
    have halt : Alt (w.heap.size + 2) (w.heap.size + 3) wr (wr.setCell ⟨w.heap.size + 2, 3, none⟩ (.int .i64 ((n : Int) + 1))) := Alt.setCell (by simp)
    have hMn : HasO (wr.setCell ⟨w.heap.size + 2, 3, none⟩ (.int .i64 ((n : Int) + 1))) (w.heap.size + 2) (.cells (ofM f r xs (i + 1)).cs.toArray 26 (0, 0)) := by
     rw [hnx, ← hn]; rw [hn]; rw [hn] at hnew; exact hnew
    have hAn := halt.hasO hAr (by omega)
    have hRn := halt.hasO hRr (by omega)
    have hBn := halt.below hBr (by omega) hBr.size
    clear hnew hnx hn
    go_wp2_with fail
    go_roundg (gk - 1)
    case measure => omega
    case rel => exact ⟨i + 1, by omega, by omega, by go_num, hAn, hRn, hMn, hBn, hx0.call hBn⟩
   ·have hnx := ofM_p3 (f := f) (r := r) hx
    have hb0 := hbi 3
    clear hMi hbi
    obtain ⟨n, hn⟩ : ∃ n, n = ct xs 3 i := ⟨_, rfl⟩
    have hcell : wr.cell? ⟨w.heap.size + 2, 4, none⟩ = some (.int .i64 (n : Int)) := by rw [hn]; exact hMr.cells 4
    rw [← hn] at hb0
    have hnew := hMr.set_ 4 (.int .i64 ((n : Int) + 1))
    have halt : Alt (w.heap.size + 2) (w.heap.size + 3) wr (wr.setCell ⟨w.heap.size + 2, 4, none⟩ (.int .i64 ((n : Int) + 1))) := Alt.setCell (by simp)
    have hMn : HasO (wr.setCell ⟨w.heap.size + 2, 4, none⟩ (.int .i64 ((n : Int) + 1))) (w.heap.size + 2) (.cells (ofM f r xs (i + 1)).cs.toArray 26 (0, 0)) := by
     rw [hnx, ← hn]; rw [hn]; rw [hn] at hnew; exact hnew
    have hAn := halt.hasO hAr (by omega)
    have hRn := halt.hasO hRr (by omega)
    have hBn := halt.below hBr (by omega) hBr.size
    clear hnew hnx hn
    go_wp2_with fail
    go_roundg (gk - 1)
    case measure => omega
    case rel => exact ⟨i + 1, by omega, by omega, by go_num, hAn, hRn, hMn, hBn, hx0.call hBn⟩
   ·have hnx := ofM_p4 (f := f) (r := r) hx
    have hb0 := hbi 4
    clear hMi hbi
    obtain ⟨n, hn⟩ : ∃ n, n = ct xs 4 i := ⟨_, rfl⟩
    have hcell : wr.cell? ⟨w.heap.size + 2, 5, none⟩ = some (.int .i64 (n : Int)) := by rw [hn]; exact hMr.cells 5
    rw [← hn] at hb0
    have hnew := hMr.set_ 5 (.int .i64 ((n : Int) + 1))
    have halt : Alt (w.heap.size + 2) (w.heap.size + 3) wr (wr.setCell ⟨w.heap.size + 2, 5, none⟩ (.int .i64 ((n : Int) + 1))) := Alt.setCell (by simp)
    have hMn : HasO (wr.setCell ⟨w.heap.size + 2, 5, none⟩ (.int .i64 ((n : Int) + 1))) (w.heap.size + 2) (.cells (ofM f r xs (i + 1)).cs.toArray 26 (0, 0)) := by
     rw [hnx, ← hn]; rw [hn]; rw [hn] at hnew; exact hnew
    have hAn := halt.hasO hAr (by omega)
    have hRn := halt.hasO hRr (by omega)
    have hBn := halt.below hBr (by omega) hBr.size
    clear hnew hnx hn
    go_wp2_with fail
    go_roundg (gk - 1)
    case measure => omega
    case rel => exact ⟨i + 1, by omega, by omega, by go_num, hAn, hRn, hMn, hBn, hx0.call hBn⟩
   ·have hnx := ofM_p5 (f := f) (r := r) hx
    have hb0 := hbi 5
    clear hMi hbi
    obtain ⟨n, hn⟩ : ∃ n, n = ct xs 5 i := ⟨_, rfl⟩
    have hcell : wr.cell? ⟨w.heap.size + 2, 6, none⟩ = some (.int .i64 (n : Int)) := by rw [hn]; exact hMr.cells 6
    rw [← hn] at hb0
    have hnew := hMr.set_ 6 (.int .i64 ((n : Int) + 1))
    have halt : Alt (w.heap.size + 2) (w.heap.size + 3) wr (wr.setCell ⟨w.heap.size + 2, 6, none⟩ (.int .i64 ((n : Int) + 1))) := Alt.setCell (by simp)
    have hMn : HasO (wr.setCell ⟨w.heap.size + 2, 6, none⟩ (.int .i64 ((n : Int) + 1))) (w.heap.size + 2) (.cells (ofM f r xs (i + 1)).cs.toArray 26 (0, 0)) := by
     rw [hnx, ← hn]; rw [hn]; rw [hn] at hnew; exact hnew
    have hAn := halt.hasO hAr (by omega)
    have hRn := halt.hasO hRr (by omega)
    have hBn := halt.below hBr (by omega) hBr.size
    clear hnew hnx hn
    go_wp2_with fail
    go_roundg (gk - 1)
    case measure => omega
    case rel => exact ⟨i + 1, by omega, by omega, by go_num, hAn, hRn, hMn, hBn, hx0.call hBn⟩
   ·have hnx := ofM_m1 (f := f) (r := r) hx
    have hb0 := hbi (-1)
    clear hMi hbi
    obtain ⟨n, hn⟩ : ∃ n, n = ct xs (-1) i := ⟨_, rfl⟩
    have hcell : wr.cell? ⟨w.heap.size + 2, 7, none⟩ = some (.int .i64 (n : Int)) := by rw [hn]; exact hMr.cells 7
    rw [← hn] at hb0
    have hnew := hMr.set_ 7 (.int .i64 ((n : Int) + 1))
    have halt : Alt (w.heap.size + 2) (w.heap.size + 3) wr (wr.setCell ⟨w.heap.size + 2, 7, none⟩ (.int .i64 ((n : Int) + 1))) := Alt.setCell (by simp)
    have hMn : HasO (wr.setCell ⟨w.heap.size + 2, 7, none⟩ (.int .i64 ((n : Int) + 1))) (w.heap.size + 2) (.cells (ofM f r xs (i + 1)).cs.toArray 26 (0, 0)) := by
     rw [hnx, ← hn]; rw [hn]; rw [hn] at hnew; exact hnew
    have hAn := halt.hasO hAr (by omega)
    have hRn := halt.hasO hRr (by omega)
    have hBn := halt.below hBr (by omega) hBr.size
    clear hnew hnx hn
    go_wp2_with fail
    go_roundg (gk - 1)
    case measure => omega
    case rel => exact ⟨i + 1, by omega, by omega, by go_num, hAn, hRn, hMn, hBn, hx0.call hBn⟩
   ·have hnx := ofM_m2 (f := f) (r := r) hx
    have hb0 := hbi (-2)
    clear hMi hbi
    obtain ⟨n, hn⟩ : ∃ n, n = ct xs (-2) i := ⟨_, rfl⟩
    have hcell : wr.cell? ⟨w.heap.size + 2, 8, none⟩ = some (.int .i64 (n : Int)) := by rw [hn]; exact hMr.cells 8
    rw [← hn] at hb0
    have hnew := hMr.set_ 8 (.int .i64 ((n : Int) + 1))
    have halt : Alt (w.heap.size + 2) (w.heap.size + 3) wr (wr.setCell ⟨w.heap.size + 2, 8, none⟩ (.int .i64 ((n : Int) + 1))) := Alt.setCell (by simp)
    have hMn : HasO (wr.setCell ⟨w.heap.size + 2, 8, none⟩ (.int .i64 ((n : Int) + 1))) (w.heap.size + 2) (.cells (ofM f r xs (i + 1)).cs.toArray 26 (0, 0)) := by
     rw [hnx, ← hn]; rw [hn]; rw [hn] at hnew; exact hnew
    have hAn := halt.hasO hAr (by omega)
    have hRn := halt.hasO hRr (by omega)
    have hBn := halt.below hBr (by omega) hBr.size
    clear hnew hnx hn
    go_wp2_with fail
    go_roundg (gk - 1)
    case measure => omega
    case rel => exact ⟨i + 1, by omega, by omega, by go_num, hAn, hRn, hMn, hBn, hx0.call hBn⟩
   ·have hnx := ofM_m3 (f := f) (r := r) hx
    have hb0 := hbi (-3)
    clear hMi hbi
    obtain ⟨n, hn⟩ : ∃ n, n = ct xs (-3) i := ⟨_, rfl⟩
    have hcell : wr.cell? ⟨w.heap.size + 2, 9, none⟩ = some (.int .i64 (n : Int)) := by rw [hn]; exact hMr.cells 9
    rw [← hn] at hb0
    have hnew := hMr.set_ 9 (.int .i64 ((n : Int) + 1))
    have halt : Alt (w.heap.size + 2) (w.heap.size + 3) wr (wr.setCell ⟨w.heap.size + 2, 9, none⟩ (.int .i64 ((n : Int) + 1))) := Alt.setCell (by simp)
    have hMn : HasO (wr.setCell ⟨w.heap.size + 2, 9, none⟩ (.int .i64 ((n : Int) + 1))) (w.heap.size + 2) (.cells (ofM f r xs (i + 1)).cs.toArray 26 (0, 0)) := by
     rw [hnx, ← hn]; rw [hn]; rw [hn] at hnew; exact hnew
    have hAn := halt.hasO hAr (by omega)
    have hRn := halt.hasO hRr (by omega)
    have hBn := halt.below hBr (by omega) hBr.size
    clear hnew hnx hn
    go_wp2_with fail
    go_roundg (gk - 1)
    case measure => omega
    case rel => exact ⟨i + 1, by omega, by omega, by go_num, hAn, hRn, hMn, hBn, hx0.call hBn⟩
   ·have hnx := ofM_m4 (f := f) (r := r) hx
    have hb0 := hbi (-4)
    clear hMi hbi
    obtain ⟨n, hn⟩ : ∃ n, n = ct xs (-4) i := ⟨_, rfl⟩
    have hcell : wr.cell? ⟨w.heap.size + 2, 10, none⟩ = some (.int .i64 (n : Int)) := by rw [hn]; exact hMr.cells 10
    rw [← hn] at hb0
    have hnew := hMr.set_ 10 (.int .i64 ((n : Int) + 1))
    have halt : Alt (w.heap.size + 2) (w.heap.size + 3) wr (wr.setCell ⟨w.heap.size + 2, 10, none⟩ (.int .i64 ((n : Int) + 1))) := Alt.setCell (by simp)
    have hMn : HasO (wr.setCell ⟨w.heap.size + 2, 10, none⟩ (.int .i64 ((n : Int) + 1))) (w.heap.size + 2) (.cells (ofM f r xs (i + 1)).cs.toArray 26 (0, 0)) := by
     rw [hnx, ← hn]; rw [hn]; rw [hn] at hnew; exact hnew
    have hAn := halt.hasO hAr (by omega)
    have hRn := halt.hasO hRr (by omega)
    have hBn := halt.below hBr (by omega) hBr.size
    clear hnew hnx hn
    go_wp2_with fail
    go_roundg (gk - 1)
    case measure => omega
    case rel => exact ⟨i + 1, by omega, by omega, by go_num, hAn, hRn, hMn, hBn, hx0.call hBn⟩
   ·have hnx := ofM_m5 (f := f) (r := r) hx
    have hb0 := hbi (-5)
    clear hMi hbi
    obtain ⟨n, hn⟩ : ∃ n, n = ct xs (-5) i := ⟨_, rfl⟩
    have hcell : wr.cell? ⟨w.heap.size + 2, 11, none⟩ = some (.int .i64 (n : Int)) := by rw [hn]; exact hMr.cells 11
    rw [← hn] at hb0
    have hnew := hMr.set_ 11 (.int .i64 ((n : Int) + 1))
    have halt : Alt (w.heap.size + 2) (w.heap.size + 3) wr (wr.setCell ⟨w.heap.size + 2, 11, none⟩ (.int .i64 ((n : Int) + 1))) := Alt.setCell (by simp)
    have hMn : HasO (wr.setCell ⟨w.heap.size + 2, 11, none⟩ (.int .i64 ((n : Int) + 1))) (w.heap.size + 2) (.cells (ofM f r xs (i + 1)).cs.toArray 26 (0, 0)) := by
     rw [hnx, ← hn]; rw [hn]; rw [hn] at hnew; exact hnew
    have hAn := halt.hasO hAr (by omega)
    have hRn := halt.hasO hRr (by omega)
    have hBn := halt.below hBr (by omega) hBr.size
    clear hnew hnx hn
    go_wp2_with fail
    go_roundg (gk - 1)
    case measure => omega
    case rel => exact ⟨i + 1, by omega, by omega, by go_num, hAn, hRn, hMn, hBn, hx0.call hBn⟩
   ·have hnx := ofM_no (f := f) (r := r) hx hno
    rw [← hnx] at hMr
    clear hMi hbi hnx
    rcases hno with hno | hno | hno
    all_goals
     go_wp2_with fail
     go_roundg (gk - 1)
     case measure => omega
     case rel => exact ⟨i + 1, by omega, by omega, by go_num, hAr, hRr, hMr, hBr, hx0.call hBr⟩
  ·have hii : ¬ (i : Int) < xs.length := by omega
   obtain rfl : i = xs.length := by omega
   have hbi := hbd xs.length (Nat.le_refl _)
   obtain ⟨m, hm⟩ : ∃ m, m = ofM f r xs xs.length := ⟨_, rfl⟩
   rw [← hm] at hMr
   have hM := hMr.cells
   replace hm := Lib.hid hm
   go_wp2_with (first | (refine wpList_storeAgg rfl 26 (.tmp 2) (.tmp 48) rfl (w.heap.size + 1) _ rfl rfl 26 _ hRr (by kernel_rfl) rfl (men_one m) ?_; rintro w' rfl) | fail)
   refine bodyPost_ret (results_cell (fn := Tryz.f45) Tryz.results45 rfl (setRow_hasO hRr) (by kernel_rfl)) rfl ?_
   exact ⟨by rw [hm.out], setRow_below hBr (by omega) hBr.size⟩
end Go.Proofs.YtnpomigmeieofaaGreatDoor
