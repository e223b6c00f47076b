import Derived.Test.YtefmplccbkmalaaGreatDoorF31
import Derived.Test.YtefmplccbkmalaaGreatDoorF40
import Derived.Test.YtefmplccbkmalaaGreatDoorF41
set_option maxHeartbeats 12800000
namespace Go.Proofs.YtefmplccbkmalaaGreatDoor
open Go.RowKit

theorem how_last {P : Pos} {a b : Nat} {way : Option Cas} (h : HowM P a b 0 way) (hk : gx P.xs a = pcI 1 P.bl) : ((b / P.F : Nat) : Int) ≠ lastI P.R P.bl := by
 have hk1 : kindI (pcI 1 P.bl) = 1 := by cases P.bl <;> decide
 cases h with
 | cas c h h1 _ _ =>
  rw [← h1, h.king] at hk
  exact absurd hk.symm (pc16 _)
 | go h _ =>
  cases h with
  | piece h => rw [hk] at h; exact absurd hk1 h
  | step _ _ _ _ hl => exact fun h => hl.2 h rfl
  | two _ _ _ _ _ _ _ _ hl => exact fun h => hl.2 h rfl
  | diag _ _ _ _ hl => exact fun h => hl.2 h rfl
theorem pawns_after {P : Pos} {a b : Nat} {pr : Int} {way : Option Cas} {t : Int} {Y : List Int} (ho : orthB P.F P.R P.xs = true) (hF : 3 ≤ P.F ∧ P.F ≤ 8) (hR : 3 ≤ P.R ∧ P.R ≤ 8) (hlen : P.xs.length = P.F * P.R) (hl : Y.length = P.xs.length) (hw : isW (gx P.xs a) P.bl = true) (hp : pr = 0 ∨ (2 ≤ pr ∧ pr ≤ 5)) (h : HowM P a b pr way) (hpw : pawnsB P.F P.xs = true) (hYa : gx Y a = 0) (hYb : gx Y b = newX P a pr) (hY : ∀ j, j ≠ a → j ≠ b → Chg P way t Y j) : pawnsB P.F Y = true := by
 have hold := (pawn_last hF hR hlen).1 hpw
 refine (pawn_last hF hR (by rw [hl, hlen])).2 fun k hk => ?_
 by_cases ka : k = a
 ·subst ka; rw [hYa] at hk; cases hk
 by_cases kb : k = b
 ·subst kb
  rw [hYb] at hk ⊢
  obtain ⟨e1, e2⟩ := (newX_fact ho hw hp h).2.2.2 hk
  subst e1
  have e3 : newX P a 0 = pcI 1 P.bl := e2
  rw [e3, show decide (pcI 1 P.bl < 0) = P.bl by cases P.bl <;> decide]
  exact how_last h e2
 rcases hY k ka kb with h9 | ⟨h9, _, _⟩ | ⟨d, _, _, ⟨_, h9, _⟩ | ⟨_, h9, _⟩⟩
 ·rw [h9] at hk ⊢
  exact hold k hk
 ·rw [h9] at hk; cases hk
 ·rw [h9] at hk; cases hk
 ·rw [h9] at hk; exact absurd hk (by cases P.bl <;> decide)
theorem pass_after {P : Pos} {a b : Nat} {pr : Int} {way : Option Cas} {t : Int} {Y : List Int} (hF : 3 ≤ P.F ∧ P.F ≤ 8) (hsz : sizeB P.F P.R = true) (h : HowM P a b pr way) (hYa : gx Y a = 0) (hYb : gx Y b = newX P a pr) (hY : ∀ j, j ≠ a → j ≠ b → Chg P way t Y j) : passB P.F P.R Y (!P.bl) (aftW P ⟨a, b, pr⟩ way).pa (aftW P ⟨a, b, pr⟩ way).ha = true := by
 by_cases hc : kindI (gx P.xs a) = 1 ∧ ((b : Int) - a = 2 * P.F ∨ (b : Int) - a = -(2 * P.F))
 ·have hpa : (aftW P ⟨a, b, pr⟩ way).pa = a + ((b : Int) - a) / 2 := if_pos hc
  have hha : (aftW P ⟨a, b, pr⟩ way).ha = 0 := if_pos (.inl hc.1)
  rw [hpa, hha]
  obtain ⟨e1, e2, e3, e4, e5, e6, ⟨c, c1, c2, c3, c4⟩, e7⟩ := two_of hF h hc.1 hc.2
  subst e2
  have h1 := ab_eq P.F a b
  have h2 := ab_eq P.F a c
  rw [e3, e4] at h1
  rw [c2, c3] at h2
  have hs : sdI P.bl = 1 ∨ sdI P.bl = -1 := by cases P.bl <;> decide
  have hmid : (a : Int) + ((b : Int) - a) / 2 = c := by
   rcases hs with hs | hs <;> rw [hs] at h1 h2 <;> omega
  rw [hmid]
  have hca : c ≠ a := by rintro rfl; rcases hs with hs | hs <;> rw [hs] at h2 <;> omega
  have hcb : c ≠ b := by rintro rfl; rcases hs with hs | hs <;> rw [hs] at h1 h2 <;> omega
  have hYc : gx Y c = 0 := by
   rcases hY c hca hcb with h9 | ⟨h9, _, _⟩ | ⟨d, h9, _⟩
   ·rw [h9, c4]
   ·exact h9
   ·cases h9
  have d1 := df_eq e3
  have d2 := df_eq c2
  unfold dR at e4 c3
  have hra : sqN P.F (c % P.F) (rankI P.R P.bl 2) = a := sq_at d2 (by
   unfold rankI
   revert e6
   cases P.bl <;> simp <;> omega)
  have hbr : ((b / P.F : Nat) : Int) = rankI P.R P.bl 4 := by
   unfold rankI
   unfold sdI at e4
   revert e4 e6
   cases P.bl <;> simp <;> omega
  have hrb : sqN P.F (c % P.F) (rankI P.R P.bl 4) = b := sq_at (d1.symm.trans d2) hbr
  have hp0 : pr = 0 := by
   rcases Decidable.em (pr = 0) with h | h
   ·exact h
   ·have := e7.1 h
    rw [hbr] at this
    unfold rankI lastI at this
    revert this
    cases P.bl <;> simp <;> omega
  subst hp0
  have hYb : gx Y b = pcI 1 P.bl := hYb.trans e1
  unfold passB psB
  unfold gx at hYa hYb hYc
  rw [Bool.not_not, Int.toNat_natCast, hra, hrb, hYa, hYb, hYc]
  have hcl : sqB P.F P.R c = true := by
   unfold sqB
   rw [hsz, ← Int.natCast_mul]
   simp
   omega
  have hrk : (2 * ((c / P.F : Nat) : Int) == rankI P.R P.bl 2 + rankI P.R P.bl 4) = true := by
   rw [beq_iff_eq]
   unfold rankI
   unfold sdI at c3
   revert c3 e6
   cases P.bl <;> simp <;> omega
  rw [hcl, hrk]
  have : ((P.R : Int) < 6) = False := by rw [eq_iff_iff, iff_false]; omega
  simp [this]
 ·have hpa : (aftW P ⟨a, b, pr⟩ way).pa = -1 := if_neg hc
  rw [hpa]; rfl
theorem ok_after {P : Pos} {a b : Nat} {pr : Int} {q : Pos} {u : Und} (h0 : 0 ≤ P.ca) (h : mkW P ⟨a, b, pr⟩ = .ok (q, u)) : q.ok = true := by
 obtain ⟨hC, rfl, _⟩ := mk_iff.1 h
 have hH := how_of h0 hC
 obtain ⟨h1, h2, h3, h4, h5⟩ := hC
 rw [Bool.and_eq_true] at h1
 obtain ⟨ho, k1, k2, k3, k4, k5, k6, k7⟩ := ok_iff.1 h1.1
 obtain ⟨F, R, eF, eR, hF, hR, hlen, _⟩ := orthB_fact ho
 obtain rfl : F = P.F := by omega
 obtain rfl : R = P.R := by omega
 obtain ⟨a', b', pr', e, ha, hb, hab, hpr⟩ := mv_nat h1.2
 injection e with e1 e2 e3
 obtain rfl : a = a' := by omega
 obtain rfl : b = b' := by omega
 subst e3
 clear e1 e2
 have hw : isW (gx P.xs a) P.bl = true := h2
 rw [Bool.or_eq_false_iff] at h3
 have hwb : isW (gx P.xs b) P.bl = false := h3.1
 generalize wayW P ⟨a, b, pr⟩ = way at hH h4 h5
 obtain ⟨hl, hYa, hYb, hY, _⟩ := brd_any hlen ha hb hab hH
 obtain ⟨x1, x2, x3, _⟩ := newX_fact ho hw hpr hH
 have hxs : (aftW P ⟨a, b, pr⟩ way).xs = brdW P ⟨a, b, pr⟩ way := rfl
 rw [hxs] at h4
 have hpas := fun hsz => pass_after hF hsz hH hYa hYb hY
 generalize brdW P ⟨a, b, pr⟩ way = Y at *
 have hoY : orthB P.F P.R Y = true := orth_g ho hl fun k => by
  by_cases ka : k = a
  ·subst ka; rw [hYa]; omega
  by_cases kb : k = b
  ·subst kb; rw [hYb]; exact x2
  rcases hY k ka kb with h9 | ⟨h9, _, _⟩ | ⟨d, _, _, ⟨_, h9, _⟩ | ⟨_, h9, _⟩⟩
  ·rw [h9]; exact orth_6 ho k
  ·rw [h9]; omega
  ·rw [h9]; omega
  ·rw [h9]; cases P.bl <;> decide
 obtain ⟨ko, hko⟩ := kg_some k1
 obtain ⟨ke, hke⟩ := kg_some k2
 have hke2 := king_other hw (by rw [hYb]; exact x1) hYa hY hke (no_king ho hF hR ha hb hw k3 hke hH)
 have hko2 := king_own (by rw [hYb]; exact x3) hwb hYa hY hko
 rw [Bool.or_eq_false_iff] at h4
 have hch : chkW P.F P.R Y P.bl = 0 := by
  have h9 := h4.1
  unfold chkS at h9
  rw [hoY, if_pos rfl, kg_iff.2 hko2, if_neg (by omega)] at h9
  simpa using h9
 have hcnt : cntB (aftW P ⟨a, b, pr⟩ way).ha (aftW P ⟨a, b, pr⟩ way).fu = true := by
  have e1 : (aftW P ⟨a, b, pr⟩ way).fu = if P.bl then P.fu + 1 else P.fu := rfl
  have e2 := half_bd (P := P) (m := ⟨a, b, pr⟩) (way := way)
  have e3 : 1 ≤ (aftW P ⟨a, b, pr⟩ way).fu := by
   rw [e1]
   unfold cntB at k7
   simp only [Bool.and_eq_true, decide_eq_true_eq] at k7
   split <;> omega
  have e4 : 0 ≤ (aftW P ⟨a, b, pr⟩ way).ha := by
   unfold cntB at k7
   simp only [Bool.and_eq_true, decide_eq_true_eq] at k7
   rcases e2 with h | h
   ·rw [h.1]; exact Int.le_refl _
   ·rw [h]; omega
  unfold cntB
  simp only [Bool.and_eq_true, decide_eq_true_eq]
  omega
 have hca : ∃ can : Nat, P.ca = can := ⟨P.ca.toNat, by omega⟩
 obtain ⟨can, hcan⟩ := hca
 rw [hcan] at k5
 refine ok_iff.2 ⟨?_, ?_, ?_, ?_, ?_, ?_, ?_, hcnt⟩
 ·rw [hxs]; exact hoY
 ·rw [hxs]
  show ¬ kgI Y (!P.bl) < 0
  rw [kg_iff.2 hke2]; omega
 ·rw [hxs]
  show ¬ kgI Y (!!P.bl) < 0
  rw [Bool.not_not, kg_iff.2 hko2]; omega
 ·rw [hxs]
  show chkW P.F P.R Y (!!P.bl) = 0
  rw [Bool.not_not]; exact hch
 ·rw [hxs]
  show pawnsB P.F Y = true
  exact pawns_after ho hF hR hlen hl hw hpr hH k4 hYa hYb hY
 ·rw [hxs]
  show cstB P.F P.R Y (clrN P.ca.toNat (lostW a ||| lostW b) : Nat) = true
  rw [hcan, Int.toNat_natCast]
  exact cst_after k5 hY hH
 ·rw [hxs]
  exact hpas (by unfold orthB boardB at ho; simp only [Bool.and_eq_true] at ho; exact ho.1.1)
def btwT (F R : Nat) : Bool := (List.range (F * R)).all fun a => (List.range (F * R)).all fun b => !lineB a b (dF F a b) (dR F a b) || (btwS F R b a).all fun x => elI (btwS F R a b) x && (!(x == (a : Int)) && !(x == (b : Int)))
theorem btw_T : (List.range 6).all (fun i => (List.range 6).all fun j => btwT (i + 3) (j + 3)) = true := by decide +kernel
theorem btw_sym {F R a b : Nat} (hF : 3 ≤ F ∧ F ≤ 8) (hR : 3 ≤ R ∧ R ≤ 8) (ha : a < F * R) (hb : b < F * R) (h : lineB a b (dF F a b) (dR F a b) = true) : ∀ x ∈ btwS F R b a, elI (btwS F R a b) x = true ∧ x ≠ a ∧ x ≠ b := by
 have h1 := List.all_eq_true.1 (List.all_eq_true.1 btw_T (F - 3) (List.mem_range.2 (by omega))) (R - 3) (List.mem_range.2 (by omega))
 rw [show F - 3 + 3 = F by omega, show R - 3 + 3 = R by omega] at h1
 have h2 := List.all_eq_true.1 (List.all_eq_true.1 h1 a (List.mem_range.2 ha)) b (List.mem_range.2 hb)
 rw [h] at h2
 have h3 : ∀ x ∈ btwS F R b a, elI (btwS F R a b) x = true ∧ ¬x = a ∧ ¬x = b := by simpa using h2
 exact h3
theorem d_neg (F a b : Nat) : dF F b a = -dF F a b ∧ dR F b a = -dR F a b := by unfold dF dR; omega
theorem kind_neg (x : Int) : kindI (-x) = kindI x := by unfold kindI; split <;> split <;> omega
theorem reach_back {F R a b oc oc' : Nat} {k : Int} (hF : 3 ≤ F ∧ F ≤ 8) (hR : 3 ≤ R ∧ R ≤ 8) (ha : a < F * R) (hb : b < F * R) (h : reachB F R k a b oc = true) (ho : ∀ i, i ≠ a → i ≠ b → oc'.testBit i = true → oc.testBit i = true) : reachB F R k b a oc' = true := by
 obtain ⟨d1, d2⟩ := d_neg F a b
 unfold reachB at h ⊢
 by_cases k2 : k = 2
 ·rw [if_pos k2] at h ⊢
  rw [d1, d2, Int.neg_mul_neg, Int.neg_mul_neg]
  exact h
 rw [if_neg k2] at h ⊢
 by_cases k6 : k = 6
 ·rw [if_pos k6] at h ⊢
  unfold distI at h ⊢
  rw [d1, d2, kind_neg, kind_neg]
  exact h
 rw [if_neg k6] at h ⊢
 simp only [Bool.and_eq_true] at h ⊢
 obtain ⟨⟨h1, h2⟩, h3⟩ := h
 refine ⟨⟨?_, ?_⟩, ?_⟩
 ·rw [d1, d2]
  unfold lineB at h1 ⊢
  simp only [Bool.and_eq_true, Bool.or_eq_true, Bool.not_eq_true', decide_eq_true_eq, decide_eq_false_iff_not] at h1 ⊢
  omega
 ·have e : strB (dF F b a) (dR F b a) = strB (dF F a b) (dR F a b) := by
   rw [d1, d2]
   unfold strB
   rw [Bool.eq_iff_iff]
   simp only [Bool.or_eq_true, decide_eq_true_eq]
   omega
  rw [e]; exact h2
 ·have hs := btw_sym hF hR ha hb h1
  unfold freeL at h3 ⊢
  rw [List.all_eq_true] at h3 ⊢
  intro x hx
  obtain ⟨e1, e2, e3⟩ := hs x hx
  unfold elI at e1
  rw [List.any_eq_true] at e1
  obtain ⟨y, hy, e4⟩ := e1
  rw [beq_iff_eq] at e4
  obtain rfl : y = x := by omega
  have h4 := h3 y hy
  rcases e : hasS oc' y with _ | _
  ·rfl
  ·rw [Bool.not_eq_true'] at h4
   unfold hasS at e h4
   simp only [Bool.and_eq_true, Bool.and_eq_false_iff, decide_eq_true_eq, decide_eq_false_iff_not] at e h4
   have := ho y.toNat (by omega) (by omega) e.2.2
   rw [this] at h4
   simp at h4
   omega
theorem acc_mem {f g : Nat → List Ret} (hf : ∀ k, f (k + 1) = f k ++ g k) {k : Nat} {r : Ret} (h : r ∈ g k) : ∀ n, k < n → r ∈ f n := by
 intro n
 induction n with
 | zero => intro h; omega
 | succ n ih =>
  intro hk
  rw [hf, List.mem_append]
  rcases (by omega : k < n ∨ k = n) with h1 | rfl
  ·exact .inl (ih h1)
  ·exact .inr h
theorem try_mem {Q : Pos} {m : Mv} {cp t pa : Int} {k : Nat} (hk : k < 16) (h1 : clrN k (goneW Q m) = clrN Q.ca.toNat (goneW Q m)) (h2 : clrN Q.ca.toNat k = 0) (hp : pa ∈ behL Q.F Q.R (befW Q ⟨m, cp, t, k, 0⟩).xs (!Q.bl) (befW Q ⟨m, cp, t, k, 0⟩).ha) (hm : mayW Q ⟨m, cp, t, k, pa⟩ = true) : (⟨m, cp, t, k, pa⟩ : Ret) ∈ tryL Q m cp t := by
 refine acc_mem (f := tryK Q m cp t) (g := tryC Q m cp t) (fun _ => rfl) (k := k) ?_ 16 hk
 unfold tryC
 rw [if_neg (by rw [h1, h2]; simp)]
 exact List.mem_filter.2 ⟨List.mem_map.2 ⟨pa, hp, rfl⟩, hm⟩
theorem lostM_eq (a b : Nat) (pr : Int) : lostM ⟨a, b, pr⟩ = lostW a ||| lostW b := by
 obtain ⟨h1, h2⟩ := orK_bit (fun c => decide ((c.fr : Int) = a) || decide ((c.co : Int) = a))
 obtain ⟨h3, h4⟩ := orK_bit (fun c => decide ((c.fr : Int) = b) || decide ((c.co : Int) = b))
 obtain ⟨h5, h6⟩ := orK_bit (fun c => decide ((a : Int) = c.fr) || (decide ((a : Int) = c.co) || (decide ((b : Int) = c.fr) || decide ((b : Int) = c.co))))
 refine Nat.eq_of_testBit_eq fun j => ?_
 show (orK _ 4).testBit j = (orK _ 4 ||| orK _ 4).testBit j
 rw [Nat.testBit_or]
 rcases Nat.lt_or_ge j 4 with hj | hj
 ·have hc : ∀ j, j < 4 → ∃ c ∈ casL, c.bit = 2 ^ j := by decide
  obtain ⟨c, hc, hb⟩ := hc j hj
  rw [h2 c hc j hb, h4 c hc j hb, h6 c hc j hb]
  simp only [eq_comm (b := (c.fr : Int)), eq_comm (b := (c.co : Int)), Bool.or_assoc]
 ·have hp : 2 ^ 4 ≤ 2 ^ j := Nat.pow_le_pow_right (by decide) hj
  rw [Nat.testBit_lt_two_pow (Nat.lt_of_lt_of_le h1 hp), Nat.testBit_lt_two_pow (Nat.lt_of_lt_of_le h3 hp), Nat.testBit_lt_two_pow (Nat.lt_of_lt_of_le h5 hp)]
  rfl
theorem clr_self {n l : Nat} (hn : n ≤ 15) : clrN (clrN n l) l = clrN n l ∧ clrN (clrN n l) n = 0 := by
 unfold clrN
 refine ⟨by rw [Nat.and_assoc, Nat.and_self], Nat.eq_of_testBit_eq fun j => ?_⟩
 rw [Nat.testBit_and, Nat.testBit_and, show 255 - n = 2 ^ 8 - (n + 1) by omega, Nat.testBit_two_pow_sub_succ (by omega), Nat.zero_testBit]
 cases n.testBit j <;> simp
theorem rights_rec {P : Pos} {a b : Nat} {pr : Int} {n : Nat} (hca : P.ca = n) (hcst : cstB P.F P.R P.xs P.ca = true) {Q : Pos} (hF : Q.F = P.F) (hR : Q.R = P.R) (hq : Q.ca = (clrN n (lostW a ||| lostW b) : Nat)) : n < 16 ∧ clrN n (goneW Q ⟨a, b, pr⟩) = clrN Q.ca.toNat (goneW Q ⟨a, b, pr⟩) ∧ clrN Q.ca.toNat n = 0 := by
 rw [hca] at hcst
 obtain ⟨h1, h2⟩ := cst_iff.1 hcst
 rw [hq, Int.toNat_natCast]
 refine ⟨by omega, ?_, (clr_self h1).2⟩
 unfold goneW
 rw [hF, hR, lostM_eq]
 by_cases h8 : P.F = 8 ∧ P.R = 8
 ·rw [if_pos h8, (clr_self h1).1]
 ·have hn : n = 0 := by
   have hb : ∀ n, n < 16 → n = 0 ∨ ∃ c ∈ casL, n &&& c.bit ≠ 0 := by decide
   rcases hb n (by omega) with h | ⟨c, hc, h⟩
   ·exact h
   ·obtain ⟨e1, e2, _⟩ := h2 c hc h
    exact absurd ⟨e1, e2⟩ h8
  subst hn
  have : ∀ l, clrN 0 l = 0 := fun l => Nat.zero_and _
  rw [this, this, this]
theorem bh_mem {F K : Nat} {u : Int} {xs : List Int} {bl : Bool} {k : Nat} (h : bhB F K u xs bl k = true) : ∀ n, k < n → ((K * F + k : Nat) : Int) ∈ bhL F K u xs bl n := by
 intro n
 induction n with
 | zero => intro h; omega
 | succ n ih =>
  intro hk
  simp only [bhL]
  rcases (by omega : k < n ∨ k = n) with h1 | rfl
  ·split
   ·exact List.mem_append.2 (.inl (ih h1))
   ·exact ih h1
  ·rw [if_pos h]; simp
theorem bh_one (F K : Nat) (u : Int) (xs : List Int) (bl : Bool) : ∀ n, (-1 : Int) ∈ bhL F K u xs bl n := by
 intro n
 induction n with
 | zero => simp [bhL]
 | succ n ih =>
  simp only [bhL]
  split
  ·exact List.mem_append.2 (.inl ih)
  ·exact ih
theorem beh_mem {F R : Nat} {xs : List Int} {bl : Bool} {pa ha t : Int} (hF : 3 ≤ F ∧ F ≤ 8) (h : passB F R xs bl pa ha = true) (ht : ha = 0 → t = 0) : pa ∈ behL F R xs bl t := by
 unfold behL
 by_cases hp : pa = -1
 ·subst hp
  split
  ·simp
  ·exact bh_one _ _ _ _ _ _
 ·obtain ⟨b, hb⟩ : ∃ b : Nat, (b : Int) = pa := by
   unfold passB sqB at h
   simp only [Bool.or_eq_true, Bool.and_eq_true, beq_iff_eq, decide_eq_true_eq] at h
   exact ⟨pa.toNat, by omega⟩
  obtain ⟨p1, p2, p3, p4, p5, p6⟩ := pass_fact h hb
  rw [if_neg (by have := ht p2; omega)]
  subst hb
  have hm := Nat.mod_lt b (show 0 < F by omega)
  have hd := Nat.div_add_mod' b F
  have hK : b / F = if bl then 2 else R - 3 := by
   unfold rankI at p3
   revert p3
   cases bl <;> simp <;> omega
  have e : (b : Int) = (((if bl then 2 else R - 3) * F + b % F : Nat) : Int) := by rw [← hK, hd]
  have key : bhB F (if bl then 2 else R - 3) (if bl then (F : Int) else -F) xs bl (b % F) = true := by
   unfold bhB
   rw [← e]
   unfold sqN rankI gx at *
   simp only [Bool.and_eq_true, beq_iff_eq]
   refine ⟨by rw [← hK, hd]; exact p4, ?_, ?_⟩
   ·rw [← p5]
    congr 2
    rw [hK] at hd
    cases bl
    ·have hm1 : ((R : Int) - 2).toNat * F = (R - 3) * F + F := by rw [show ((R : Int) - 2).toNat = R - 3 + 1 by omega, Nat.add_mul, Nat.one_mul]
     simp only [Bool.false_eq_true, if_false, Bool.not_false, if_true] at hd ⊢
     omega
    ·simp at hd ⊢
     omega
   ·rw [← p6]
    congr 2
    rw [hK] at hd
    cases bl
    ·have hm1 : (R - 3) * F = ((R : Int) - 4).toNat * F + F := by rw [show R - 3 = ((R : Int) - 4).toNat + 1 by omega, Nat.add_mul, Nat.one_mul]
     simp only [Bool.false_eq_true, if_false, Bool.not_false, if_true] at hd ⊢
     omega
    ·simp at hd ⊢
     omega
  rw [e]
  exact bh_mem key F hm
theorem sk_in {Q : Pos} {tg : Nat} {r : Ret} (h : r ∈ skC Q tg) (ho : tg ∈ bitsL (ownS Q)) : r ∈ skL Q := by
 obtain ⟨i, hi, e⟩ := List.getElem_of_mem ho
 refine acc_mem (f := skK Q) (g := fun k => skC Q ((bitsL (ownS Q))[k]?.getD 0)) (fun _ => rfl) (k := i) ?_ _ hi
 simp only [List.getElem?_eq_getElem hi, Option.getD_some, e]
 exact h
theorem cap_in {Q : Pos} {m : Mv} {cp : Int} {r : Ret} {k : Nat} (hk : 1 ≤ k ∧ k ≤ 5) (hc : cp = pcI k Q.bl) (h : r ∈ tryL Q m cp m.tg) : r ∈ capL Q m 5 := by
 refine acc_mem (f := capL Q m) (g := fun k => tryL Q m (pcI ((k + 1 : Nat) : Int) Q.bl) m.tg) (fun _ => rfl) (k := k - 1) ?_ 5 (by omega)
 show r ∈ tryL Q m (pcI ((k - 1 + 1 : Nat) : Int) Q.bl) m.tg
 rw [show k - 1 + 1 = k by omega, ← hc]
 exact h
theorem pwn_in {Q : Pos} {a b j : Nat} {pr : Int} {r : Ret} (hF : 3 ≤ Q.F ∧ Q.F ≤ 8) (ha : a < Q.F * Q.R) (hj : j < 4) (hx : (pstL (!Q.bl))[j]?.getD (0, 0) = (-dF Q.F a b, -dR Q.F a b)) (hao : Q.occ.testBit a = false)
  (h : (dF Q.F a b = 0 ∧ r ∈ tryL Q ⟨a, b, pr⟩ 0 (-1)) ∨ (dF Q.F a b ≠ 0 ∧ (r ∈ capL Q ⟨a, b, pr⟩ 5 ∨ ∃ e : Nat, e = a / Q.F * Q.F + b % Q.F ∧ Q.occ.testBit e = false ∧ r ∈ tryL Q ⟨a, b, pr⟩ (pcI 1 Q.bl) e))) : r ∈ pwnK Q b pr 4 := by
 refine acc_mem (f := pwnK Q b pr) (g := fun k => pwnC Q b pr ((pstL (!Q.bl))[k]?.getD (0, 0))) (fun _ => rfl) (k := j) ?_ 4 hj
 rw [hx]
 have e1 : ((b % Q.F : Nat) : Int) + -dF Q.F a b = (a % Q.F : Nat) := by unfold dF; omega
 have e2 : ((b / Q.F : Nat) : Int) + -dR Q.F a b = (a / Q.F : Nat) := by unfold dR; omega
 obtain ⟨s1, s2⟩ := (sq_split (F := Q.F) (R := Q.R) (b := a) hF ha).2 ⟨e1, e2⟩
 rcases h with ⟨h1, h2⟩ | ⟨h1, h2⟩
 ·rw [pwnC_fwd (fr := a) s1 s2 hao (by simp only; omega)]
  exact h2
 ·rw [pwnC_cap (fr := a) (be := a / Q.F * Q.F + b % Q.F) s1 s2 hao (by simp only; omega) (by simp only; rw [e2, Int.natCast_add, Int.natCast_mul]; omega)]
  rcases h2 with h2 | ⟨e, rfl, h3, h4⟩
  ·exact List.mem_append.2 (.inl h2)
  ·refine List.mem_append.2 (.inr ?_)
   rw [h3]
   exact h4
theorem skC_pawn {Q : Pos} {b : Nat} {pr : Int} {r : Ret} (h : r ∈ pwnK Q b pr 4) (hX : (pr = 0 ∧ kindI (gx Q.xs b) = 1) ∨ (kindI (gx Q.xs b) = pr ∧ (2 ≤ pr ∧ pr ≤ 5) ∧ b / Q.F = if Q.bl then Q.R - 1 else 0)) : r ∈ skC Q b := by
 unfold skC
 rw [show Q.at_ (b : Int) = gx Q.xs b from rfl]
 rcases hX with ⟨rfl, h1⟩ | ⟨h1, h2, h3⟩
 ·rw [if_pos h1]; exact h
 ·rw [if_neg (by omega), List.mem_append]
  right
  rw [if_pos ⟨by omega, h3⟩, h1]
  exact h
theorem skC_piece {Q : Pos} {b : Nat} {r : Ret} (hk : kindI (gx Q.xs b) ≠ 1) (h : r ∈ pieL Q b) : r ∈ skC Q b := by
 unfold skC
 rw [show Q.at_ (b : Int) = gx Q.xs b from rfl, if_neg hk, List.mem_append]
 exact .inl h
theorem enemy_pc {x : Int} {b : Bool} (h1 : isW x b = false) (h0 : x ≠ 0) (h6 : -6 ≤ x ∧ x ≤ 6) (hk : x ≠ 6 * sdI (!b)) : ∃ k : Nat, (1 ≤ k ∧ k ≤ 5) ∧ x = pcI k (!b) := by
 refine ⟨(kindI x).toNat, ?_⟩
 revert h1 hk
 unfold isW kindI pcI sdI
 cases b <;> simp <;> intro h1 hk <;> split <;> omega
theorem step_ix (b : Bool) : (pstL b)[0]?.getD (0, 0) = (0, -sdI b) ∧ (pstL b)[1]?.getD (0, 0) = (0, -(2 * sdI b)) ∧ (pstL b)[2]?.getD (0, 0) = (-1, -sdI b) ∧ (pstL b)[3]?.getD (0, 0) = (1, -sdI b) := by cases b <;> decide
theorem sk_found {P : Pos} {a b : Nat} {pr : Int} {q : Pos} {u : Und} (h0 : 0 ≤ P.ca) (h : mkW P ⟨a, b, pr⟩ = .ok (q, u)) : retW P ⟨a, b, pr⟩ ∈ skL q := by
 obtain ⟨hmay, hbef, hha, hha0⟩ := back_may h0 h
 obtain ⟨hC, hq, _⟩ := mk_iff.1 h
 have hH := how_of h0 hC
 obtain ⟨h1, h2, h3, _, _⟩ := hC
 rw [Bool.and_eq_true] at h1
 obtain ⟨ho, k1, k2, k3, k4, k5, k6, k7⟩ := ok_iff.1 h1.1
 obtain ⟨F, R, eF, eR, hF, hR, hlen, _⟩ := orthB_fact ho
 obtain rfl : F = P.F := by omega
 obtain rfl : R = P.R := by omega
 obtain ⟨a', b', pr', e, ha, hb, hab, hpr⟩ := mv_nat h1.2
 injection e with e1 e2 e3
 obtain rfl : a = a' := by omega
 obtain rfl : b = b' := by omega
 subst e3
 clear e1 e2
 have hw : isW (gx P.xs a) P.bl = true := h2
 rw [Bool.or_eq_false_iff] at h3
 have hwb : isW (gx P.xs b) P.bl = false := h3.1
 generalize wayW P ⟨a, b, pr⟩ = way at hH hq
 obtain ⟨hl, hYa, hYb, hY, hYe⟩ := brd_any hlen ha hb hab hH
 obtain ⟨x1, x2, x3, x4⟩ := newX_fact ho hw hpr hH
 obtain ⟨ke, hke⟩ := kg_some k2
 have hnk := no_king ho hF hR ha hb hw k3 hke hH
 have hqF : q.F = P.F := by rw [hq]; rfl
 have hqR : q.R = P.R := by rw [hq]; rfl
 have hqb : q.bl = !P.bl := by rw [hq]; rfl
 have hqx : q.xs = brdW P ⟨a, b, pr⟩ way := by rw [hq]; rfl
 have hqc : q.ca = (clrN P.ca.toNat (lostW a ||| lostW b) : Nat) := by rw [hq]; rfl
 have hqh : q.ha = if kindI (gx P.xs a) = 1 ∨ (capW P ⟨a, b, pr⟩).2 ≠ 0 then 0 else P.ha + 1 := by rw [hq]; rfl
 rw [← hqx] at hl hYa hYb hY hYe
 clear hq hqx h
 obtain ⟨n, hn⟩ : ∃ n : Nat, P.ca = n := ⟨P.ca.toNat, by omega⟩
 -- try finds it
 have htry : retW P ⟨a, b, pr⟩ ∈ tryL q ⟨a, b, pr⟩ (capW P ⟨a, b, pr⟩).2 (capW P ⟨a, b, pr⟩).1 := by
  rw [hn, Int.toNat_natCast] at hqc
  obtain ⟨r1, r2, r3⟩ := rights_rec (pr := pr) hn k5 hqF hqR hqc
  have hr : retW P ⟨a, b, pr⟩ = ⟨⟨a, b, pr⟩, (capW P ⟨a, b, pr⟩).2, (capW P ⟨a, b, pr⟩).1, n, P.pa⟩ := by unfold retW; rw [hn]
  rw [hr] at hmay ⊢
  refine try_mem r1 r2 r3 ?_ hmay
  have ex : (befW q ⟨⟨a, b, pr⟩, (capW P ⟨a, b, pr⟩).2, (capW P ⟨a, b, pr⟩).1, n, 0⟩).xs = P.xs := by
   have : (befW q (retW P ⟨a, b, pr⟩)).xs = P.xs := by rw [hbef]
   rw [← this]; rfl
  rw [ex, hqF, hqR, hqb, Bool.not_not]
  refine beh_mem hF k6 fun hz => ?_
  show max 0 (q.ha - 1) = 0
  omega
 have hoa : q.occ.testBit a = false := by rw [occ_bit, hYa]; rfl
 have h64 : P.F * P.R ≤ 64 := Nat.mul_le_mul hF.2 hR.2
 have hown : b ∈ bitsL (ownS q) := by
  rw [bits_mem]
  refine ⟨by omega, ?_⟩
  unfold ownS
  rw [setW_bit]
  rw [hqb]
  have : b < q.xs.length := by omega
  revert x1
  rw [← hYb]
  unfold isW gx gPos gNeg
  cases P.bl <;> simp [this]
 refine sk_in ?_ hown
 generalize hte : (capW P ⟨a, b, pr⟩).1 = t at htry hY hYe
 generalize hce : (capW P ⟨a, b, pr⟩).2 = cp at htry hqh
 cases hH with
 | cas c hc g1 g2 g3 =>
  subst g1 g2 g3
  have hcap := hc.cap
  rw [hcap] at hte hce
  subst hte hce
  have hX : gx q.xs c.tg = pcI 6 P.bl := hYb.trans hc.king
  have hk6 : kindI (pcI 6 P.bl) = 6 := by cases P.bl <;> decide
  refine skC_piece (by rw [hX, hk6]; decide) ?_
  unfold pieL
  refine List.mem_append.2 (.inr ?_)
  obtain ⟨j, hj, _, hjc⟩ := cas_ix c hc.mem
  refine acc_mem (f := casK q c.tg) (g := fun k => casC q c.tg (casL[k]?.getD ⟨0, false, 0, 0, 0, 0⟩)) (fun _ => rfl) (k := j) ?_ 4 hj
  simp only [hjc, Option.getD_some]
  unfold casC
  rw [if_pos]
  ·exact htry
  ·unfold casB
   rw [hqF, hqR, hc.h8.1, hc.h8.2, show q.at_ (c.tg : Int) = gx q.xs c.tg from rfl, hX, hk6, hqb, hc.bl, hoa]
   simp
 | go hg hcp =>
  rw [hte, hce] at hcp
  have hsub : ∀ i, i ≠ a → i ≠ b → q.occ.testBit i = true → P.occ.testBit i = true := by
   intro i i1 i2 hi
   rw [occ_bit, decide_eq_true_eq] at hi ⊢
   rcases hY i i1 i2 with h | ⟨h, _⟩ | ⟨c, hc, _⟩
   ·rwa [← h]
   ·exact absurd h hi
   ·cases hc
  have hcs : (cp = 0 ∧ t = -1) ∨ (t = b ∧ cp = gx P.xs b ∧ cp ≠ 0) ∨ (gx P.xs a = pcI 1 P.bl ∧ dF P.F a b ≠ 0 ∧ cp = pcI 1 (!P.bl) ∧ t = ((a / P.F * P.F + b % P.F : Nat) : Int) ∧ q.occ.testBit (a / P.F * P.F + b % P.F) = false) := by
   cases hcp with
   | none _ => exact .inl ⟨rfl, rfl⟩
   | take h => exact .inr (.inl ⟨rfl, rfl, h⟩)
   | pass e he hx hb0 ha1 hee _ hd =>
    subst hee
    have n2 : a / P.F * P.F + b % P.F ≠ b := by intro e; rw [e, hb0] at hx; exact (pc_ne _).2 hx.symm
    exact .inr (.inr ⟨ha1, by omega, rfl, rfl, by rw [occ_bit, hYe _ n2 rfl]; rfl⟩)
  -- a piece captured on the second square
  have hcap : t = b → cp = gx P.xs b → cp ≠ 0 → retW P ⟨a, b, pr⟩ ∈ capL q ⟨a, b, pr⟩ 5 := by
   rintro rfl rfl hn0
   obtain ⟨k, hk, hc⟩ := enemy_pc hwb hn0 (orth_6 ho b) (fun e => hnk (hke.2 b e).symm)
   exact cap_in hk (by rw [hqb]; exact hc) htry
  have hpw : ∀ j, j < 4 → (pstL P.bl)[j]?.getD (0, 0) = (-dF P.F a b, -dR P.F a b) → gx P.xs a = pcI 1 P.bl → (dF P.F a b = 0 → cp = 0) → (dF P.F a b ≠ 0 → cp ≠ 0) → (pr ≠ 0 ↔ ((b / P.F : Nat) : Int) = lastI P.R P.bl) → retW P ⟨a, b, pr⟩ ∈ skC q b := by
   intro j hj hx hk hc0 hc1 hl
   have hin : retW P ⟨a, b, pr⟩ ∈ pwnK q b pr 4 := by
    refine pwn_in (a := a) (j := j) (by rw [hqF]; exact hF) (by rw [hqF, hqR]; exact ha) hj (by rw [hqb, Bool.not_not, hqF]; exact hx) hoa ?_
    rw [hqF, hqb]
    rcases hcs with ⟨rfl, rfl⟩ | ⟨g1, g2, g3⟩ | ⟨_, g1, rfl, rfl, g2⟩
    ·by_cases hd : dF P.F a b = 0
     ·exact .inl ⟨hd, htry⟩
     ·exact absurd rfl (hc1 hd)
    ·by_cases hd : dF P.F a b = 0
     ·exact absurd (hc0 hd) g3
     ·exact .inr ⟨hd, .inl (hcap g1 g2 g3)⟩
    ·exact .inr ⟨g1, .inr ⟨_, rfl, g2, htry⟩⟩
   refine skC_pawn hin ?_
   rw [hYb]
   by_cases hp : pr = 0
   ·left
    subst hp
    refine ⟨rfl, ?_⟩
    show kindI (gx P.xs a) = 1
    rw [hk]
    cases P.bl <;> decide
   ·right
    have hX : newX P a pr = pcI pr P.bl := if_pos hp
    rw [hX, hqF, hqR, hqb]
    have hl := hl.1 hp
    unfold lastI at hl
    refine ⟨?_, by omega, ?_⟩
    ·unfold kindI pcI
     cases P.bl <;> simp <;> omega
    ·clear htry hmay hbef
     generalize b / P.F = y at hl ⊢
     revert hl
     cases P.bl <;> simp <;> omega
  obtain ⟨i0, i1, i2, i3⟩ := step_ix P.bl
  have hcp0 : gx P.xs b = 0 → dF P.F a b = 0 → cp = 0 := by
   intro hb0 hd
   rcases hcs with ⟨h, _⟩ | ⟨_, h, _⟩ | ⟨_, h, _⟩
   ·exact h
   ·rw [h, hb0]
   ·exact absurd hd h
  cases hg with
  | piece hk hp hr =>
   subst hp
   have hX : gx q.xs b = gx P.xs a := hYb
   have hkb := kind_bd (orth_6 ho a) (isW_ne hw)
   refine skC_piece (by rw [hX]; exact hk) ?_
   unfold pieL
   refine List.mem_append.2 (.inl ?_)
   have hmem : a ∈ bitsL (pieS q b) := by
    rw [bits_mem]
    refine ⟨by omega, ?_⟩
    unfold pieS
    rw [not_bit (oc := q.occ) (setW_lt _ _ (by omega)), hoa, show q.at_ (b : Int) = gx q.xs b from rfl, hX, hqF, hqR, reach_eq hF hR hb ha (by omega), reach_back hF hR ha hb hr hsub]
    simp; omega
   obtain ⟨i, hi, e⟩ := List.getElem_of_mem hmem
   refine acc_mem (f := pieK q b) (g := fun k => pieC q b ((bitsL (pieS q b))[k]?.getD 0)) (fun _ => rfl) (k := i) ?_ _ hi
   simp only [List.getElem?_eq_getElem hi, Option.getD_some, e]
   unfold pieC
   rcases hcs with ⟨rfl, rfl⟩ | ⟨g1, g2, g3⟩ | ⟨g1, _⟩
   ·rw [if_neg (by omega)] at hqh
    rw [if_pos (by omega)]
    exact htry
   ·rw [if_pos (.inr g3)] at hqh
    rw [if_neg (by omega)]
    exact hcap g1 g2 g3
   ·rw [g1] at hk
    exact absurd (by cases P.bl <;> decide) hk
  | step hk hb0 hd hr hl => exact hpw 0 (by decide) (by rw [i0, hd, hr]; rfl) hk (hcp0 hb0) (fun h => absurd hd h) hl
  | two hk hb0 hd hr _ _ _ _ hl => exact hpw 1 (by decide) (by rw [i1, hd, hr]; rfl) hk (hcp0 hb0) (fun h => absurd hd h) hl
  | diag hk hd hr hc hl =>
   have hne : cp ≠ 0 := by
    rcases hcs with ⟨h, h9⟩ | ⟨_, _, h⟩ | ⟨_, _, h, _⟩
    ·intro _
     cases hcp with
     | none hb0 hp =>
      rcases hc with hc | hc
      ·exact hc hb0
      ·exact hp (by rw [hk]; cases P.bl <;> decide) hc
     | take hb1 => omega
     | pass e => omega
    ·exact h
    ·rw [h]; exact (pc_ne _).2
   rcases hd with hd | hd
   ·exact hpw 2 (by decide) (by rw [i2, hd, hr]) hk (fun h => by omega) (fun _ => hne) hl
   ·exact hpw 3 (by decide) (by rw [i3, hd, hr]; rfl) hk (fun h => by omega) (fun _ => hne) hl
end Go.Proofs.YtefmplccbkmalaaGreatDoor
namespace Go.Proofs.YtefmplccbkmalaaGreatDoor
open Go.RowKit Go.Sort Go.BigFrame

theorem ddN_count {L : List Ret} (h : L.Pairwise leR) (r : Ret) : ∀ n, n ≤ L.length → (ddN L n).count r = if r ∈ L.take n then 1 else 0 := by
 intro n
 induction n with
 | zero => intro _; simp [ddN]
 | succ k ih =>
  intro hk
  have hkl : k < L.length := by omega
  have hk0 : L[k]?.getD zeroRet = L[k] := by rw [List.getElem?_eq_getElem hkl]; rfl
  rw [ddN, List.take_succ_eq_append_getElem hkl]
  split
  ·rename_i hc
   have h1 : L[k - 1]?.getD zeroRet = L[k - 1] := by rw [List.getElem?_eq_getElem (by omega)]; rfl
   rw [hk0, h1] at hc
   have hm : L[k] ∈ L.take k := by rw [hc.2]; exact List.mem_take_iff_getElem.2 ⟨k - 1, by omega, rfl⟩
   rw [ih (by omega)]
   by_cases hr : r ∈ L.take k
   ·rw [if_pos hr, if_pos (List.mem_append.2 (.inl hr))]
   ·rw [if_neg hr, if_neg]
    intro h2
    rcases List.mem_append.1 h2 with h2 | h2
    ·exact hr h2
    ·rw [List.mem_singleton.1 h2] at hr; exact hr hm
  ·rename_i hc
   rw [hk0] at hc
   have hnot : L[k] ∉ L.take k := by
    intro hm
    obtain ⟨i, hi, he⟩ := List.mem_take_iff_getElem.1 hm
    have hik : i < k := by omega
    have h1 : L[k - 1]?.getD zeroRet = L[k - 1] := by rw [List.getElem?_eq_getElem (by omega)]; rfl
    rw [h1] at hc
    apply hc
    refine ⟨by omega, ?_⟩
    have hpw := List.pairwise_iff_getElem.1 h
    have a1 : leR L[k - 1] L[k] := hpw (k - 1) k (by omega) hkl (by omega)
    by_cases hik2 : i = k - 1
    ·subst hik2; exact he.symm
    ·have a2 : leR L[i] L[k - 1] := hpw i (k - 1) (by omega) (by omega) (by omega)
     rw [he] at a2
     exact leR_anti a2 a1
   rw [hk0, List.count_append, ih (by omega), List.count_singleton]
   by_cases hr : r = L[k]
   ·subst hr
    rw [if_neg hnot, if_pos (List.mem_append.2 (.inr (List.mem_singleton.2 rfl)))]
    simp
   ·have e : (L[k] == r) = false := by simpa using fun h => hr h.symm
    rw [e]
    simp only [Bool.false_eq_true, if_false, Nat.add_zero]
    by_cases hr2 : r ∈ L.take k
    ·rw [if_pos hr2, if_pos (List.mem_append.2 (.inl hr2))]
    ·rw [if_neg hr2, if_neg]
     intro h2
     exact (List.mem_append.1 h2).elim hr2 fun h3 => hr (List.mem_singleton.1 h3)
theorem movW_count {P : Pos} {r : Ret} (h : r ∈ skL P) : (movW P).count r = 1 := by
 unfold movW
 rw [ddN_count (srtR_pw _) r _ (Nat.le_refl _), List.take_length, if_pos ((srtR_perm _).mem_iff.2 h)]
end Go.Proofs.YtefmplccbkmalaaGreatDoor
