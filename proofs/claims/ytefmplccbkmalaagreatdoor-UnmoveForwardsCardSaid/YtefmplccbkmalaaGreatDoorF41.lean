import Derived.Test.YtefmplccbkmalaaGreatDoorF40
namespace Go.Proofs.YtefmplccbkmalaaGreatDoor
open Go.RowKit

def newX (P : Pos) (a : Nat) (pr : Int) : Int := if pr ≠ 0 then pcI pr P.bl else gx P.xs a
theorem CapS.cases {P : Pos} {a b : Nat} {t cp : Int} (h : CapS P a b t cp) : t = -1 ∨ ∃ e : Nat, t = e ∧ gx P.xs e ≠ 0 := by
 cases h with
 | none h => exact .inl rfl
 | take h => exact .inr ⟨b, rfl, h⟩
 | pass e he hx => exact .inr ⟨e, rfl, by rw [hx]; exact (pc_ne _).2⟩
theorem brd_none {P : Pos} {a b : Nat} {pr t cp : Int} (hc : capW P ⟨a, b, pr⟩ = (t, cp)) (h : CapS P a b t cp) (ha : a < P.xs.length) (hb : b < P.xs.length) :
  (brdW P ⟨a, b, pr⟩ none).length = P.xs.length ∧ ∀ k, gx (brdW P ⟨a, b, pr⟩ none) k = if b = k then newX P a pr else if a = k then 0 else if (k : Int) = t then 0 else gx P.xs k := by
 have hx : ∀ x1 : List Int, x1.length = P.xs.length → (∀ k, gx x1 k = if (k : Int) = t then 0 else gx P.xs k) → ∀ Y : List Int, Y = (if pr ≠ 0 then ((x1.set a 0).set b (gx P.xs a)).set b (if P.bl then -pr else pr) else (x1.set a 0).set b (gx P.xs a)) → Y.length = P.xs.length ∧ ∀ k, gx Y k = if b = k then newX P a pr else if a = k then 0 else if (k : Int) = t then 0 else gx P.xs k := by
  rintro x1 hl hg Y rfl
  unfold newX pcI
  by_cases hp : pr ≠ 0
  ·rw [if_pos hp, if_pos hp]
   refine ⟨by simp [hl], fun k => ?_⟩
   rw [gx_set _ (by simp [hl]; exact hb), gx_set _ (by simp [hl]; exact hb), gx_set _ (by rw [hl]; exact ha), hg]
   split
   ·rfl
   ·rfl
  ·rw [if_neg hp, if_neg hp]
   refine ⟨by simp [hl], fun k => ?_⟩
   rw [gx_set _ (by simp [hl]; exact hb), gx_set _ (by rw [hl]; exact ha), hg]
 refine hx (if 0 ≤ t then P.xs.set t.toNat 0 else P.xs) ?_ ?_ _ ?_
 ·split <;> simp
 ·intro k
  rcases h.cases with rfl | ⟨e, rfl, he⟩
  ·rw [if_neg (by decide), if_neg (by omega)]
  ·rw [if_pos (by omega), Int.toNat_natCast, gx_set _ (gx_lt he)]
   by_cases e1 : e = k
   ·subst e1; simp
   ·rw [if_neg e1, if_neg (by omega)]
 ·unfold brdW
  rw [hc]
  rfl
theorem fold_id {α β : Type} {f : α → β → α} : ∀ {l : List β} {x : α}, (∀ c ∈ l, ∀ x, f x c = x) → l.foldl f x = x
 | [], _, _ => rfl
 | d :: l, x, h => by
  rw [List.foldl_cons, h d List.mem_cons_self]
  exact fold_id fun c hc => h c (List.mem_cons_of_mem _ hc)
theorem fold_cas {F R : Nat} {own : Int} {sd : Bool} {c : Cas} (hc : c ∈ casL) (h8 : F = 8 ∧ R = 8) (ho : own = pcI 6 sd) (hs : c.bl = sd) (x : List Int) : casL.foldl (fun x d => if F = 8 ∧ R = 8 ∧ own = pcI 6 sd ∧ d.bl = sd ∧ (d.fr : Int) = (c.fr : Int) ∧ (d.tg : Int) = (c.tg : Int) then (x.set d.co (x[d.cr]?.getD 0)).set d.cr 0 else x) x = (x.set c.co (x[c.cr]?.getD 0)).set c.cr 0 := by
 obtain ⟨rfl, rfl⟩ := h8
 subst ho hs
 simp only [casL, List.mem_cons, List.not_mem_nil, or_false] at hc
 rcases hc with rfl | rfl | rfl | rfl <;> simp [casL]
theorem pc16 (b : Bool) : pcI 1 b ≠ pcI 6 b := by cases b <;> decide
theorem no_cas {P : Pos} {a b : Nat} {pr : Int} (h : GoS P a b pr) {c : Cas} (hc : c ∈ casL) (h8 : P.F = 8 ∧ P.R = 8) (hk : gx P.xs a = pcI 6 P.bl) (ha : c.fr = a) (hb : c.tg = b) : False := by
 cases h with
 | piece h1 _ h3 =>
  subst ha hb
  have h6 : kindI (gx P.xs c.fr) = 6 := by rw [hk]; cases P.bl <;> decide
  rw [h6, h8.1, h8.2] at h3
  have : ∀ c ∈ casL, (distI 8 c.fr c.tg == 1) = false := by decide
  have h4 : reachB 8 8 6 c.fr c.tg P.occ = (distI 8 c.fr c.tg == 1) := rfl
  rw [h4, this c hc] at h3
  cases h3
 | step h => rw [hk] at h; exact pc16 _ h.symm
 | two h => rw [hk] at h; exact pc16 _ h.symm
 | diag h => rw [hk] at h; exact pc16 _ h.symm
theorem GoS.pr {P : Pos} {a b : Nat} {pr : Int} (h : GoS P a b pr) (hp : pr ≠ 0) : gx P.xs a = pcI 1 P.bl := by
 cases h with
 | piece _ h => exact absurd h hp
 | step h => exact h
 | two h => exact h
 | diag h => exact h
def retW (P : Pos) (m : Mv) : Ret := ⟨m, (capW P m).2, (capW P m).1, P.ca, P.pa⟩
theorem bef_xs {P Q : Pos} {r : Ret} (hF : Q.F = P.F) (hR : Q.R = P.R) (hb : Q.bl = !P.bl) (hca : r.ca = P.ca) (hpa : r.pa = P.pa) (hfu : Q.fu = if P.bl then P.fu + 1 else P.fu) (hx : (befW Q r).xs = P.xs) : befW Q r = { P with ha := max 0 (Q.ha - 1) } := by
 have e : befW Q r = { F := Q.F, R := Q.R, xs := (befW Q r).xs, bl := !Q.bl, ca := r.ca, pa := r.pa, ha := max 0 (Q.ha - 1), fu := if !Q.bl then Q.fu - 1 else Q.fu } := rfl
 rw [e, hx, hF, hR, hb, hca, hpa, hfu, Bool.not_not]
 congr 1
 cases P.bl <;> simp <;> omega
theorem undo_none {P : Pos} {a b : Nat} {pr : Int} (hab : a ≠ b) (hcap : CapS P a b (capW P ⟨a, b, pr⟩).1 (capW P ⟨a, b, pr⟩).2) (hg : GoS P a b pr) (ha : a < P.xs.length) (hb : b < P.xs.length) : befW (aftW P ⟨a, b, pr⟩ none) (retW P ⟨a, b, pr⟩) = { P with ha := max 0 ((aftW P ⟨a, b, pr⟩ none).ha - 1) } := by
 refine bef_xs rfl rfl rfl rfl rfl rfl ?_
 generalize hte : (capW P ⟨a, b, pr⟩).1 = t at hcap
 generalize hce : (capW P ⟨a, b, pr⟩).2 = cp at hcap
 obtain ⟨hl, hx⟩ := brd_none (pr := pr) (Prod.ext hte hce) hcap ha hb
 have hown : (if pr ≠ 0 then pcI 1 (!!P.bl) else (aftW P ⟨a, b, pr⟩ none).at_ (b : Int)) = gx P.xs a := by
  by_cases hp : pr ≠ 0
  ·rw [if_pos hp, Bool.not_not, hg.pr hp]
  ·rw [if_neg hp]
   show gx (brdW P ⟨a, b, pr⟩ none) b = _
   rw [hx, if_pos rfl]
   unfold newX
   rw [if_neg hp]
 have eq0 : (befW (aftW P ⟨a, b, pr⟩ none) (retW P ⟨a, b, pr⟩)).xs = (let x1 := ((brdW P ⟨a, b, pr⟩ none).set b 0).set a (gx P.xs a); let x2 := casL.foldl (fun x c => if P.F = 8 ∧ P.R = 8 ∧ gx P.xs a = pcI 6 (!!P.bl) ∧ c.bl = (!!P.bl) ∧ (c.fr : Int) = a ∧ (c.tg : Int) = b then (x.set c.co (x[c.cr]?.getD 0)).set c.cr 0 else x) x1; if 0 ≤ t ∧ t < x2.length then x2.set t.toNat cp else x2) := by
  rw [← hown, ← hte, ← hce]
  rfl
 rw [eq0]
 simp only
 clear eq0 hown
 rw [fold_id (fun c hc x => if_neg (fun h => no_cas hg hc ⟨h.1, h.2.1⟩ (by rw [h.2.2.1, Bool.not_not]) (by omega) (by omega)))]
 generalize brdW P ⟨a, b, pr⟩ none = Y at hl hx
 have hX : ∀ k, gx ((Y.set b 0).set a (gx P.xs a)) k = if a = k then gx P.xs a else if b = k then 0 else gx Y k := fun k => by
  rw [gx_set _ (by simp [hl]; exact ha), gx_set _ (by rw [hl]; exact hb)]
 have hXl : ((Y.set b 0).set a (gx P.xs a)).length = P.xs.length := by simp [hl]
 generalize (Y.set b 0).set a (gx P.xs a) = X at hX hXl
 rcases hcap.cases with rfl | ⟨e, rfl, he⟩
 ·rw [if_neg (by omega)]
  refine gx_ext hXl fun k => ?_
  rw [hX, hx]
  have hb0 : gx P.xs b = 0 := by
   generalize e : (-1 : Int) = t at hcap
   cases hcap <;> first | assumption | omega
  by_cases e1 : a = k
  ·rw [if_pos e1, e1]
  ·rw [if_neg e1, if_neg e1]
   by_cases e2 : b = k
   ·rw [if_pos e2, ← e2, hb0]
   ·rw [if_neg e2, if_neg e2, if_neg (by omega)]
 ·have hel := gx_lt he
  rw [if_pos (by omega), Int.toNat_natCast]
  refine gx_ext (by simp [hXl]) fun k => ?_
  rw [gx_set _ (by rw [hXl]; exact hel), hX, hx]
  have hcp : cp = gx P.xs e ∧ (e ≠ b → gx P.xs b = 0) := by
   generalize e' : (e : Int) = t at hcap
   cases hcap with
   | none _ => omega
   | take _ => obtain rfl : e = b := by omega
               exact ⟨rfl, fun h => absurd rfl h⟩
   | pass e3 _ h2 h3 => obtain rfl : e = e3 := by omega
                        exact ⟨h2.symm, fun _ => h3⟩
  by_cases e0 : e = k
  ·rw [if_pos e0, hcp.1, e0]
  ·rw [if_neg e0]
   by_cases e1 : a = k
   ·rw [if_pos e1, e1]
   ·rw [if_neg e1, if_neg e1]
    by_cases e2 : b = k
    ·rw [if_pos e2, ← e2, hcp.2 (by omega)]
    ·rw [if_neg e2, if_neg e2, if_neg (by omega)]
structure CasF (P : Pos) (c : Cas) : Prop where
 mem : c ∈ casL
 bl : c.bl = P.bl
 h8 : P.F = 8 ∧ P.R = 8
 king : gx P.xs c.fr = pcI 6 P.bl
 rook : gx P.xs c.co = pcI 4 P.bl
 tg : gx P.xs c.tg = 0
 cr : gx P.xs c.cr = 0
theorem cas_btw : ∀ c ∈ casL, (btwW 8 8 c.fr c.co).testBit c.tg = true ∧ (btwW 8 8 c.fr c.co).testBit c.cr = true := by decide +kernel
theorem cas_ne : ∀ c ∈ casL, (c.fr ≠ c.tg ∧ c.fr ≠ c.co ∧ c.fr ≠ c.cr ∧ c.tg ≠ c.co ∧ c.tg ≠ c.cr ∧ c.co ≠ c.cr) ∧ c.fr < 64 ∧ c.tg < 64 ∧ c.co < 64 ∧ c.cr < 64 := by decide
theorem casF_of {P : Pos} {m : Mv} {c : Cas} (hcst : cstB P.F P.R P.xs P.ca = true) (h0 : 0 ≤ P.ca) (h : castW P m = (some c, true)) : CasF P c ∧ (c.fr : Int) = m.fr ∧ (c.tg : Int) = m.tg := by
 obtain ⟨_, h1, h2, h3, h4, h5, h6⟩ := cast_fact h
 obtain ⟨can, hcan⟩ : ∃ can : Nat, P.ca = can := ⟨P.ca.toNat, by omega⟩
 rw [hcan] at hcst h3
 obtain ⟨e1, e2, e3, e4⟩ := (cst_iff.1 hcst).2 c h1 h3
 rw [e1, e2] at h6
 have hz : ∀ i, (btwW 8 8 c.fr c.co).testBit i = true → gx P.xs i = 0 := by
  intro i hi
  have := congrArg (·.testBit i) h6
  simp only [Nat.testBit_and, hi, Bool.true_and, Nat.zero_testBit, occ_bit] at this
  simpa using this
 obtain ⟨b1, b2⟩ := cas_btw c h1
 exact ⟨⟨h1, h2, ⟨e1, e2⟩, by rw [e3, h2], by rw [e4, h2], hz _ b1, hz _ b2⟩, h4, h5⟩
theorem CasF.cap {P : Pos} {c : Cas} (h : CasF P c) : capW P ⟨c.fr, c.tg, 0⟩ = (-1, 0) := by
 rw [cap_gx]
 have : capK P.F (gx P.xs c.fr) P.pa c.fr c.tg = c.tg := by
  unfold capK
  rw [if_neg]
  rw [h.king]
  rintro ⟨h1, _⟩
  revert h1
  cases P.bl <;> decide
 rw [this, h.tg]; rfl
theorem brd_cas {P : Pos} {c : Cas} (h : CasF P c) (hlen : P.xs.length = 64) : (brdW P ⟨c.fr, c.tg, 0⟩ (some c)).length = 64 ∧ ∀ k, gx (brdW P ⟨c.fr, c.tg, 0⟩ (some c)) k = if c.co = k then 0 else if c.cr = k then gx P.xs c.co else if c.tg = k then gx P.xs c.fr else if c.fr = k then 0 else gx P.xs k := by
 obtain ⟨⟨n1, n2, n3, n4, n5, n6⟩, l1, l2, l3, l4⟩ := cas_ne c h.mem
 have e : brdW P ⟨c.fr, c.tg, 0⟩ (some c) = (((P.xs.set c.fr 0).set c.tg (gx P.xs c.fr)).set c.cr (gx ((P.xs.set c.fr 0).set c.tg (gx P.xs c.fr)) c.co)).set c.co 0 := by
  unfold brdW
  rw [h.cap]
  rfl
 rw [e]
 refine ⟨by simp [hlen], fun k => ?_⟩
 rw [gx_set _ (by simp [hlen]; omega), gx_set _ (by simp [hlen]; omega), gx_set _ (by simp [hlen]; omega), gx_set _ (by omega), gx_set _ (by simp [hlen]; omega), gx_set _ (by omega), if_neg n4, if_neg n2]
theorem undo_cas {P : Pos} {c : Cas} (h : CasF P c) (hlen : P.xs.length = 64) : befW (aftW P ⟨c.fr, c.tg, 0⟩ (some c)) (retW P ⟨c.fr, c.tg, 0⟩) = { P with ha := max 0 ((aftW P ⟨c.fr, c.tg, 0⟩ (some c)).ha - 1) } := by
 refine bef_xs rfl rfl rfl rfl rfl rfl ?_
 obtain ⟨⟨n1, n2, n3, n4, n5, n6⟩, l1, l2, l3, l4⟩ := cas_ne c h.mem
 obtain ⟨hl, hx⟩ := brd_cas h hlen
 have hown : (aftW P ⟨c.fr, c.tg, 0⟩ (some c)).at_ (c.tg : Int) = gx P.xs c.fr := by
  show gx (brdW P ⟨c.fr, c.tg, 0⟩ (some c)) c.tg = _
  rw [hx, if_neg (fun h => n4 h.symm), if_neg (fun h => n5 h.symm), if_pos rfl]
 have eq0 : (befW (aftW P ⟨c.fr, c.tg, 0⟩ (some c)) (retW P ⟨c.fr, c.tg, 0⟩)).xs = (let x1 := ((brdW P ⟨c.fr, c.tg, 0⟩ (some c)).set c.tg 0).set c.fr (gx P.xs c.fr); let x2 := casL.foldl (fun x d => if P.F = 8 ∧ P.R = 8 ∧ gx P.xs c.fr = pcI 6 (!!P.bl) ∧ d.bl = (!!P.bl) ∧ (d.fr : Int) = c.fr ∧ (d.tg : Int) = c.tg then (x.set d.co (x[d.cr]?.getD 0)).set d.cr 0 else x) x1; if 0 ≤ (-1 : Int) ∧ (-1 : Int) < x2.length then x2.set (-1 : Int).toNat 0 else x2) := by
  rw [← hown]
  unfold befW retW
  rw [h.cap]
  rfl
 rw [eq0]
 simp only
 rw [fold_cas h.mem h.h8 (by rw [h.king, Bool.not_not]) (by rw [h.bl, Bool.not_not]), if_neg (by omega)]
 clear eq0 hown
 generalize brdW P ⟨c.fr, c.tg, 0⟩ (some c) = Y at hl hx
 refine gx_ext (by simp [hl, hlen]) fun k => ?_
 show gx ((((Y.set c.tg 0).set c.fr (gx P.xs c.fr)).set c.co (gx ((Y.set c.tg 0).set c.fr (gx P.xs c.fr)) c.cr)).set c.cr 0) k = gx P.xs k
 rw [gx_set _ (by simp [hl]; omega), gx_set _ (by simp [hl]; omega), gx_set _ (by simp [hl]; omega), gx_set _ (by omega), gx_set _ (by simp [hl]; omega), gx_set _ (by omega), hx, hx, if_neg n3, if_neg n5, if_neg n6, if_pos rfl]
 by_cases k1 : c.cr = k
 ·rw [if_pos k1, ← k1, h.cr]
 rw [if_neg k1]
 by_cases k2 : c.co = k
 ·rw [if_pos k2, k2]
 rw [if_neg k2]
 by_cases k3 : c.fr = k
 ·rw [if_pos k3, k3]
 rw [if_neg k3]
 by_cases k4 : c.tg = k
 ·rw [if_pos k4, ← k4, h.tg]
 rw [if_neg k4, if_neg k2, if_neg k1, if_neg k4, if_neg k3]
inductive HowM (P : Pos) (a b : Nat) (pr : Int) : Option Cas → Prop
 | go (h : GoS P a b pr) (hc : CapS P a b (capW P ⟨a, b, pr⟩).1 (capW P ⟨a, b, pr⟩).2) : HowM P a b pr none
 | cas (c : Cas) (h : CasF P c) (ha : c.fr = a) (hb : c.tg = b) (hp : pr = 0) : HowM P a b pr (some c)
theorem mv_nat {F R : Nat} {m : Mv} (h : mvB F R m = true) : ∃ (a b : Nat) (pr : Int), m = ⟨a, b, pr⟩ ∧ a < F * R ∧ b < F * R ∧ a ≠ b ∧ (pr = 0 ∨ (2 ≤ pr ∧ pr ≤ 5)) := by
 obtain ⟨x, y, pr⟩ := m
 unfold mvB sqB at h
 simp only [Bool.and_eq_true, Bool.or_eq_true, decide_eq_true_eq] at h
 obtain ⟨⟨_, h1, h2⟩, ⟨_, h3, h4⟩, h5, h6⟩ := h
 rw [← Int.natCast_mul] at h2 h4
 exact ⟨x.toNat, y.toNat, pr, by rw [Int.toNat_of_nonneg h1, Int.toNat_of_nonneg h3], by omega, by omega, by omega, h6⟩
theorem how_of {P : Pos} {a b : Nat} {pr : Int} (h0 : 0 ≤ P.ca) (h : CanM P ⟨a, b, pr⟩) : HowM P a b pr (wayW P ⟨a, b, pr⟩) := by
 obtain ⟨h1, h2, h3, _, _⟩ := h
 rw [Bool.and_eq_true] at h1
 obtain ⟨ho, k1, k2, k3, k4, k5, k6, k7⟩ := ok_iff.1 h1.1
 obtain ⟨F, R, eF, eR, hF, hR, hlen, _⟩ := orthB_fact ho
 obtain rfl : F = P.F := by omega
 obtain rfl : R = P.R := by omega
 have hm := h1.2
 unfold mvB sqB at hm
 simp only [Bool.and_eq_true, decide_eq_true_eq] at hm
 have ha : a < P.F * P.R := by have := hm.1.2.2; rw [← Int.natCast_mul] at this; omega
 have hb : b < P.F * P.R := by have := hm.2.1.2.2; rw [← Int.natCast_mul] at this; omega
 simp only [Bool.or_eq_false_iff] at h3
 unfold wayW
 rcases hg : goesW P ⟨a, b, pr⟩ with _ | _
 ·rw [hg] at h3
  have hc2 : (castW P ⟨a, b, pr⟩).2 = true := by
   rcases e : (castW P ⟨a, b, pr⟩).2 with _ | _
   ·rw [e] at h3; simp at h3
   ·rfl
  obtain ⟨c, hc⟩ := cast_some hc2
  rw [hc2, hc]
  obtain ⟨f1, f2, f3⟩ := casF_of k5 h0 (Prod.ext hc hc2)
  rw [hc2] at h3
  have f2 : (c.fr : Int) = a := f2
  have f3 : (c.tg : Int) = b := f3
  exact .cas c f1 (by omega) (by omega) (by simpa using h3.2)
 ·rw [Bool.not_true, Bool.and_false]
  have hs := goes_shape ho hF hR hlen ha hb h2 hg
  exact .go hs (cap_shape k6 hlen hs)
theorem len64 {P : Pos} {c : Cas} (h : CasF P c) (hlen : P.xs.length = P.F * P.R) : P.xs.length = 64 := by rw [hlen, h.h8.1, h.h8.2]
theorem undo_any {P : Pos} {a b : Nat} {pr : Int} {way : Option Cas} (hlen : P.xs.length = P.F * P.R) (ha : a < P.F * P.R) (hb : b < P.F * P.R) (hab : a ≠ b) (h : HowM P a b pr way) : befW (aftW P ⟨a, b, pr⟩ way) (retW P ⟨a, b, pr⟩) = { P with ha := max 0 ((aftW P ⟨a, b, pr⟩ way).ha - 1) } := by
 cases h with
 | go h hc => exact undo_none hab hc h (by omega) (by omega)
 | cas c h h1 h2 h3 => subst h1 h2 h3; exact undo_cas h (len64 h hlen)
theorem half_bd {P : Pos} {m : Mv} {way : Option Cas} : ((aftW P m way).ha = 0 ∧ ∀ t, (aftW { P with ha := t } m way) = aftW P m way) ∨ (aftW P m way).ha = P.ha + 1 := by
 by_cases hc : kindI (P.at_ m.fr) = 1 ∨ (capW P m).2 ≠ 0
 ·have e : ∀ t, (aftW { P with ha := t } m way).ha = 0 := fun t => if_pos hc
  refine .inl ⟨if_pos hc, fun t => ?_⟩
  have e1 : aftW { P with ha := t } m way = { aftW P m way with ha := (aftW { P with ha := t } m way).ha } := rfl
  rw [e1, e t, ← (show (aftW P m way).ha = 0 from if_pos hc)]
 ·exact .inr (if_neg hc)
theorem can_half {P : Pos} {m : Mv} (h : CanM P m) (he : ∀ t, aftW { P with ha := t } m (wayW P m) = aftW P m (wayW P m)) : CanM { P with ha := 0 } m := by
 obtain ⟨h1, h2, h3, h4, h5⟩ := h
 rw [Bool.and_eq_true] at h1
 obtain ⟨ho, k1, k2, k3, k4, k5, k6, k7⟩ := ok_iff.1 h1.1
 refine ⟨?_, h2, h3, h4, ?_⟩
 ·rw [Bool.and_eq_true]
  refine ⟨ok_iff.2 ⟨ho, k1, k2, k3, k4, k5, ?_, ?_⟩, h1.2⟩
  ·unfold passB at k6 ⊢
   simp only [Bool.or_eq_true, Bool.and_eq_true] at k6 ⊢
   rcases k6 with k | k
   ·exact .inl k
   ·exact .inr ⟨k.1, rfl, k.2.2⟩
  ·unfold cntB at k7 ⊢
   simp only [Bool.and_eq_true, decide_eq_true_eq] at k7 ⊢
   exact ⟨by omega, by omega, k7.2.2⟩
 ·have e : wayW { P with ha := 0 } m = wayW P m := rfl
  rw [e, he]
  exact h5
theorem back_may {P : Pos} {a b : Nat} {pr : Int} {q : Pos} {u : Und} (h0 : 0 ≤ P.ca) (h : mkW P ⟨a, b, pr⟩ = .ok (q, u)) : mayW q (retW P ⟨a, b, pr⟩) = true ∧ befW q (retW P ⟨a, b, pr⟩) = { P with ha := max 0 (q.ha - 1) } ∧ (q.ha = 0 ∨ q.ha = P.ha + 1) ∧ 0 ≤ P.ha := by
 obtain ⟨hC, rfl, rfl⟩ := mk_iff.1 h
 have hH := how_of h0 hC
 obtain ⟨h1, _⟩ := hC
 rw [Bool.and_eq_true] at h1
 obtain ⟨ho, k1, k2, k3, k4, k5, k6, k7⟩ := ok_iff.1 h1.1
 obtain ⟨F, R, eF, eR, hF, hR, hlen, _⟩ := orthB_fact ho
 obtain rfl : F = P.F := by omega
 obtain rfl : R = P.R := by omega
 obtain ⟨a', b', pr', e, ha, hb, hab, _⟩ := mv_nat h1.2
 injection e with e1 e2 e3
 obtain rfl : a = a' := by omega
 obtain rfl : b = b' := by omega
 have hu := undo_any hlen ha hb hab hH
 have hha : 0 ≤ P.ha := by unfold cntB at k7; simp only [Bool.and_eq_true, decide_eq_true_eq] at k7; exact k7.1
 have hhf := half_bd (m := ⟨a, b, pr⟩) (P := P) (way := wayW P ⟨a, b, pr⟩)
 refine ⟨?_, hu, hhf.imp (fun h => h.1) id, hha⟩
 have hmk : ∀ t, t = max 0 ((aftW P ⟨a, b, pr⟩ (wayW P ⟨a, b, pr⟩)).ha - 1) → mkW { P with ha := t } ⟨a, b, pr⟩ = .ok (aftW P ⟨a, b, pr⟩ (wayW P ⟨a, b, pr⟩), undW { P with ha := t } ⟨a, b, pr⟩) := by
  rintro t rfl
  rcases hhf with ⟨e1, e2⟩ | e1
  ·rw [e1]
   exact mk_iff.2 ⟨can_half (mk_iff.1 h).1 e2, (e2 _).symm, rfl⟩
  ·rw [e1, show max 0 (P.ha + 1 - 1) = P.ha by omega]
   exact h
 unfold mayW
 rw [hu]
 show (match mkW { P with ha := max 0 ((aftW P ⟨a, b, pr⟩ (wayW P ⟨a, b, pr⟩)).ha - 1) } ⟨a, b, pr⟩ with | .ok (q, u) => decide (q = aftW P ⟨a, b, pr⟩ (wayW P ⟨a, b, pr⟩)) && (decide (u.cp = (capW P ⟨a, b, pr⟩).2) && decide (u.at_ = (capW P ⟨a, b, pr⟩).1)) | .error _ => false) = true
 rw [hmk _ rfl]
 simp only [decide_true, Bool.true_and, Bool.and_eq_true, decide_eq_true_eq]
 exact ⟨rfl, rfl⟩
def Chg (P : Pos) (way : Option Cas) (t : Int) (Y : List Int) (k : Nat) : Prop :=
 gx Y k = gx P.xs k ∨ (gx Y k = 0 ∧ gx P.xs k = pcI 1 (!P.bl) ∧ (k : Int) = t) ∨
 ∃ c, way = some c ∧ c ∈ casL ∧ ((k = c.co ∧ gx Y k = 0 ∧ gx P.xs k = pcI 4 P.bl) ∨ (k = c.cr ∧ gx Y k = pcI 4 P.bl ∧ gx P.xs k = 0))
theorem brd_any {P : Pos} {a b : Nat} {pr : Int} {way : Option Cas} (hlen : P.xs.length = P.F * P.R) (ha : a < P.F * P.R) (hb : b < P.F * P.R) (hab : a ≠ b) (h : HowM P a b pr way) :
  (brdW P ⟨a, b, pr⟩ way).length = P.xs.length ∧ gx (brdW P ⟨a, b, pr⟩ way) a = 0 ∧ gx (brdW P ⟨a, b, pr⟩ way) b = newX P a pr ∧ (∀ k, k ≠ a → k ≠ b → Chg P way (capW P ⟨a, b, pr⟩).1 (brdW P ⟨a, b, pr⟩ way) k) ∧ ∀ k : Nat, k ≠ b → (k : Int) = (capW P ⟨a, b, pr⟩).1 → gx (brdW P ⟨a, b, pr⟩ way) k = 0 := by
 cases h with
 | go h hc =>
  generalize hte : (capW P ⟨a, b, pr⟩).1 = t at hc
  generalize hce : (capW P ⟨a, b, pr⟩).2 = cp at hc
  obtain ⟨hl, hx⟩ := brd_none (pr := pr) (Prod.ext hte hce) hc (by omega) (by omega)
  refine ⟨hl, by rw [hx, if_neg (fun h => hab h.symm), if_pos rfl], by rw [hx, if_pos rfl], fun k k1 k2 => ?_, fun k k1 k2 => by rw [hx, if_neg (fun h => k1 h.symm), if_pos k2, ite_self]⟩
  have hk := hx k
  rw [if_neg (fun h => k2 h.symm), if_neg (fun h => k1 h.symm)] at hk
  by_cases e : (k : Int) = t
  ·rw [if_pos e] at hk
   subst e
   generalize e' : (k : Int) = t at hc
   cases hc with
   | none _ => omega
   | take _ => omega
   | pass e2 _ h2 => obtain rfl : k = e2 := by omega
                     exact .inr (.inl ⟨hk, h2, e'⟩)
  ·rw [if_neg e] at hk
   exact .inl hk
 | cas c h h1 h2 h3 =>
  subst h1 h2 h3
  obtain ⟨⟨n1, n2, n3, n4, n5, n6⟩, l1, l2, l3, l4⟩ := cas_ne c h.mem
  obtain ⟨hl, hx⟩ := brd_cas h (len64 h hlen)
  refine ⟨by rw [hl, len64 h hlen], ?_, ?_, fun k k1 k2 => ?_, fun k _ k2 => by rw [h.cap] at k2; omega⟩
  ·rw [hx, if_neg (fun h => n2 h.symm), if_neg (fun h => n3 h.symm), if_neg (fun h => n1 h.symm), if_pos rfl]
  ·rw [hx, if_neg (fun h => n4 h.symm), if_neg (fun h => n5 h.symm), if_pos rfl]; rfl
  ·have hk := hx k
   by_cases e1 : c.co = k
   ·rw [if_pos e1] at hk
    exact .inr (.inr ⟨c, rfl, h.mem, .inl ⟨e1.symm, hk, by rw [← e1]; exact h.rook⟩⟩)
   ·rw [if_neg e1] at hk
    by_cases e2 : c.cr = k
    ·rw [if_pos e2, h.rook] at hk
     exact .inr (.inr ⟨c, rfl, h.mem, .inr ⟨e2.symm, hk, by rw [← e2]; exact h.cr⟩⟩)
    ·rw [if_neg e2, if_neg (fun h => k2 h.symm), if_neg (fun h => k1 h.symm)] at hk
     exact .inl hk
theorem newX_fact {P : Pos} {a b : Nat} {pr : Int} {way : Option Cas} (ho : orthB P.F P.R P.xs = true) (hw : isW (gx P.xs a) P.bl = true) (hp : pr = 0 ∨ (2 ≤ pr ∧ pr ≤ 5)) (h : HowM P a b pr way) : isW (newX P a pr) P.bl = true ∧ (-6 ≤ newX P a pr ∧ newX P a pr ≤ 6) ∧ (newX P a pr = 6 * sdI P.bl ↔ gx P.xs a = 6 * sdI P.bl) ∧ (kindI (newX P a pr) = 1 → pr = 0 ∧ gx P.xs a = pcI 1 P.bl) := by
 have h6 := orth_6 ho a
 unfold newX
 by_cases e : pr ≠ 0
 ·have hg : gx P.xs a = pcI 1 P.bl := by
   cases h with
   | go h _ => exact h.pr e
   | cas c h _ _ h3 => exact absurd h3 e
  rw [if_pos e, hg]
  unfold isW kindI pcI sdI
  cases P.bl <;> simp <;> omega
 ·rw [if_neg e]
  exact ⟨hw, h6, Iff.rfl, fun hk => ⟨by omega, pawn_pc hw hk⟩⟩
theorem no_king {P : Pos} {a b : Nat} {pr : Int} {way : Option Cas} (ho : orthB P.F P.R P.xs = true) (hF : 3 ≤ P.F ∧ P.F ≤ 8) (hR : 3 ≤ P.R ∧ P.R ≤ 8) (ha : a < P.F * P.R) (hb : b < P.F * P.R) (hw : isW (gx P.xs a) P.bl = true) (hch : chkW P.F P.R P.xs (!P.bl) = 0) {k : Nat} (hk : KG P.xs (!P.bl) k) (h : HowM P a b pr way) : k ≠ b := by
 rintro rfl
 have hc := chk_none (j := a) hch hk (by rw [Bool.not_not]; exact isW_sgn.1 hw)
 have h0 : gx P.xs k ≠ 0 := by rw [hk.1]; exact sd6 _
 cases h with
 | go h _ =>
  have hkb := kind_bd (orth_6 ho a) (isW_ne hw)
  unfold atW at hc
  cases h with
  | piece h1 _ h3 =>
   rw [if_neg h1, reach_eq hF hR ha hb (by omega)] at hc
   exact absurd (h3.symm.trans hc) (by decide)
  | step _ h => exact h0 h
  | two _ h => exact h0 h
  | diag h1 h2 h3 =>
   rw [h1, if_pos (by cases P.bl <;> decide)] at hc
   have l2 := leapW_any (F := P.F) (a := a) (pwnL (decide (pcI 1 P.bl < 0))) hF hb
   rw [show (pwnL (decide (pcI 1 P.bl < 0))).length = 2 from rfl, hc] at l2
   rw [show decide (pcI 1 P.bl < 0) = P.bl by cases P.bl <;> decide] at l2
   simp only [pwnL, List.any_cons, List.any_nil, Bool.or_false, h3] at l2
   rcases h2 with h2 | h2 <;> simp [h2] at l2
 | cas c h _ h2 _ => subst h2; exact h0 h.tg
theorem pc_king (b d : Bool) : pcI 1 b ≠ 6 * sdI d ∧ pcI 4 b ≠ 6 * sdI d := by cases b <;> cases d <;> decide
theorem king_other {P : Pos} {a b k : Nat} {way : Option Cas} {t : Int} {Y : List Int} (hw : isW (gx P.xs a) P.bl = true) (hX : isW (gx Y b) P.bl = true) (hYa : gx Y a = 0) (hY : ∀ j, j ≠ a → j ≠ b → Chg P way t Y j) (hk : KG P.xs (!P.bl) k) (hkb : k ≠ b) : KG Y (!P.bl) k := by
 have hs : ∀ x : Int, isW x P.bl = true → x ≠ 6 * sdI (!P.bl) := by
  intro x h1 h2
  subst h2
  revert h1
  cases P.bl <;> decide
 have h6 := sd6 (!P.bl)
 have hka : k ≠ a := by rintro rfl; exact hs _ hw hk.1
 constructor
 ·rcases hY k hka hkb with h | ⟨_, h, _⟩ | ⟨c, _, _, ⟨_, _, h⟩ | ⟨_, _, h⟩⟩
  ·rw [h]; exact hk.1
  ·rw [hk.1] at h; exact absurd h.symm (pc_king _ _).1
  ·rw [hk.1] at h; exact absurd h.symm (pc_king _ _).2
  ·rw [hk.1] at h; exact absurd h h6
 ·intro j hj
  have hja : j ≠ a := by rintro rfl; rw [hYa] at hj; exact h6 hj.symm
  have hjb : j ≠ b := by rintro rfl; exact hs _ hX hj
  rcases hY j hja hjb with h | ⟨h, _, _⟩ | ⟨c, _, _, ⟨_, h, _⟩ | ⟨_, h, _⟩⟩
  ·exact hk.2 j (by rw [← h]; exact hj)
  ·rw [h] at hj; exact absurd hj.symm h6
  ·rw [h] at hj; exact absurd hj.symm h6
  ·rw [h] at hj; exact absurd hj (pc_king _ _).2
theorem king_own {P : Pos} {a b k : Nat} {way : Option Cas} {t : Int} {Y : List Int} (hX : gx Y b = 6 * sdI P.bl ↔ gx P.xs a = 6 * sdI P.bl) (hb : isW (gx P.xs b) P.bl = false) (hYa : gx Y a = 0) (hY : ∀ j, j ≠ a → j ≠ b → Chg P way t Y j) (hk : KG P.xs P.bl k) : KG Y P.bl (if a = k then b else k) := by
 have h6 := sd6 P.bl
 have hkk : isW (6 * sdI P.bl) P.bl = true := by cases P.bl <;> decide
 have hkb : k ≠ b := by rintro rfl; rw [hk.1, hkk] at hb; cases hb
 have hold : ∀ j, j ≠ b → gx Y j = 6 * sdI P.bl → j = k ∧ j ≠ a := by
  intro j hjb hj
  have hja : j ≠ a := by rintro rfl; rw [hYa] at hj; exact h6 hj.symm
  refine ⟨?_, hja⟩
  rcases hY j hja hjb with h | ⟨h, _, _⟩ | ⟨c, _, _, ⟨_, h, _⟩ | ⟨_, h, _⟩⟩
  ·exact hk.2 j (by rw [← h]; exact hj)
  ·rw [h] at hj; exact absurd hj.symm h6
  ·rw [h] at hj; exact absurd hj.symm h6
  ·rw [h] at hj; exact absurd hj (pc_king _ _).2
 by_cases e : a = k
 ·rw [if_pos e]
  refine ⟨hX.2 (by rw [e]; exact hk.1), fun j hj => ?_⟩
  by_cases hjb : j = b
  ·exact hjb
  ·have := hold j hjb hj
   omega
 ·rw [if_neg e]
  constructor
  ·rcases hY k (fun h => e h.symm) hkb with h | ⟨_, h, _⟩ | ⟨c, _, _, ⟨_, _, h⟩ | ⟨_, _, h⟩⟩
   ·rw [h]; exact hk.1
   ·rw [hk.1] at h; exact absurd h.symm (pc_king _ _).1
   ·rw [hk.1] at h; exact absurd h.symm (pc_king _ _).2
   ·rw [hk.1] at h; exact absurd h h6
  ·intro j hj
   by_cases hjb : j = b
   ·subst hjb
    exact absurd (hk.2 a (hX.1 hj)) e
   ·exact (hold j hjb hj).1
theorem cas_ix : ∀ c ∈ casL, ∃ j, j < 4 ∧ c.bit = 2 ^ j ∧ casL[j]? = some c := by
 intro c hc
 simp only [casL, List.mem_cons, List.not_mem_nil, or_false] at hc
 rcases hc with rfl | rfl | rfl | rfl
 ·exact ⟨0, by decide, rfl, rfl⟩
 ·exact ⟨1, by decide, rfl, rfl⟩
 ·exact ⟨2, by decide, rfl, rfl⟩
 ·exact ⟨3, by decide, rfl, rfl⟩
theorem orK_bit (f : Cas → Bool) : orK f 4 < 16 ∧ ∀ c ∈ casL, ∀ j, c.bit = 2 ^ j → (orK f 4).testBit j = f c := by
 have h : orK f 4 = (if f ⟨8, true, 60, 58, 56, 59⟩ then (if f ⟨4, true, 60, 62, 63, 61⟩ then (if f ⟨2, false, 4, 2, 0, 3⟩ then (if f ⟨1, false, 4, 6, 7, 5⟩ then 0 ||| 1 else 0) ||| 2 else (if f ⟨1, false, 4, 6, 7, 5⟩ then 0 ||| 1 else 0)) ||| 4 else (if f ⟨2, false, 4, 2, 0, 3⟩ then (if f ⟨1, false, 4, 6, 7, 5⟩ then 0 ||| 1 else 0) ||| 2 else (if f ⟨1, false, 4, 6, 7, 5⟩ then 0 ||| 1 else 0))) ||| 8 else (if f ⟨4, true, 60, 62, 63, 61⟩ then (if f ⟨2, false, 4, 2, 0, 3⟩ then (if f ⟨1, false, 4, 6, 7, 5⟩ then 0 ||| 1 else 0) ||| 2 else (if f ⟨1, false, 4, 6, 7, 5⟩ then 0 ||| 1 else 0)) ||| 4 else (if f ⟨2, false, 4, 2, 0, 3⟩ then (if f ⟨1, false, 4, 6, 7, 5⟩ then 0 ||| 1 else 0) ||| 2 else (if f ⟨1, false, 4, 6, 7, 5⟩ then 0 ||| 1 else 0)))) := rfl
 have hj : ∀ (c : Cas), c ∈ casL → ∀ j, c.bit = 2 ^ j → (c = ⟨1, false, 4, 6, 7, 5⟩ ∧ j = 0) ∨ (c = ⟨2, false, 4, 2, 0, 3⟩ ∧ j = 1) ∨ (c = ⟨4, true, 60, 62, 63, 61⟩ ∧ j = 2) ∨ (c = ⟨8, true, 60, 58, 56, 59⟩ ∧ j = 3) := by
  intro c hc j hb
  obtain ⟨i, hi, h1, h2⟩ := cas_ix c hc
  have e : j = i := (Nat.pow_right_inj (a := 2) (by decide)).1 (hb.symm.trans h1)
  subst e
  rcases (by omega : j = 0 ∨ j = 1 ∨ j = 2 ∨ j = 3) with rfl | rfl | rfl | rfl
  ·exact .inl ⟨(Option.some.inj h2).symm, rfl⟩
  ·exact .inr (.inl ⟨(Option.some.inj h2).symm, rfl⟩)
  ·exact .inr (.inr (.inl ⟨(Option.some.inj h2).symm, rfl⟩))
  ·exact .inr (.inr (.inr ⟨(Option.some.inj h2).symm, rfl⟩))
 rw [h]
 generalize hc0 : f ⟨1, false, 4, 6, 7, 5⟩ = f0
 generalize hc1 : f ⟨2, false, 4, 2, 0, 3⟩ = f1
 generalize hc2 : f ⟨4, true, 60, 62, 63, 61⟩ = f2
 generalize hc3 : f ⟨8, true, 60, 58, 56, 59⟩ = f3
 refine ⟨by cases f0 <;> cases f1 <;> cases f2 <;> cases f3 <;> decide, fun c hc j hb => ?_⟩
 rcases hj c hc j hb with ⟨rfl, rfl⟩ | ⟨rfl, rfl⟩ | ⟨rfl, rfl⟩ | ⟨rfl, rfl⟩
 ·rw [hc0]; cases f0 <;> cases f1 <;> cases f2 <;> cases f3 <;> rfl
 ·rw [hc1]; cases f0 <;> cases f1 <;> cases f2 <;> cases f3 <;> rfl
 ·rw [hc2]; cases f0 <;> cases f1 <;> cases f2 <;> cases f3 <;> rfl
 ·rw [hc3]; cases f0 <;> cases f1 <;> cases f2 <;> cases f3 <;> rfl
theorem and_pow (n j : Nat) : n &&& 2 ^ j ≠ 0 ↔ n.testBit j = true := by
 constructor
 ·intro h
  rcases e : n.testBit j with _ | _
  ·refine absurd (Nat.eq_of_testBit_eq fun i => ?_) h
   rw [Nat.testBit_and, Nat.testBit_two_pow, Nat.zero_testBit]
   by_cases hi : j = i
   ·subst hi; rw [e]; rfl
   ·simp [hi]
  ·rfl
 ·intro h h0
  have := congrArg (·.testBit j) h0
  simp [Nat.testBit_and, h] at this
theorem clr_bit {n l j : Nat} (hl : l < 16) (hj : j < 8) : (clrN n l).testBit j = (n.testBit j && !l.testBit j) := by
 unfold clrN
 rw [Nat.testBit_and, show 255 - l = 2 ^ 8 - (l + 1) by omega, Nat.testBit_two_pow_sub_succ (by omega)]
 simp [hj]
theorem clr_le {n l : Nat} (hn : n ≤ 15) : clrN n l ≤ 15 := by unfold clrN; exact Nat.le_trans Nat.and_le_left hn
theorem right_after {n a b : Nat} {c : Cas} (hc : c ∈ casL) (h : clrN n (lostW a ||| lostW b) &&& c.bit ≠ 0) : n &&& c.bit ≠ 0 ∧ c.fr ≠ a ∧ c.co ≠ a ∧ c.fr ≠ b ∧ c.co ≠ b := by
 obtain ⟨j, hj, hb, _⟩ := cas_ix c hc
 obtain ⟨ha1, ha2⟩ := orK_bit (fun c => decide ((c.fr : Int) = a) || decide ((c.co : Int) = a))
 obtain ⟨hb1, hb2⟩ := orK_bit (fun c => decide ((c.fr : Int) = b) || decide ((c.co : Int) = b))
 have h1 := ha2 c hc j hb
 have h2 := hb2 c hc j hb
 rw [hb, and_pow] at h ⊢
 unfold lostW at h
 rw [clr_bit (Nat.or_lt_two_pow (n := 4) ha1 hb1) (by omega), Nat.testBit_or, h1, h2] at h
 simp only [Bool.and_eq_true, Bool.not_eq_true', Bool.or_eq_false_iff, decide_eq_false_iff_not] at h
 exact ⟨h.1, by omega, by omega, by omega, by omega⟩
theorem co_inj : ∀ c ∈ casL, ∀ d ∈ casL, c.co = d.co → c.fr = d.fr := by decide
theorem co_fr : ∀ c ∈ casL, ∀ d ∈ casL, c.co ≠ d.fr ∧ c.cr ≠ d.fr ∧ c.cr ≠ d.co := by decide
theorem pc_cas (b d : Bool) : pcI 6 b ≠ pcI 1 d ∧ pcI 6 b ≠ pcI 4 d ∧ pcI 6 b ≠ 0 ∧ pcI 4 b ≠ pcI 1 d ∧ pcI 4 b ≠ 0 := by cases b <;> cases d <;> decide
theorem cst_after {P : Pos} {a b : Nat} {pr : Int} {way : Option Cas} {t : Int} {Y : List Int} {can : Nat} (hcst : cstB P.F P.R P.xs can = true) (hY : ∀ j, j ≠ a → j ≠ b → Chg P way t Y j) (h : HowM P a b pr way) : cstB P.F P.R Y (clrN can (lostW a ||| lostW b) : Nat) = true := by
 obtain ⟨h1, h2⟩ := cst_iff.1 hcst
 refine cst_iff.2 ⟨clr_le h1, fun c hc hb => ?_⟩
 obtain ⟨hb1, n1, n2, n3, n4⟩ := right_after hc hb
 obtain ⟨e1, e2, e3, e4⟩ := h2 c hc hb1
 refine ⟨e1, e2, ?_, ?_⟩
 ·rcases hY c.fr n1 n3 with h | ⟨_, h, _⟩ | ⟨d, _, hd, ⟨h, _, _⟩ | ⟨h, _, _⟩⟩
  ·rw [h, e3]
  ·rw [e3] at h; exact absurd h (pc_cas _ _).1
  ·exact absurd h.symm (co_fr d hd c hc).1
  ·exact absurd h.symm (co_fr d hd c hc).2.1
 ·rcases hY c.co n2 n4 with h9 | ⟨_, h9, _⟩ | ⟨d, hw, hd, ⟨h9, _, _⟩ | ⟨h9, _, _⟩⟩
  ·rw [h9, e4]
  ·rw [e4] at h9; exact absurd h9 (pc_cas c.bl (!P.bl)).2.2.2.1
  ·subst hw
   cases h with
   | cas c' h' ha' => exact absurd ((co_inj c hc _ hd h9).trans ha') n1
  ·exact absurd h9.symm (co_fr d hd c hc).2.2
theorem ab_eq (F : Nat) (a b : Nat) : (b : Int) = a + dF F a b + dR F a b * F := by
 unfold dF dR
 have h1 := Nat.div_add_mod' a F
 have h2 := Nat.div_add_mod' b F
 have h3 : ((a / F * F : Nat) : Int) + ((a % F : Nat) : Int) = a := by rw [← Int.natCast_add, h1]
 have h4 : ((b / F * F : Nat) : Int) + ((b % F : Nat) : Int) = b := by rw [← Int.natCast_add, h2]
 rw [Int.natCast_mul] at h3 h4
 rw [Int.sub_mul]
 omega
theorem two_of {P : Pos} {a b : Nat} {pr : Int} {way : Option Cas} (hF : 3 ≤ P.F ∧ P.F ≤ 8) (h : HowM P a b pr way) (hk : kindI (gx P.xs a) = 1) (hu : (b : Int) - a = 2 * P.F ∨ (b : Int) - a = -(2 * P.F)) : gx P.xs a = pcI 1 P.bl ∧ way = none ∧ dF P.F a b = 0 ∧ dR P.F a b = 2 * sdI P.bl ∧ 6 ≤ P.R ∧ (((a / P.F : Nat) : Int) = if P.bl then (P.R : Int) - 2 else 1) ∧ (∃ c, c < P.F * P.R ∧ dF P.F a c = 0 ∧ dR P.F a c = sdI P.bl ∧ gx P.xs c = 0) ∧ (pr ≠ 0 ↔ ((b / P.F : Nat) : Int) = lastI P.R P.bl) := by
 have hab := ab_eq P.F a b
 have hs : sdI P.bl = 1 ∨ sdI P.bl = -1 := by cases P.bl <;> decide
 cases h with
 | cas c h h1 _ _ =>
  rw [← h1, h.king] at hk
  exact absurd hk (by cases P.bl <;> decide)
 | go h _ =>
  cases h with
  | piece h => exact absurd hk h
  | step h _ hd hr =>
   rw [hd, hr] at hab
   rcases hs with hs | hs <;> rw [hs] at hab <;> omega
  | two h _ hd hr h6 hs c hc hl => exact ⟨h, rfl, hd, hr, h6, hs, ⟨c, hc⟩, hl⟩
  | diag h hd hr =>
   rw [hr] at hab
   rcases hs with hs | hs <;> rw [hs] at hab <;> rcases hd with hd | hd <;> rw [hd] at hab <;> omega
end Go.Proofs.YtefmplccbkmalaaGreatDoor
