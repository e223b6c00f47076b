import Derived.Test.YtefmplccbkmalaaGreatDoorF10
set_option maxHeartbeats 12800000
namespace Go.Proofs.YtefmplccbkmalaaGreatDoor
open Go.RowKit

section ops
variable {P : Program} {o : Oper} {a : Act} {w : World} {K : Act → World → Prop} {Q : Exit → Act → World → Prop} {t : Nat → Option Bool} {X : Prop}
theorem st_call4 (hg : o.guard = none) (fid : Nat) (x1 x2 x3 x4 : Operand) (ts : Array TypeId) (ho : o.op = .call { callee := .value (.func fid), args := #[x1, x2, x3, x4], argTypes := ts }) {v1 v2 v3 v4 : Value} (h1 : a.eval x1 = v1) (h2 : a.eval x2 = v2) (h3 : a.eval x3 = v3) (h4 : a.eval x4 = v4)
  (he : ∀ args w, (callFunc fid args).run P w = .ok (.enter fid args) w) {R : Ending → World → Prop} (hc : Calls P fid #[v1, v2, v3, v4] w R) (hret : ∀ u w', R (.returned u) w' → K (a.put o.dst u) w') (hpan : ∀ ch w', R (.panicked ch) w' → Q (.panic ch) a w') (hout : ∀ w', ¬ R .outgrown w') :
  if Region.wanted o t = true then o.wp P a w K Q else X := by
 refine st_wp hg ?_
 have hr : (execOp a.eval o).run P w = .ok (.enter fid #[v1, v2, v3, v4]) w := by
  have hf : a.eval (.func fid) = .func (.func fid) #[] #[] := rfl
  unfold execOp
  simp [ho, resolve, hf, h1, h2, h3, h4, Deferred.ofValue, invoke, he]
 unfold Oper.wp
 rw [hr, Oper.upon_enter]
 refine hc.mono ?_
 intro e w' h
 cases e with
 | returned u => exact hret u w' h
 | panicked ch => exact hpan ch w' h
 | outgrown => exact absurd h (hout w')
theorem st_call5 (hg : o.guard = none) (fid : Nat) (x1 x2 x3 x4 x5 : Operand) (ts : Array TypeId) (ho : o.op = .call { callee := .value (.func fid), args := #[x1, x2, x3, x4, x5], argTypes := ts }) {v1 v2 v3 v4 v5 : Value} (h1 : a.eval x1 = v1) (h2 : a.eval x2 = v2) (h3 : a.eval x3 = v3) (h4 : a.eval x4 = v4) (h5 : a.eval x5 = v5)
  (he : ∀ args w, (callFunc fid args).run P w = .ok (.enter fid args) w) {R : Ending → World → Prop} (hc : Calls P fid #[v1, v2, v3, v4, v5] w R) (hret : ∀ u w', R (.returned u) w' → K (a.put o.dst u) w') (hpan : ∀ ch w', R (.panicked ch) w' → Q (.panic ch) a w') (hout : ∀ w', ¬ R .outgrown w') :
  if Region.wanted o t = true then o.wp P a w K Q else X := by
 refine st_wp hg ?_
 have hr : (execOp a.eval o).run P w = .ok (.enter fid #[v1, v2, v3, v4, v5]) w := by
  have hf : a.eval (.func fid) = .func (.func fid) #[] #[] := rfl
  unfold execOp
  simp [ho, resolve, hf, h1, h2, h3, h4, h5, Deferred.ofValue, invoke, he]
 unfold Oper.wp
 rw [hr, Oper.upon_enter]
 refine hc.mono ?_
 intro e w' h
 cases e with
 | returned u => exact hret u w' h
 | panicked ch => exact hpan ch w' h
 | outgrown => exact absurd h (hout w')
end ops
theorem bin_neqE {x y : Int} {d : Bool} {W : World} (h : (x != y) = d) : (binOp .neq 3 (.int .i64 x) (.int .i64 y)).run Tryz.prog W = .ok (.bool d) W := by rw [bin_neq, h]
def attB (F R : Nat) (xs : List Int) (a b oc : Nat) : Bool :=
 if kindI (xs[a]?.getD 0) = 1 then elI (pawnL F (decide (xs[a]?.getD 0 < 0)) a (F * R)) b else !decide (a = b) && reachB F R (kindI (xs[a]?.getD 0)) a b oc
theorem pOk_bd {x : Int} (h : pOk x = true) : -15 ≤ x ∧ x ≤ 15 := by
 unfold pOk at h; simp at h; exact h
set_option maxRecDepth 100000 in
theorem refAttacks_any (F R : Nat) (p : Option Addr) (c : Nat) (xs : List Int) (a b oc : Nat) (hF : 3 ≤ F ∧ F ≤ 8) (hR : 3 ≤ R ∧ R ≤ 8) (hlen : xs.length = F * R) (ha : a < F * R) (hb : b < F * R) (hok : ∀ x ∈ xs, pOk x = true) (w : World) (hx : Arr .i8 w p xs) :
  Calls Tryz.prog 160 #[.agg (bdCs F R p xs.length c).toArray, .int .i64 a, .int .i64 b, .int .u64 (oc : Nat)] w fun e w' => e = .returned (.bool (attB F R xs a b oc)) ∧ Below w.heap.size w w' := by
 have hA := HasO.new w (.cells (bdCs F R p xs.length c).toArray 68)
 have hB := below_box w (.cells (bdCs F R p xs.length c).toArray 68)
 have hlt : a < xs.length := by omega
 have hii : (a : Int) < xs.length := by omega
 obtain ⟨g, o, rfl, hgl, hcc⟩ := (hx.call hB).at hlt
 have hcx := hcc a hlt
 obtain ⟨x, hxv⟩ : ∃ x, x = xs[a]?.getD 0 := ⟨_, rfl⟩
 have hxk : pOk x = true := by
  rw [hxv, List.getElem?_eq_getElem hlt]; exact hok _ (List.getElem_mem hlt)
 have hxb := pOk_bd hxk
 obtain ⟨V, hV⟩ : ∃ V, V = attB F R xs a b oc := ⟨_, rfl⟩
 have hVV : V = if kindI x = 1 then elI (pawnL F (decide (x < 0)) a (F * R)) b else !decide (a = b) && reachB F R (kindI x) a b oc := by rw [hV, hxv]; rfl
 rw [← hV]
 rw [← hxv] at hcx
 clear hV hxv hcc hok hxk
 have hpl := pawnL_len F (decide (x < 0)) a (F * R)
 have hFR : F * R ≤ 64 := Nat.mul_le_mul hF.2 hR.2
 have hpw := fun W => refPawn_any F R (decide (x < 0)) a hF hR ha W
 have hre := fun W => refReaches_any F R (kindI x) a b oc hF hR ha hb W
 generalize pawnL F (decide (x < 0)) a (F * R) = L at hpl hpw hVV
 generalize reachB F R (kindI x) a b oc = rb at hre hVV
 have hc0 := hA.cells
 have hl0 := hA.lt
 replace hVV := Lib.hid hVV
 replace hlen := Lib.hid hlen
 have hkx := refKind_any x ⟨by omega, by omega⟩
 obtain ⟨kx, hk⟩ : ∃ k, k = kindI x := ⟨_, rfl⟩
 rw [← hk] at hkx hVV hre
 go_enter Tryz.func160, Tryz.ntmps160
 go_wp2_with fail
 refine (hkx _).mono ?_
 rintro e w' ⟨rfl, rfl⟩
 by_cases h1 : kx = 1
 ·have e0 : Hid (V = elI L b) := Lib.hid (by rw [hVV.out, if_pos h1])
  have c1 : (kx == 1) = true := by simp [h1]
  replace h1 := Lib.hid h1
  replace hk := Lib.hid hk
  go_wp2_with fail
  refine (hpw _).mono ?_
  rintro e w2 ⟨⟨v, rfl, hown⟩, hb2⟩
  have hB2 := below_call hB hB.size hb2
  obtain ⟨p1, c1', rfl, _, hArr⟩ := own_arr hown
  clear hb2 hown hc0 hl0 hA hpw hre
  go_wp2_with fail
  refine (refHasL_any p1 c1' L b w2 hArr (by omega)).mono ?_
  rintro e w3 ⟨rfl, hb3⟩
  go_wp2_with fail
  go_ret
  exact ⟨by rw [e0.out]; rfl, below_call hB2 hB2.size hb3⟩
 ·have e1 : Hid (V = (!decide (a = b) && rb)) := Lib.hid (by rw [hVV.out, if_neg h1])
  have c1 : (kx == 1) = false := by simp [h1]
  replace h1 := Lib.hid h1
  replace hk := Lib.hid hk
  go_wp2_with fail
  show Code.wp _ _ _ _ (w.alloc (.cells (bdCs F R (some ⟨g, o, none⟩) xs.length c).toArray 68))
  obtain ⟨w1, hw1⟩ : ∃ x, x = w.alloc (.cells (bdCs F R (some ⟨g, o, none⟩) xs.length c).toArray 68) := ⟨_, rfl⟩
  rw [← hw1] at hA hB ⊢
  clear hw1 hc0 hl0 hcx hgl
  by_cases hab : a = b
  ·have e2 : Hid (V = false) := Lib.hid (by rw [e1.out]; simp [hab])
   have c2 : ((a : Int) != (b : Int)) = false := by simp [hab]
   replace hab := Lib.hid hab
   refine wp_region_vl (by kernel_rfl) (by kernel_rfl) [some 26, some 27, some 28, some 29, some 30, some 31, some 32, some 33, some 34, some 35, some 36, some 37, some 38, some 8] (by rfl) (by rfl) w1.heap.size (fun i => match i with | 0 => .int .i64 ((a : Nat) : Int) | 1 => .int .i64 ((b : Nat) : Int) | 2 => .bool false | 3 => .bool false | 12 => .bool false | 13 => .bool false | _ => undef) (fun _ => none) ?hstep ?hend
   case hstep =>
    intro i9 o9 f9 W ho hi hC hf K hK
    have hi : i9 < 14 := hi
    rcases i9 with _ | _ | _ | _ | _ | _ | _ | _ | _ | _ | _ | _ | _ | _ | i9
    ·exact st_move (og ho) (.tmp 1) (oo ho) (rd_out rfl rfl) (kk hK)
    ·exact st_move (og ho) (.tmp 2) (oo ho) (rd_out rfl rfl) (kk hK)
    ·exact st_bin (og ho) .neq 3 3 (.tmp 26) (.tmp 27) (oo ho) (ri 0 (da ho hf 0)) (ri 1 (da ho hf 1)) (gu_i _ _ _ _ _ _ _ _) (bin_neqE c2) (kk hK)
    ·exact st_move (og ho) (.tmp 28) (oo ho) (ri 2 (da ho hf 2)) (kk hK)
    iterate 8 exact skip_gd (uw ho (dg ho hf 3)) (kk hK)
    ·exact st_pickF (og ho) (.tmp 29) (.tmp 37) (.const (.bool false)) (oo ho) (ri 3 (da ho hf 3)) rfl (kk hK)
    ·exact st_assign (og ho) (.tmp 38) (oo ho) (ri 12 (da ho hf 12)) (kk hK)
    ·omega
   case hend =>
    intro f9 W hC hf
    go_wp2_with fail
    refine bodyPost_ret (results_tmp (fn := Tryz.f160) Tryz.results160 _ _ _) (by rw [putL_defers]) ?_
    refine ⟨?_, below_call hB hB.size hC⟩
    rw [slot_in rfl 13 rfl (by simp) (hf 13 (by decide)), e2.out]
    rfl
  ·have e2 : Hid (V = rb) := Lib.hid (by rw [e1.out]; simp [hab])
   have c2 : ((a : Int) != (b : Int)) = true := by simp; omega
   replace hab := Lib.hid hab
   refine wp_region_vl (by kernel_rfl) (by kernel_rfl) [some 26, some 27, some 28, some 29, some 30, some 31, some 32, some 33, some 34, some 35, some 36, some 37, some 38, some 8] (by rfl) (by rfl) w1.heap.size (fun i => match i with | 0 => .int .i64 ((a : Nat) : Int) | 1 => .int .i64 ((b : Nat) : Int) | 2 => .bool true | 3 => .bool true | 4 => .pointer (some ⟨w.heap.size, 0, none⟩) | 5 => .agg [.int .i64 (F : Int), .int .i64 (R : Int)].toArray | 6 => .int .i8 x | 7 => .int .i8 kx | 8 => .int .i64 ((a : Nat) : Int) | 9 => .int .i64 ((b : Nat) : Int) | 10 => .int .u64 (oc : Nat) | 11 => .bool rb | 12 => .bool rb | 13 => .bool rb | _ => undef) (fun _ => none) ?hstep ?hend
   case hstep =>
    intro i9 o9 f9 W ho hi hC hf K hK
    have hi : i9 < 14 := hi
    rcases i9 with _ | _ | _ | _ | _ | _ | _ | _ | _ | _ | _ | _ | _ | _ | i9
    ·exact st_move (og ho) (.tmp 1) (oo ho) (rd_out rfl rfl) (kk hK)
    ·exact st_move (og ho) (.tmp 2) (oo ho) (rd_out rfl rfl) (kk hK)
    ·exact st_bin (og ho) .neq 3 3 (.tmp 26) (.tmp 27) (oo ho) (ri 0 (da ho hf 0)) (ri 1 (da ho hf 1)) (gu_i _ _ _ _ _ _ _ _) (bin_neqE c2) (kk hK)
    ·exact st_move (og ho) (.tmp 28) (oo ho) (ri 2 (da ho hf 2)) (kk hK)
    ·exact gd (wo ho (dg ho hf 3)) (st_field rfl 68 (.tmp 4) 0 (oo ho) (rd_out rfl rfl) (n := 0) (by kernel_rfl) (kk hK))
    ·exact gd (wo ho (dg ho hf 3)) (st_loadA rfl 23 (.tmp 30) (oo ho) (ri 4 (da ho hf 4)) [.int .i64 (F : Int), .int .i64 (R : Int)] (by kernel_rfl) (fun j v hv => by rw [Nat.zero_add, (hA.call hC).cells j]; rcases (by have := (List.getElem?_eq_some_iff.1 hv).1; simp at this; omega : j = 0 ∨ j = 1) with rfl | rfl <;> simpa using hv) (kk hK))
    ·exact gd (wo ho (dg ho hf 3)) (st_move rfl (.tmp 9) (oo ho) (rd_out rfl rfl) (kk hK))
    ·exact gd (wo ho (dg ho hf 3)) (st_call1 rfl 39 (.tmp 32) #[38] (oo ho) (ri 6 (da ho hf 6)) (fun _ _ => rfl) (hkx W) (by rintro u w9 ⟨h9, h10⟩; injection h9 with h9; subst h9; subst h10; exact hK _ _ (Below.refl _ _) rfl) (fun _ _ h => nomatch h.1) (fun _ h => nomatch h.1))
    ·exact gd (wo ho (dg ho hf 3)) (st_move rfl (.tmp 1) (oo ho) (rd_out rfl rfl) (kk hK))
    ·exact gd (wo ho (dg ho hf 3)) (st_move rfl (.tmp 2) (oo ho) (rd_out rfl rfl) (kk hK))
    ·exact gd (wo ho (dg ho hf 3)) (st_move rfl (.tmp 3) (oo ho) (rd_out rfl rfl) (kk hK))
    ·exact gd (wo ho (dg ho hf 3)) (st_call5 rfl 165 (.tmp 31) (.tmp 33) (.tmp 34) (.tmp 35) (.tmp 36) #[23, 38, 3, 3, 64] (oo ho) (ri 5 (da ho hf 5)) (ri 7 (da ho hf 7)) (ri 8 (da ho hf 8)) (ri 9 (da ho hf 9)) (ri 10 (da ho hf 10)) (fun _ _ => rfl) (hre W) (by rintro u w9 ⟨h9, hb9⟩; injection h9 with h9; subst h9; exact hK _ _ hb9 rfl) (fun _ _ h => nomatch h.1) (fun _ h => nomatch h.1))
    ·exact st_pickT (og ho) (.tmp 29) (.tmp 37) (.const (.bool false)) (oo ho) (ri 3 (da ho hf 3)) (ri 11 (da ho hf 11)) (kk hK)
    ·exact st_assign (og ho) (.tmp 38) (oo ho) (ri 12 (da ho hf 12)) (kk hK)
    ·omega
   case hend =>
    intro f9 W hC hf
    go_wp2_with fail
    refine bodyPost_ret (results_tmp (fn := Tryz.f160) Tryz.results160 _ _ _) (by rw [putL_defers]) ?_
    refine ⟨?_, below_call hB hB.size hC⟩
    rw [slot_in rfl 13 rfl (by simp) (hf 13 (by decide)), e2.out]
    rfl
def kgL (xs : List Int) (bl : Bool) : List Int := idxs (· == 6 * sdI bl) xs xs.length
def kgI (xs : List Int) (bl : Bool) : Int := if (kgL xs bl).length = 1 then (kgL xs bl)[0]?.getD 0 else -1
set_option maxRecDepth 100000 in
theorem refKing_any (f r : Int) (bl : Bool) (p : Option Addr) (c : Nat) (xs : List Int) (w : World) (hx : Arr .i8 w p xs) (hl : xs.length ≤ 64) :
  Calls Tryz.prog 37 #[.agg (bdCs f r p xs.length c).toArray, .bool bl] w fun e w' => e = .returned (.int .i64 (kgI xs bl)) ∧ Below w.heap.size w w' := by
 have hB := below_box w (.cells (bdCs f r p xs.length c).toArray 68)
 have hA := HasO.new w (.cells (bdCs f r p xs.length c).toArray 68)
 have hls := fun W h => refList_any f r (6 * sdI bl) p c xs W h hl
 have e1 : idxs (fun z => z == 6 * sdI bl) xs xs.length = kgL xs bl := rfl
 rw [e1] at hls
 have hkl : (kgL xs bl).length ≤ 64 := Nat.le_trans (idxs_len _ _ _) hl
 obtain ⟨V, hV⟩ : ∃ V, V = kgI xs bl := ⟨_, rfl⟩
 have hVV : V = if (kgL xs bl).length = 1 then (kgL xs bl)[0]?.getD 0 else -1 := hV
 rw [← hV]
 generalize kgL xs bl = L at hls hkl hVV
 clear hV e1
 have hwm : IntKind.i64.wrap (6 * sdI bl) = 6 * sdI bl := IntWalk.i64_in _ (by unfold sdI; cases bl <;> simp)
 have hcv : ∀ W, (convert 3 38 (.int .i64 (6 * sdI bl))).run Tryz.prog W = .ok (.int .i8 (6 * sdI bl)) W := by
  intro W; cases bl <;> kernel_rfl
 go_enter Tryz.func37, Tryz.ntmps37
 go_wp2_with fail
 show Code.wp _ _ _ _ (w.alloc (.cells (bdCs f r p xs.length c).toArray 68))
 obtain ⟨w1, hw1⟩ : ∃ x, x = w.alloc (.cells (bdCs f r p xs.length c).toArray 68) := ⟨_, rfl⟩
 have hx1 := hx.call hB
 rw [← hw1] at hA hB hx1 ⊢
 clear hw1 hx
 refine wp_region_vl (by kernel_rfl) (by kernel_rfl) [some 6, some 7, some 8, some 9, some 10, some 11, some 5] (by rfl) (by rfl) w1.heap.size (fun i8 => match i8 with | 0 => .agg (bdCs f r p xs.length c).toArray | 1 => .bool bl | 2 => .int .i64 (sdI bl) | 3 => .int .i64 (6 * sdI bl) | 4 => .int .i8 (6 * sdI bl) | _ => undef) (fun i8 => match i8 with | 5 => some (L) | 6 => some (L) | _ => none) ?hstep ?hend
 case hstep =>
  intro i9 o9 f9 W ho hi hC hf K hK
  have hi : i9 < 7 := hi
  rcases i9 with _ | _ | _ | _ | _ | _ | _ | i9
  ·exact st_loadA (og ho) 68 (.tmp 2) (oo ho) (rd_out rfl rfl) (bdCs f r p xs.length c) (by kernel_rfl) (fun j v hv => by rw [Nat.zero_add, (hA.call hC).cells j]; simpa using hv) (kk hK)
  ·exact st_move (og ho) (.tmp 1) (oo ho) (rd_out rfl rfl) (kk hK)
  ·exact st_call1 (og ho) 99 (.tmp 7) #[4] (oo ho) (ri 1 (da ho hf 1)) (fun _ _ => rfl) (refSd_any bl W) (by rintro u w9 ⟨h9, h10⟩; injection h9 with h9; subst h9; subst h10; exact hK _ _ (Below.refl _ _) rfl) (by rintro ch w9 h9; revert h9; rintro ⟨h9, _⟩; first | (cases h9; done) | (obtain ⟨_, h9, _⟩ := h9; cases h9)) (by rintro w9 h9; revert h9; rintro ⟨h9, _⟩; first | (cases h9; done) | (obtain ⟨_, h9, _⟩ := h9; cases h9))
  ·exact st_bin (og ho) .mul 3 3 (.const (.int .i64 6)) (.tmp 8) (oo ho) rfl (ri 2 (da ho hf 2)) (gu_i _ _ _ _ _ _ _ _) (bin_mulE hwm) (kk hK)
  ·exact st_convert (og ho) 3 38 (.tmp 9) (oo ho) (ri 3 (da ho hf 3)) (hcv W) (kk hK)
  ·exact st_call2 (og ho) 98 (.tmp 6) (.tmp 10) #[68, 38] (oo ho) (ri 0 (da ho hf 0)) (ri 4 (da ho hf 4)) (fun _ _ => rfl) (hls W (hx1.call hC)) (by rintro u w9 ⟨⟨v9, h9, hown9⟩, hb9⟩; injection h9 with h9; subst h9; exact hK _ _ hb9 (own_mono hown9 hC.size)) (by rintro ch w9 h9; revert h9; rintro ⟨h9, _⟩; first | (cases h9; done) | (obtain ⟨_, h9, _⟩ := h9; cases h9)) (by rintro w9 h9; revert h9; rintro ⟨h9, _⟩; first | (cases h9; done) | (obtain ⟨_, h9, _⟩ := h9; cases h9))
  ·exact st_assign (og ho) (.tmp 11) (oo ho) (ri 5 rfl) (hK _ _ (Below.refl _ _) (da ho hf 5))
  ·omega
 case hend =>
  intro f9 W hC hf
  have hown := hf 6 (by decide)
  replace hown : W.ownsRow w1.heap.size 3 1 (f9 6) L.length (L.map (.int .i64)) := hown
  obtain ⟨p1, c1, q1, _, hArr⟩ := own_arr hown
  have hBW := below_call hB hB.size hC
  clear hf hown hA hls
  simp only [putL, Act.put, List.setIfInBounds_toArray, List.set_cons_succ, List.set_cons_zero]
  rw [q1]
  by_cases h1 : L.length = 1
  ·obtain ⟨g, o, rfl, hgl, hcc⟩ := hArr.at (i := 0) (by omega)
   have hc := hcc 0 (by omega)
   have e0 : Hid (V = L[0]?.getD 0) := Lib.hid (by rw [hVV, if_pos h1])
   have c2 : ((L.length : Int) != 1) = false := by simp [h1]
   have c3 : (0 : Int) < (L.length : Int) := by omega
   rw [Nat.add_zero] at hc
   generalize L[0]?.getD 0 = y at hc e0
   replace h1 := Lib.hid h1
   replace hVV := Lib.hid hVV
   clear hcc
   go_wp2_with fail
   go_ret
   exact ⟨by rw [e0.out]; rfl, hBW⟩
  ·have e0 : Hid (V = -1) := Lib.hid (by rw [hVV, if_neg h1])
   have c2 : ((L.length : Int) != 1) = true := by simp; omega
   replace h1 := Lib.hid h1
   replace hVV := Lib.hid hVV
   go_wp2_with fail
   go_ret
   exact ⟨by rw [e0.out]; rfl, hBW⟩
theorem index53 (W : World) (g o N cap k : Nat) (hk : k < N) : (Instr.indexAt 136 (.slice (some ⟨g, o, none⟩) N cap) (.int .i64 k)).run Tryz.prog W = .ok (.pointer (some ⟨g, o + k, none⟩)) W := by
 simp [Instr.indexAt, go_sem, run_underlying Tryz.underlying136, hk]
def atkL (F R : Nat) (xs : List Int) (oc at_ : Nat) (own : List Int) : Nat → List Int
 | 0 => []
 | k + 1 => if attB F R xs (own[k]?.getD 0).toNat at_ oc then atkL F R xs oc at_ own k ++ [own[k]?.getD 0] else atkL F R xs oc at_ own k
theorem atkL_len (F R : Nat) (xs : List Int) (oc at_ : Nat) (own : List Int) (k : Nat) : (atkL F R xs oc at_ own k).length ≤ k := by
 induction k with
 | zero => simp [atkL]
 | succ k ih =>
  simp only [atkL]
  split
  ·simp; omega
  ·omega
def sideL_ (xs : List Int) (bl : Bool) : List Int := idxs (fun z => sgnI z == sdI bl) xs xs.length
def attrL (F R : Nat) (xs : List Int) (at_ : Nat) (bl : Bool) : List Int := atkL F R xs (setW gNon xs xs.length) at_ (sideL_ xs bl) (sideL_ xs bl).length
set_option maxRecDepth 100000 in
theorem refAttackers_any (F R : Nat) (p : Option Addr) (c : Nat) (xs : List Int) (at_ : Nat) (bl : Bool) (hF : 3 ≤ F ∧ F ≤ 8) (hR : 3 ≤ R ∧ R ≤ 8) (hlen : xs.length = F * R) (ha : at_ < F * R) (hok : ∀ x ∈ xs, pOk x = true) (w : World) (hx : Arr .i8 w p xs) :
  Calls Tryz.prog 100 #[.agg (bdCs F R p xs.length c).toArray, .int .i64 at_, .bool bl] w fun e w' => (∃ v, e = .returned v ∧ w'.ownsRow w.heap.size 3 1 v (attrL F R xs at_ bl).length ((attrL F R xs at_ bl).map (.int .i64))) ∧ Below w.heap.size w w' := by
 obtain ⟨i3, hi3, hz3, hs3, hy3⟩ := info_parts Tryz.info3
 have hB := below_box w (.cells (bdCs F R p xs.length c).toArray 68)
 have hA := HasO.new w (.cells (bdCs F R p xs.length c).toArray 68)
 have hl64 : xs.length ≤ 64 := by rw [hlen]; exact Nat.mul_le_mul hF.2 hR.2
 have hat2 := fun a W h hx => refAttacks_any F R p c xs a at_ (setW gNon xs xs.length) hF hR hlen h ha hok W hx
 have hsd := fun W h => refSideL_any F R (sdI bl) p c xs W h hl64
 have hocc := fun W h => refOccupied_any F R p c xs W h hl64
 have e1 : idxs (fun z => sgnI z == sdI bl) xs xs.length = sideL_ xs bl := rfl
 rw [e1] at hsd
 have hsq : ∀ x ∈ sideL_ xs bl, 0 ≤ x ∧ x < F * R := by
  intro x hx
  rw [← e1, idxs_mem] at hx
  obtain ⟨j, hj, _, rfl⟩ := hx
  rw [← Int.natCast_mul, ← hlen]
  omega
 have hsl : (sideL_ xs bl).length ≤ 64 := Nat.le_trans (idxs_len _ _ _) hl64
 have hL : attrL F R xs at_ bl = atkL F R xs (setW gNon xs xs.length) at_ (sideL_ xs bl) (sideL_ xs bl).length := rfl
 rw [hL]
 generalize sideL_ xs bl = O at *
 generalize setW gNon xs xs.length = oc at *
 clear e1 hL
 replace hlen := Lib.hid hlen
 go_enter Tryz.func100, Tryz.ntmps100
 go_wp2_with fail
 show Code.wp _ _ _ _ (w.alloc (.cells (bdCs F R p xs.length c).toArray 68))
 obtain ⟨w1, hw1⟩ : ∃ x, x = w.alloc (.cells (bdCs F R p xs.length c).toArray 68) := ⟨_, rfl⟩
 have hx1 := hx.call hB
 rw [← hw1] at hA hB hx1 ⊢
 clear hw1 hx
 refine wp_region_vl (by kernel_rfl) (by kernel_rfl) [some 11, some 12, some 13, some 14, some 15, some 16, some 8, some 9] (by rfl) (by rfl) w1.heap.size (fun i8 => match i8 with | 0 => .agg (bdCs F R p xs.length c).toArray | 1 => .bool bl | 2 => .int .i64 (sdI bl) | 4 => .agg (bdCs F R p xs.length c).toArray | 5 => .int .u64 (oc : Nat) | 7 => .int .u64 (oc : Nat) | _ => undef) (fun i8 => match i8 with | 3 => some (O) | 6 => some (O) | _ => none) ?hstep ?hend
 case hstep =>
  intro i9 o9 f9 W ho hi hC hf K hK
  have hi : i9 < 8 := hi
  rcases i9 with _ | _ | _ | _ | _ | _ | _ | _ | i9
  ·exact st_loadA (og ho) 68 (.tmp 3) (oo ho) (rd_out rfl rfl) (bdCs F R p xs.length c) (by kernel_rfl) (fun j v hv => by rw [Nat.zero_add, (hA.call hC).cells j]; simpa using hv) (kk hK)
  ·exact st_move (og ho) (.tmp 2) (oo ho) (rd_out rfl rfl) (kk hK)
  ·exact st_call1 (og ho) 99 (.tmp 12) #[4] (oo ho) (ri 1 (da ho hf 1)) (fun _ _ => rfl) (refSd_any bl W) (by rintro u w9 ⟨h9, h10⟩; injection h9 with h9; subst h9; subst h10; exact hK _ _ (Below.refl _ _) rfl) (by rintro ch w9 h9; revert h9; rintro ⟨h9, _⟩; first | (cases h9; done) | (obtain ⟨_, h9, _⟩ := h9; cases h9)) (by rintro w9 h9; revert h9; rintro ⟨h9, _⟩; first | (cases h9; done) | (obtain ⟨_, h9, _⟩ := h9; cases h9))
  ·exact st_call2 (og ho) 158 (.tmp 11) (.tmp 13) #[68, 3] (oo ho) (ri 0 (da ho hf 0)) (ri 2 (da ho hf 2)) (fun _ _ => rfl) (hsd W (hx1.call hC)) (by rintro u w9 ⟨⟨v9, h9, hown9⟩, hb9⟩; injection h9 with h9; subst h9; exact hK _ _ hb9 (own_mono hown9 hC.size)) (by rintro ch w9 h9; revert h9; rintro ⟨h9, _⟩; first | (cases h9; done) | (obtain ⟨_, h9, _⟩ := h9; cases h9)) (by rintro w9 h9; revert h9; rintro ⟨h9, _⟩; first | (cases h9; done) | (obtain ⟨_, h9, _⟩ := h9; cases h9))
  ·exact st_loadA (og ho) 68 (.tmp 3) (oo ho) (rd_out rfl rfl) (bdCs F R p xs.length c) (by kernel_rfl) (fun j v hv => by rw [Nat.zero_add, (hA.call hC).cells j]; simpa using hv) (kk hK)
  ·exact st_call1 (og ho) 159 (.tmp 15) #[68] (oo ho) (ri 4 (da ho hf 4)) (fun _ _ => rfl) (hocc W (hx1.call hC)) (by rintro u w9 ⟨h9, hb9⟩; injection h9 with h9; subst h9; exact hK _ _ hb9 rfl) (by rintro ch w9 h9; revert h9; rintro ⟨h9, _⟩; first | (cases h9; done) | (obtain ⟨_, h9, _⟩ := h9; cases h9)) (by rintro w9 h9; revert h9; rintro ⟨h9, _⟩; first | (cases h9; done) | (obtain ⟨_, h9, _⟩ := h9; cases h9))
  ·exact st_assign (og ho) (.tmp 14) (oo ho) (ri 3 rfl) (hK _ _ (Below.refl _ _) (da ho hf 3))
  ·exact st_assign (og ho) (.tmp 16) (oo ho) (ri 5 (da ho hf 5)) (kk hK)
  ·omega
 case hend =>
  intro f9 W hC hf
  have hown := hf 6 (by decide)
  replace hown : W.ownsRow w1.heap.size 3 1 (f9 6) O.length (O.map (.int .i64)) := hown
  have hv7 : f9 7 = .int .u64 (oc : Nat) := hf 7 (by decide)
  obtain ⟨pO, cO, qO, _, hArr⟩ := own_arr hown
  have hBW := below_call hB hB.size hC
  have hAW := hA.call hC
  have hxW := hx1.call hC
  clear hf hown hA hx1 hsd hocc hB
  simp only [putL, Act.put, List.setIfInBounds_toArray, List.set_cons_succ, List.set_cons_zero]
  rw [qO, hv7]
  clear qO hv7
  generalize f9 0 = u0, f9 1 = u1, f9 2 = u2, f9 3 = u3, f9 4 = u4, f9 5 = u5
  go_wp2_with fail
  go_loopg [7, 10] 65 (fun q lv iv wr => ∃ i : Nat, q + i = 65 ∧ i ≤ O.length ∧ iv = .int .i64 i ∧ wr.ownsRow W.heap.size 3 1 lv (atkL F R xs oc at_ O i).length ((atkL F R xs oc at_ O i).map (.int .i64)) ∧ Below W.heap.size W wr)
  case atStart => exact ⟨0, rfl, Nat.zero_le _, rfl, World.ownsRow_nil _ _ _ _, Below.refl _ _⟩
  case round =>
   obtain ⟨i, hq, hi, rfl, hown, hbr⟩ := hrel
   have hBr := below_call hBW hBW.size hbr
   by_cases hlt : i < O.length
   ·have hii : (i : Int) < O.length := by omega
    obtain ⟨g, o, rfl, hgl, hcc⟩ := (hArr.call hbr).at hlt
    have hci := hcc i hlt
    have hy : O[i]?.getD 0 = O[i] := by simp [hlt]
    have hyq := hsq _ (List.getElem_mem hlt)
    rw [← hy] at hyq
    obtain ⟨y, hyn⟩ : ∃ y : Nat, O[i]?.getD 0 = y := ⟨(O[i]?.getD 0).toNat, by omega⟩
    have hnx : atkL F R xs oc at_ O (i + 1) = if attB F R xs (O[i]?.getD 0).toNat at_ oc then atkL F R xs oc at_ O i ++ [O[i]?.getD 0] else atkL F R xs oc at_ O i := rfl
    rw [hyn, Int.toNat_natCast] at hnx
    rw [hyn] at hci hyq
    have hyFR : y < F * R := by have := hyq.2; rw [← Int.natCast_mul] at this; omega
    have hal := atkL_len F R xs oc at_ O i
    have hAr := hAW.call hbr
    have hxr := hxW.call hbr
    have hat3 := fun W hx => hat2 y W hyFR hx
    clear hcc hy
    replace hyn := Lib.hid hyn
    generalize attB F R xs y at_ oc = hit at hat3 hnx
    go_wp2_with fail
    refine wp_region_vl (by kernel_rfl) (by kernel_rfl) [some 23, some 24, some 25, some 26, some 27, some 28, some 29, some 30] (by rfl) (by rfl) wr.heap.size (fun i8 => match i8 with | 0 => .agg (bdCs F R p xs.length c).toArray | 1 => .slice (some ⟨g, o, none⟩) O.length cO | 2 => .int .i64 ((i : Nat) : Int) | 3 => .pointer (some ⟨g, o + i, none⟩) | 4 => .int .i64 ((y : Nat) : Int) | 5 => .int .i64 ((at_ : Nat) : Int) | 6 => .int .u64 (oc : Nat) | 7 => .bool hit | _ => undef) (fun _ => none) ?hstep ?hend
    case hstep =>
     intro i9 o9 f9 W2 ho hi hC hf K hK
     have hi : i9 < 8 := hi
     rcases i9 with _ | _ | _ | _ | _ | _ | _ | _ | i9
     ·exact st_loadA (og ho) 68 (.tmp 3) (oo ho) (rd_out rfl rfl) (bdCs F R p xs.length c) (by kernel_rfl) (fun j v hv => by rw [Nat.zero_add, (hAr.call hC).cells j]; simpa using hv) (kk hK)
     ·exact st_move (og ho) (.tmp 8) (oo ho) (rd_out rfl rfl) (kk hK)
     ·exact st_move (og ho) (.tmp 10) (oo ho) (rd_out rfl rfl) (kk hK)
     ·exact st_index (og ho) 136 (.tmp 24) (.tmp 25) (oo ho) (ri 1 (da ho hf 1)) (ri 2 (da ho hf 2)) (index53 W2 g o O.length cO i hlt) (kk hK)
     ·exact st_loadS (og ho) 3 (.tmp 26) (oo ho) (ri 3 (da ho hf 3)) (by kernel_rfl) ((hC.cell (p := ⟨g, o + i, none⟩) hgl).trans hci) (kk hK)
     ·exact st_move (og ho) (.tmp 1) (oo ho) (rd_out rfl rfl) (kk hK)
     ·exact st_move (og ho) (.tmp 9) (oo ho) (rd_out rfl rfl) (kk hK)
     ·exact st_call4 (og ho) 160 (.tmp 23) (.tmp 27) (.tmp 28) (.tmp 29) #[68, 3, 3, 64] (oo ho) (ri 0 (da ho hf 0)) (ri 4 (da ho hf 4)) (ri 5 (da ho hf 5)) (ri 6 (da ho hf 6)) (fun _ _ => rfl) (hat3 W2 (hxr.call hC)) (by rintro u w9 ⟨h9, hb9⟩; injection h9 with h9; subst h9; exact hK _ _ hb9 rfl) (fun _ _ h => nomatch h.1) (fun _ h => nomatch h.1)
     ·omega
    case hend =>
     intro f9 W2 hC2 hf
     have hv7 : f9 7 = .bool hit := hf 7 (by decide)
     have hb2 := below_call hbr hbr.size hC2
     have hown2 := own_call hown hC2
     have hBW2 := below_call hBr hBr.size hC2
     have hci2 := (hC2.cell (p := ⟨g, o + i, none⟩) hgl).trans hci
     have hgl2 : g < W2.heap.size := Nat.lt_of_lt_of_le hgl hC2.size
     clear hf hown hAr hxr hat3
     simp only [putL, Act.put, List.setIfInBounds_toArray, List.set_cons_succ, List.set_cons_zero]
     rw [hv7]
     generalize f9 0 = v0, f9 1 = v1, f9 2 = v2, f9 3 = v3, f9 4 = v4, f9 5 = v5, f9 6 = v6
     rcases hit with _ | _
     ·replace hnx := Lib.hid (hnx.trans (if_neg (by simp)))
      go_wp2_with fail
      go_roundg (gk - 1)
      case measure => omega
      case rel => exact ⟨i + 1, by omega, by omega, by go_num, by rw [hnx.out]; exact hown2, hb2⟩
     ·replace hnx := Lib.hid (hnx.trans (if_pos rfl))
      go_wp2_with (at_builtin; refine wpList_push_at rfl (.tmp 31) (.tmp 36) 136 rfl W.heap.size 3 i3 (.int .i64 0) 8 Tryz.underlying136 hi3 hz3 hs3 hy3 rfl _ (atkL F R xs oc at_ O i).length ((atkL F R xs oc at_ O i).map (.int .i64)) rfl hown2 1 [.int .i64 (y : Int)] rfl (by intro u hu; simp at hu; subst hu; rfl) _ rfl rfl (by omega) hb2.size ?_)
      intro v' w9 hown9 hg9 _
      have hb9 := (hb2.alloc hb2.size (.cells #[.int .i64 (y : Int)] 3)).grown hg9 (Nat.le_trans hb2.size (by simp)) (fun j e => (hown2.lt j e).1)
      replace hown9 : w9.ownsRow W.heap.size 3 1 v' (atkL F R xs oc at_ O (i + 1)).length ((atkL F R xs oc at_ O (i + 1)).map (.int .i64)) := by rw [hnx.out]; simpa using hown9
      clear hown2 hg9
      go_wp2_with fail
      go_roundg (gk - 1)
      case measure => omega
      case rel => exact ⟨i + 1, by omega, by omega, by go_num, hown9, hb9⟩
   ·have hii : ¬ (i : Int) < O.length := by omega
    obtain rfl : i = O.length := by omega
    go_wp2_with fail
    go_ret
    exact ⟨⟨_, rfl, own_mono hown hBW.size⟩, hBr⟩
end Go.Proofs.YtefmplccbkmalaaGreatDoor
