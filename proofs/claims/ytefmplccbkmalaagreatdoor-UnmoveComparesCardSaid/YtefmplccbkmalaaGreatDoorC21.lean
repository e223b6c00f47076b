import Derived.Test.YtefmplccbkmalaaGreatDoorC20
import Derived.Deep.CutRange
set_option maxHeartbeats 12800000
namespace Go.Proofs.YtefmplccbkmalaaGreatDoor
open Go.RowKit

theorem wp_region_rel0 {P : Program} {id : Nat} {ops : Array Oper} {Q : Exit → Act → World → Prop} {a : Act} {w : World} (hm : P.follows .mixedOrders = true) (hb : edgesBack .any ops = true)
  (ds : List (Option Tmp)) (hds : ops.toList.map (·.dst) = ds) (hok : dstsOk ds = true)
  (R : (Nat → Bool) → (Nat → Value) → World → Prop) (hcong : ∀ S S' f w, (∀ i, i < ops.size → S i = S' i) → R S f w → R S' f w) (h0 : R (fun _ => false) (tmps0 ds a) w.drew)
  (hstep : ∀ S i o f w, ops[i]? = some o → i < ops.size → S i = false → (∀ e ∈ o.after, Region.binds .any e = true → S e.on = true) →
   (∀ j o', S j = true → ops[j]? = some o' → ∀ e ∈ o'.after, Region.binds .any e = true → S e.on = true) → R S f w →
   ∀ K : Act → World → Prop, (∀ u w', R (upd S i) (fun j => if j = i then u else f j) w' → K ((putL ds f 0 a).put o.dst u) w') →
   if Region.wanted o (yielded ops (putL ds f 0 a).tmps) = true then o.wp P (putL ds f 0 a) w K Q else K ((putL ds f 0 a).put o.dst undef) w)
  (hend : ∀ S f w, (∀ i, i < ops.size → S i = true) → R S f w → Q .normal (putL ds f 0 a) w) : (Code.region id ops true).wp P Q a w := by
 refine wp_region_inv hm hb (fun S a' w => ∃ f, a' = putL ds f 0 a ∧ R S f w ∧
  (∀ j o', S j = true → ops[j]? = some o' → ∀ e ∈ o'.after, Region.binds .any e = true → S e.on = true)) ?_ ⟨tmps0 ds a, (putL_self _ _ _ _ (fun i t h => by simp [tmps0, h]) hok).symm, h0, fun j o' h => (by cases h)⟩ ?_ ?_
 ·rintro S S' a' w hS ⟨f, h1, h2, h4⟩
  refine ⟨f, h1, hcong _ _ _ _ hS h2, fun j o' hj ho e he hbd => ?_⟩
  have hj2 : j < ops.size := (Array.getElem?_eq_some_iff.1 ho).1
  have hb' := hb
  unfold edgesBack at hb'
  rw [List.all_eq_true] at hb'
  have h := hb' j (List.mem_range.2 hj2)
  rw [ho] at h
  simp only [Option.map_some, Option.getD_some] at h
  rw [Array.all_eq_true] at h
  obtain ⟨k, hk, rfl⟩ := Array.getElem_of_mem he
  have h5 := h k hk
  rw [hbd] at h5
  simp only [Bool.not_true, Bool.false_or, decide_eq_true_eq] at h5
  rw [← hS _ (by omega)]
  exact h4 j o' (by rw [hS _ hj2]; exact hj) ho _ he hbd
 ·rintro S a' w i hi hSi hpre ⟨f, rfl, hR, hcl⟩
  refine hstep S i _ f w (Array.getElem?_eq_getElem hi) hi hSi hpre hcl hR _ ?_
  intro u w' hR'
  refine ⟨_, by have := putL_at ds hok f 0 a i _ (dst_at hds hi) u; rw [Nat.zero_add] at this; exact this, hR', fun j o' hj ho e he hbd => ?_⟩
  unfold upd at hj ⊢
  by_cases e2 : e.on = i
  ·simp [e2]
  ·simp only [e2, if_false]
   by_cases e3 : j = i
   ·subst e3
    have : o' = ops[j] := by rw [Array.getElem?_eq_getElem hi] at ho; exact (Option.some.inj ho).symm
    subst this
    exact hpre e he hbd
   ·simp only [e3, if_false] at hj
    exact hcl j o' hj ho e he hbd
 ·rintro S a' w hS ⟨f, rfl, hR, _⟩
  exact hend S f w hS hR

theorem wp_region_old {P : Program} {id : Nat} {ops : Array Oper} {Q : Exit → Act → World → Prop} {a : Act} {w : World} (hm : P.follows .mixedOrders = true) (hb : edgesBack .any ops = true)
  (ds : List (Option Tmp)) (hds : ops.toList.map (·.dst) = ds) (hok : dstsOk ds = true) (vals : Nat → Value)
  (hstep : ∀ i o f W, ops[i]? = some o → i < ops.size → Below w.heap.size w W → (∀ e ∈ o.after, Region.binds .any e = true → f e.on = vals e.on) →
   (∀ j o', ops[j]? = some o' → (∃ e ∈ o'.after, Region.binds .any e = true ∧ e.on = i) → f j = tmps0 ds a j) →
   ∀ K : Act → World → Prop, (∀ u W', Below W.heap.size W W' → u = vals i → K ((putL ds f 0 a).put o.dst u) W') →
   if Region.wanted o (yielded ops (putL ds f 0 a).tmps) = true then o.wp P (putL ds f 0 a) W K Q else K ((putL ds f 0 a).put o.dst undef) W)
  (hend : ∀ f W, Below w.heap.size w W → (∀ i, i < ops.size → f i = vals i) → Q .normal (putL ds f 0 a) W) : (Code.region id ops true).wp P Q a w := by
 refine wp_region_rel0 hm hb ds hds hok (fun S f W => Below w.heap.size w W ∧ (∀ j, j < ops.size → S j = false → f j = tmps0 ds a j) ∧ ∀ j, j < ops.size → S j = true → f j = vals j) ?_ ⟨(Below.refl _ _).drew, fun _ _ _ => rfl, fun _ _ h => by cases h⟩ ?_ ?_
 ·rintro S S' f W hS ⟨h1, h2, h3⟩
  exact ⟨h1, fun j hj h => h2 j hj (by rw [hS j hj]; exact h), fun j hj h => h3 j hj (by rw [hS j hj]; exact h)⟩
 ·rintro S i o f W ho hi hSi hpre hcl ⟨h1, h2, h3⟩ K hK
  have hback : ∀ e ∈ o.after, Region.binds .any e = true → e.on < i := by
   intro e he hbd
   have hb' := hb
   unfold edgesBack at hb'
   rw [List.all_eq_true] at hb'
   have h := hb' i (List.mem_range.2 hi)
   rw [ho] at h
   simp only [Option.map_some, Option.getD_some] at h
   rw [Array.all_eq_true] at h
   obtain ⟨k, hk, rfl⟩ := Array.getElem_of_mem he
   have h5 := h k hk
   rw [hbd] at h5
   simpa only [Bool.not_true, Bool.false_or, decide_eq_true_eq] using h5
  refine hstep i o f W ho hi h1 (fun e he hbd => h3 e.on (by have := hback e he hbd; omega) (hpre e he hbd)) ?_ K ?_
  ·rintro j o' hj ⟨e, he, hbd, hon⟩
   have hjs : j < ops.size := (Array.getElem?_eq_some_iff.1 hj).1
   refine h2 j hjs ?_
   rcases hSj : S j with _ | _
   ·rfl
   ·have := hcl j o' hSj hj e he hbd
    rw [hon, hSi] at this
    cases this
  ·intro u W' hb2 hu
   refine hK u W' ⟨below_call h1 h1.size hb2, fun j hjs h => ?_, fun j hjs h => ?_⟩
   ·unfold upd at h
    by_cases e : j = i
    ·simp [e] at h
    ·simp only [e, if_false] at h ⊢
     exact h2 j hjs h
   ·unfold upd at h
    by_cases e : j = i
    ·subst e; simp [hu]
    ·simp only [e, if_false] at h ⊢
     exact h3 j hjs h
 ·rintro S f W hS ⟨h1, _, h3⟩
  exact hend f W h1 (fun i hi => h3 i hi (hS i hi))
theorem neg3 {x y : Int} {W : World} (h : IntKind.i64.wrap (-x) = y) : (Op.unary .neg (.int .i64 x)).run Tryz.prog W = .ok (.int .i64 y) W := by rw [← h]; simp [go_sem]
theorem bin_geqE {x y : Int} {d : Bool} {W : World} (h : decide (y ≤ x) = d) : (binOp .geq 3 (.int .i64 x) (.int .i64 y)).run Tryz.prog W = .ok (.bool d) W := by rw [bin_geq, h]
theorem bin_quoN {a F : Nat} {W : World} (hF : 3 ≤ F ∧ F ≤ 8) (ha : a < 64) : (binOp .quo 3 (.int .i64 a) (.int .i64 F)).run Tryz.prog W = .ok (.int .i64 ((a / F : Nat) : Int)) W := by
 obtain ⟨k, hk⟩ : ∃ k, a / F = k := ⟨_, rfl⟩
 have hk2 : k ≤ a := by rw [← hk]; exact Nat.div_le_self a F
 have h1 : (a : Int) / (F : Int) = (k : Int) := by rw [← hk]; rfl
 have h3 : IntKind.i64.wrap (k : Int) = (k : Int) := IntWalk.i64_in _ (by omega)
 rw [hk]
 simp [go_sem]
 rw [if_neg (by omega), h1, h3]
theorem rank_bd {F R a k : Nat} (hk : a / F = k) (h2 : 1 ≤ k) (h3 : k + 1 < R) (hF : 0 < F) : F ≤ a ∧ a + F < F * R ∧ (k - 1) * F + a % F = a - F ∧ (k + 1) * F + a % F = a + F := by
 have h4 := Nat.div_add_mod a F
 have h5 := Nat.mod_lt a hF
 rw [hk] at h4
 obtain ⟨j, rfl⟩ : ∃ j, k = j + 1 := ⟨k - 1, by omega⟩
 have h6 : F * (j + 3) ≤ F * R := Nat.mul_le_mul_left F (by omega)
 have e1 : F * (j + 1) = F * j + F := by rw [Nat.mul_add, Nat.mul_one]
 have e2 : F * (j + 3) = F * j + F + F + F := by rw [Nat.mul_add]; omega
 have e3 : (j + 1 + 1) * F = F * j + F + F := by rw [Nat.mul_comm, Nat.mul_add, Nat.mul_add]; omega
 have e4 : (j + 1 - 1) * F = F * j := by rw [Nat.add_sub_cancel, Nat.mul_comm]
 rw [e3, e4]
 omega
def upI (F : Nat) (bl : Bool) : Int := if bl then F else -F
def rkI (R : Nat) (bl : Bool) : Int := if bl then 2 else (R : Int) - 3
def frN (F a : Nat) (bl : Bool) : Nat := if bl then a - F else a + F
def toN (F a : Nat) (bl : Bool) : Nat := if bl then a + F else a - F
theorem psB_at {F R a : Nat} {xs : List Int} {bl : Bool} (hF : 3 ≤ F ∧ F ≤ 8) (hR : 6 ≤ R ∧ R ≤ 8) (h : (((a / F : Nat) : Int) == rkI R bl) = true) : frN F a bl < F * R ∧ toN F a bl < F * R ∧ IntKind.i64.wrap ((a : Int) - upI F bl) = (frN F a bl : Nat) ∧ IntKind.i64.wrap ((a : Int) + upI F bl) = (toN F a bl : Nat) ∧
  psB F R xs bl a = ((xs[a]?.getD 0 == 0) && ((xs[frN F a bl]?.getD 0 == 0) && (xs[toN F a bl]?.getD 0 == pcI 1 (!bl)))) := by
 have h1 : F * R ≤ 64 := Nat.mul_le_mul hF.2 hR.2
 rw [beq_iff_eq] at h
 cases bl
 ·simp only [rkI, Bool.false_eq_true, if_false] at h
  obtain ⟨k, hk⟩ : ∃ k, a / F = k := ⟨_, rfl⟩
  obtain ⟨b1, b2, b3, b4⟩ := rank_bd (R := R) hk (by omega) (by omega) (by omega)
  have q1 : sqN F (a % F) (rankI R true 2) = a + F := by unfold sqN rankI; simp only [if_true]; rw [show ((R : Int) - 2).toNat = k + 1 by omega]; exact b4
  have q2 : sqN F (a % F) (rankI R true 4) = a - F := by unfold sqN rankI; simp only [if_true]; rw [show ((R : Int) - 4).toNat = k - 1 by omega]; exact b3
  have q3 : (2 * ((a / F : Nat) : Int) == rankI R true 2 + rankI R true 4) = true := by unfold rankI; simp; omega
  refine ⟨?_, ?_, ?_, ?_, ?_⟩
  ·simp [frN]; omega
  ·simp [toN]; omega
  ·simp only [upI, frN, Bool.false_eq_true, if_false]; rw [IntWalk.i64_in _ (by omega)]; omega
  ·simp only [upI, toN, Bool.false_eq_true, if_false]; rw [IntWalk.i64_in _ (by omega)]; omega
  ·simp only [psB, Bool.not_false, q1, q2, q3, frN, toN, Bool.true_and, Bool.false_eq_true, if_false]
 ·simp only [rkI, if_true] at h
  obtain ⟨k, hk⟩ : ∃ k, a / F = k := ⟨_, rfl⟩
  obtain ⟨b1, b2, b3, b4⟩ := rank_bd (R := R) hk (by omega) (by omega) (by omega)
  have hk2 : k = 2 := by omega
  subst hk2
  have q1 : sqN F (a % F) (rankI R false 2) = a - F := by unfold sqN rankI; simpa using b3
  have q2 : sqN F (a % F) (rankI R false 4) = a + F := by unfold sqN rankI; simpa using b4
  have q3 : (2 * ((a / F : Nat) : Int) == rankI R false 2 + rankI R false 4) = true := by unfold rankI; simp; omega
  refine ⟨?_, ?_, ?_, ?_, ?_⟩
  ·simp [frN]; omega
  ·simp [toN]; omega
  ·simp only [upI, frN, if_true]; rw [IntWalk.i64_in _ (by omega)]; omega
  ·simp only [upI, toN, if_true]; rw [IntWalk.i64_in _ (by omega)]; omega
  ·simp only [psB, Bool.not_true, q1, q2, q3, frN, toN, Bool.true_and, if_true]
theorem psB_not {F R a : Nat} {xs : List Int} {bl : Bool} (h : (((a / F : Nat) : Int) == rkI R bl) = false) : psB F R xs bl a = false := by
 have : (2 * ((a / F : Nat) : Int) == rankI R (!bl) 2 + rankI R (!bl) 4) = false := by
  rw [beq_eq_false_iff_ne] at h ⊢
  cases bl
  ·simp only [rkI, rankI, Bool.false_eq_true, if_false, Bool.not_false, if_true] at h ⊢; omega
  ·simp only [rkI, rankI, Bool.false_eq_true, if_false, Bool.not_true, if_true] at h ⊢; omega
 simp only [psB, this, Bool.false_and]
set_option maxRecDepth 100000 in
theorem passant_any (F R : Nat) (ca pa ha fu : Int) (bl : Bool) (p : Option Addr) (c : Nat) (xs : List Int) (hF : 3 ≤ F ∧ F ≤ 8) (hR : 3 ≤ R ∧ R ≤ 8) (hlen : xs.length = F * R) (hpos : 0 < xs.length) (w : World) (hx : Arr .i8 w p xs) :
  Calls Tryz.prog 81 #[.agg (posCs F R p xs.length c bl ca pa ha fu).toArray] w fun e w' => e = .returned (.bool (passB F R xs bl pa ha)) ∧ Below w.heap.size w w' := by
 have hA := HasO.new w (.cells (posCs F R p xs.length c bl ca pa ha fu).toArray 26)
 have hB := below_box w (.cells (posCs F R p xs.length c bl ca pa ha fu).toArray 26)
 have hx1 := hx.call hB
 obtain ⟨g, o, rfl, hgl, hcc⟩ := hx1.at (i := 0) hpos
 obtain ⟨V, hV⟩ : ∃ V, V = passB F R xs bl pa ha := ⟨_, rfl⟩
 have e0 : V = ((pa == -1) || (!decide ((R : Int) < 6) && ((ha == 0) && (sqB F R pa && psB F R xs bl pa.toNat)))) := hV
 rw [← hV]
 clear hV hx1 hx hpos
 have h0 := hA.cells 0
 have h1 := hA.cells 1
 have h3 := hA.cells 3
 have h5 := hA.cells 5
 have hl0 := hA.lt
 replace hlen := Lib.hid hlen
 by_cases hp1 : pa = -1
 ·subst hp1
  have e1 : Hid (V = true) := Lib.hid (by rw [e0]; rfl)
  clear e0
  go_enter Tryz.func81, Tryz.ntmps81
  go_wp2_with fail
  go_ret
  exact ⟨by rw [e1.out]; rfl, hB⟩
 rw [beq_false_of_ne hp1, Bool.false_or] at e0
 have hFn : IntKind.i64.wrap (-(F : Int)) = upI F false := IntWalk.i64_in _ (by omega)
 have hRn : IntKind.i64.wrap ((R : Int) - 3) = rkI R false := IntWalk.i64_in _ (by omega)
 have hpsn := fun a => psB_not (F := F) (R := R) (a := a) (xs := xs) (bl := bl)
 have hpsa := fun a hR => psB_at (F := F) (R := R) (a := a) (xs := xs) (bl := bl) hF hR
 replace e0 := Lib.hid e0
 go_enter Tryz.func81, Tryz.ntmps81
 go_upto_if 13 with fail
 show Code.wp _ _ _ _ (w.alloc (.cells (posCs F R (some ⟨g, o, none⟩) xs.length c bl ca pa ha fu).toArray 26))
 generalize w.alloc (.cells (posCs F R (some ⟨g, o, none⟩) xs.length c bl ca pa ha fu).toArray 26) = w1 at *
 go_cut [3, 4] from 11 to 19 (fun uv rv wx => uv = .int .i64 (upI F bl) ∧ rv = .int .i64 (rkI R bl) ∧ Below w1.heap.size w1 wx)
 case first =>
  cases bl
  ·go_wp2_with fail
   refine wp_region_old (by kernel_rfl) (by kernel_rfl) [some 14, some 15, some 16, some 17, some 18, some 19, some 3, some 4] (by rfl) (by rfl) (fun i8 => match i8 with | 0 => .int .i64 ((F : Nat) : Int) | 1 => .int .i64 (upI F false) | 2 => .pointer (some ⟨w.heap.size, 0, none⟩) | 3 => .pointer (some ⟨w.heap.size, 1, none⟩) | 4 => .int .i64 ((R : Nat) : Int) | 5 => .int .i64 (rkI R false) | 6 => .int .i64 (upI F false) | 7 => .int .i64 (rkI R false) | _ => undef) ?hstep ?hend
   case hstep =>
    intro i9 o9 f9 W ho hi hC hf hold K hK
    have hi : i9 < 8 := hi
    rcases i9 with _ | _ | _ | _ | _ | _ | _ | _ | i9
    ·exact st_move (og ho) (.tmp 3) (oo ho) (ri 6 (hold 6 _ rfl ⟨⟨0, .phase⟩, by simp, rfl, rfl⟩)) (kk hK)
    ·exact st_unop (og ho) .neg 3 (.tmp 14) (oo ho) (ri 0 (da ho hf 0)) (neg3 hFn) (kk hK)
    ·exact st_field (og ho) 26 (.tmp 1) 0 (oo ho) (rd_out rfl rfl) (n := 0) (by kernel_rfl) (kk hK)
    ·exact st_field (og ho) 23 (.tmp 16) 1 (oo ho) (ri 2 (da ho hf 2)) (n := 1) (by kernel_rfl) (kk hK)
    ·exact st_loadS (og ho) 3 (.tmp 17) (oo ho) (ri 3 (da ho hf 3)) (by kernel_rfl) ((hA.call hC).cells 1) (kk hK)
    ·exact st_bin (og ho) .sub 3 3 (.tmp 18) (.const (.int .i64 3)) (oo ho) (ri 4 (da ho hf 4)) rfl (gu_i _ _ _ _ _ _ _ _) (bin_subE hRn) (kk hK)
    ·exact st_assign (og ho) (.tmp 15) (oo ho) (ri 1 (da ho hf 1)) (kk hK)
    ·exact st_assign (og ho) (.tmp 19) (oo ho) (ri 5 (da ho hf 5)) (kk hK)
    ·omega
   case hend =>
    intro f8 w2 hC8 hf8
    have hv6 : f8 6 = .int .i64 (upI F false) := hf8 6 (by decide)
    have hv7 : f8 7 = .int .i64 (rkI R false) := hf8 7 (by decide)
    simp only [putL, Act.put, List.setIfInBounds_toArray, List.set_cons_succ, List.set_cons_zero]
    rw [hv6, hv7]
    clear hf8 hv6 hv7
    generalize f8 0 = u0, f8 1 = u1, f8 2 = u2, f8 3 = u3, f8 4 = u4, f8 5 = u5
    go_wp2_with fail
    go_meet
    exact ⟨rfl, rfl, hC8⟩
  ·go_wp2_with fail
   go_meet
   exact ⟨rfl, rfl, Below.refl _ _⟩
 case rest =>
  obtain ⟨rfl, rfl, hC8⟩ := hcut
  have hA2 := hA.call hC8
  have hB2 := below_call hB hB.size hC8
  have hgl2 : g < wc.heap.size := Nat.lt_of_lt_of_le hgl hC8.size
  have hcc2 : ∀ j, j < xs.length → wc.cell? ⟨g, o + j, none⟩ = some (.int .i8 (xs[j]?.getD 0)) := fun j hj => (hC8.cell (p := ⟨g, o + j, none⟩) hgl).trans (hcc j hj)
  clear hA hB hgl hcc h0 h1 h3 h5 hl0 hC8
  have hA := hA2
  have hB := hB2
  have hgl := hgl2
  have hcc := hcc2
  clear hA2 hB2 hgl2 hcc2
  go_wp2_with fail
  have hsv := fun W => sqValid_any F R pa W
  obtain ⟨a, ha_⟩ : ∃ a, a = pa.toNat := ⟨_, rfl⟩
  obtain ⟨fr, hfr⟩ : ∃ x, x = frN F a bl := ⟨_, rfl⟩
  obtain ⟨tg, htg⟩ : ∃ x, x = toN F a bl := ⟨_, rfl⟩
  obtain ⟨xa, hxa⟩ : ∃ x, x = xs[a]?.getD 0 := ⟨_, rfl⟩
  obtain ⟨xf, hxf⟩ : ∃ x, x = xs[fr]?.getD 0 := ⟨_, rfl⟩
  obtain ⟨xt, hxt⟩ : ∃ x, x = xs[tg]?.getD 0 := ⟨_, rfl⟩
  obtain ⟨a0, hb0⟩ : ∃ d, decide ((6 : Int) ≤ (R : Int)) = d := ⟨_, rfl⟩
  obtain ⟨a1, hb1⟩ : ∃ d, ((ha : Int) == 0) = d := ⟨_, rfl⟩
  obtain ⟨a2, hb2⟩ : ∃ d, sqB F R pa = d := ⟨_, rfl⟩
  obtain ⟨a3, hb3⟩ : ∃ d, (((a / F : Nat) : Int) == rkI R bl) = d := ⟨_, rfl⟩
  obtain ⟨a4, hb4⟩ : ∃ d, ((xa : Int) == 0) = d := ⟨_, rfl⟩
  obtain ⟨a5, hb5⟩ : ∃ d, ((xf : Int) == 0) = d := ⟨_, rfl⟩
  obtain ⟨a6, hb6⟩ : ∃ d, (xt == pcI 1 (!bl)) = d := ⟨_, rfl⟩
  have e1 : Hid (V = (a0 && a1 && a2 && a3 && a4 && a5 && a6)) := Lib.hid (by
   rw [e0.out, hb1, hb2, ← ha_, show decide ((R : Int) < 6) = !a0 by rw [← hb0]; by_cases h : (6 : Int) ≤ R <;> simp [h] <;> omega, Bool.not_not]
   cases a0
   ·rfl
   cases a3
   ·rw [hpsn a hb3]; simp
   ·rw [(hpsa a ⟨by simp at hb0; omega, hR.2⟩ hb3).2.2.2.2, ← hxa, ← hfr, ← htg, ← hxf, ← hxt, hb4, hb5, hb6]
    simp [Bool.and_assoc])
  have hpa : a2 = true → pa = (a : Int) ∧ a < xs.length ∧ a < 64 := fun h => by
   rw [h] at hb2
   have hpb : 0 ≤ pa ∧ pa < (F : Int) * R := by unfold sqB at hb2; simp at hb2; exact hb2.2
   have haF : a < F * R := by have := hpb.2; rw [← Int.natCast_mul] at this; omega
   exact ⟨by omega, by rw [hlen.out]; exact haF, Nat.lt_of_lt_of_le haF (Nat.mul_le_mul hF.2 hR.2)⟩
  have hquo : a2 = true → ∀ W, (binOp .quo 3 (.int .i64 pa) (.int .i64 F)).run Tryz.prog W = .ok (.int .i64 ((a / F : Nat) : Int)) W := fun h W => by rw [(hpa h).1]; exact bin_quoN hF (hpa h).2.2
  have hixa : a2 = true → ∀ W, (Instr.indexAt 24 (.slice (some ⟨g, o, none⟩) xs.length c) (.int .i64 pa)).run Tryz.prog W = .ok (.pointer (some ⟨g, o + a, none⟩)) W := fun h W => by rw [(hpa h).1]; exact index25 W g o xs.length c a (hpa h).2.1
  have hcla : a2 = true → ∀ W, Below wc.heap.size wc W → W.cell? ⟨g, o + a, none⟩ = some (.int .i8 xa) := fun h W hC => by rw [hxa]; exact (hC.cell (p := ⟨g, o + a, none⟩) hgl).trans (hcc a (hpa h).2.1)
  have hat : a0 = true → a2 = true → a3 = true → IntKind.i64.wrap (pa - upI F bl) = (fr : Nat) ∧ (∀ W, (Instr.indexAt 24 (.slice (some ⟨g, o, none⟩) xs.length c) (.int .i64 (fr : Nat))).run Tryz.prog W = .ok (.pointer (some ⟨g, o + fr, none⟩)) W) ∧ (∀ W, Below wc.heap.size wc W → W.cell? ⟨g, o + fr, none⟩ = some (.int .i8 xf)) ∧
    IntKind.i64.wrap (pa + upI F bl) = (tg : Nat) ∧ (∀ W, (Instr.indexAt 24 (.slice (some ⟨g, o, none⟩) xs.length c) (.int .i64 (tg : Nat))).run Tryz.prog W = .ok (.pointer (some ⟨g, o + tg, none⟩)) W) ∧ (∀ W, Below wc.heap.size wc W → W.cell? ⟨g, o + tg, none⟩ = some (.int .i8 xt)) := fun h0 h2 h3 => by
   rw [h0] at hb0
   rw [h3] at hb3
   obtain ⟨hfl, htl, e2, e3, _⟩ := hpsa a ⟨by simp at hb0; omega, hR.2⟩ hb3
   rw [← hlen.out, ← hfr] at hfl
   rw [← hlen.out, ← htg] at htl
   rw [(hpa h2).1, hxf, hxt]
   rw [← hfr] at e2
   rw [← htg] at e3
   exact ⟨e2, fun W => index25 W g o xs.length c fr hfl, fun W hC => (hC.cell (p := ⟨g, o + fr, none⟩) hgl).trans (hcc fr hfl), e3, fun W => index25 W g o xs.length c tg htl, fun W hC => (hC.cell (p := ⟨g, o + tg, none⟩) hgl).trans (hcc tg htl)⟩
  rw [hb2] at hsv
  clear hpa hpsn hpsa hb2 e0 hfr htg hxa hxf hxt ha_ hcc
  refine wp_region_vl (by kernel_rfl) (by kernel_rfl) [some 20, some 21, some 22, some 23, some 24, some 25, some 26, some 27, some 28, some 29, some 30, some 31, some 32, some 33, some 34, some 35, some 36, some 37, some 38, some 39, some 40, some 41, some 42, some 43, some 44, some 45, some 46, some 47, some 48, some 49, some 50, some 51, some 52, some 53, some 54, some 55, some 56, some 57, some 58, some 59, some 60, some 61, some 62, some 63, some 64, some 65, some 66, some 67, some 68, some 69, some 70, some 71, some 72, some 73, some 74, some 75, some 76, some 77, some 78, some 79, some 80, some 2] (by rfl) (by rfl) wc.heap.size (fun i8 => match i8 with | 0 => .pointer (some ⟨w.heap.size, 0, none⟩) | 1 => .pointer (some ⟨w.heap.size, 1, none⟩) | 2 => .int .i64 ((R : Nat) : Int) | 3 => .bool a0 | 4 => .bool a0 | 5 => bif (a0) then .pointer (some ⟨w.heap.size, 6, none⟩) else undef | 6 => bif (a0) then .int .i64 ha else undef | 7 => bif (a0) then .bool a1 else undef | 8 => .bool (a0 && a1) | 9 => .bool (a0 && a1) | 10 => bif (a0 && a1) then .pointer (some ⟨w.heap.size, 0, none⟩) else undef | 11 => bif (a0 && a1) then .agg #[.int .i64 (F : Int), .int .i64 (R : Int)] else undef | 12 => bif (a0 && a1) then .pointer (some ⟨w.heap.size, 5, none⟩) else undef | 13 => bif (a0 && a1) then .int .i64 pa else undef | 14 => bif (a0 && a1) then .bool a2 else undef | 15 => .bool (a0 && a1 && a2) | 16 => .bool (a0 && a1 && a2) | 17 => bif (a0 && a1 && a2) then .pointer (some ⟨w.heap.size, 5, none⟩) else undef | 18 => bif (a0 && a1 && a2) then .int .i64 pa else undef | 19 => bif (a0 && a1 && a2) then .pointer (some ⟨w.heap.size, 0, none⟩) else undef | 20 => bif (a0 && a1 && a2) then .pointer (some ⟨w.heap.size, 0, none⟩) else undef | 21 => bif (a0 && a1 && a2) then .int .i64 ((F : Nat) : Int) else undef | 22 => bif (a0 && a1 && a2) then .int .i64 ((a / F : Nat) : Int) else undef | 23 => bif (a0 && a1 && a2) then .int .i64 (rkI R bl) else undef | 24 => bif (a0 && a1 && a2) then .bool a3 else undef | 25 => .bool (a0 && a1 && a2 && a3) | 26 => .bool (a0 && a1 && a2 && a3) | 27 => bif (a0 && a1 && a2 && a3) then .pointer (some ⟨w.heap.size, 2, none⟩) else undef | 28 => bif (a0 && a1 && a2 && a3) then .slice (some ⟨g, o, none⟩) xs.length c else undef | 29 => bif (a0 && a1 && a2 && a3) then .pointer (some ⟨w.heap.size, 5, none⟩) else undef | 30 => bif (a0 && a1 && a2 && a3) then .int .i64 pa else undef | 31 => bif (a0 && a1 && a2 && a3) then .pointer (some ⟨g, o + a, none⟩) else undef | 32 => bif (a0 && a1 && a2 && a3) then .int .i8 xa else undef | 33 => bif (a0 && a1 && a2 && a3) then .bool a4 else undef | 34 => .bool (a0 && a1 && a2 && a3 && a4) | 35 => .bool (a0 && a1 && a2 && a3 && a4) | 36 => bif (a0 && a1 && a2 && a3 && a4) then .pointer (some ⟨w.heap.size, 2, none⟩) else undef | 37 => bif (a0 && a1 && a2 && a3 && a4) then .slice (some ⟨g, o, none⟩) xs.length c else undef | 38 => bif (a0 && a1 && a2 && a3 && a4) then .pointer (some ⟨w.heap.size, 5, none⟩) else undef | 39 => bif (a0 && a1 && a2 && a3 && a4) then .int .i64 pa else undef | 40 => bif (a0 && a1 && a2 && a3 && a4) then .int .i64 (upI F bl) else undef | 41 => bif (a0 && a1 && a2 && a3 && a4) then .int .i64 ((fr : Nat) : Int) else undef | 42 => bif (a0 && a1 && a2 && a3 && a4) then .pointer (some ⟨g, o + fr, none⟩) else undef | 43 => bif (a0 && a1 && a2 && a3 && a4) then .int .i8 xf else undef | 44 => bif (a0 && a1 && a2 && a3 && a4) then .bool a5 else undef | 45 => .bool (a0 && a1 && a2 && a3 && a4 && a5) | 46 => .bool (a0 && a1 && a2 && a3 && a4 && a5) | 47 => bif (a0 && a1 && a2 && a3 && a4 && a5) then .pointer (some ⟨w.heap.size, 2, none⟩) else undef | 48 => bif (a0 && a1 && a2 && a3 && a4 && a5) then .slice (some ⟨g, o, none⟩) xs.length c else undef | 49 => bif (a0 && a1 && a2 && a3 && a4 && a5) then .pointer (some ⟨w.heap.size, 5, none⟩) else undef | 50 => bif (a0 && a1 && a2 && a3 && a4 && a5) then .int .i64 pa else undef | 51 => bif (a0 && a1 && a2 && a3 && a4 && a5) then .int .i64 (upI F bl) else undef | 52 => bif (a0 && a1 && a2 && a3 && a4 && a5) then .int .i64 ((tg : Nat) : Int) else undef | 53 => bif (a0 && a1 && a2 && a3 && a4 && a5) then .pointer (some ⟨g, o + tg, none⟩) else undef | 54 => bif (a0 && a1 && a2 && a3 && a4 && a5) then .int .i8 xt else undef | 55 => bif (a0 && a1 && a2 && a3 && a4 && a5) then .pointer (some ⟨w.heap.size, 3, none⟩) else undef | 56 => bif (a0 && a1 && a2 && a3 && a4 && a5) then .bool bl else undef | 57 => bif (a0 && a1 && a2 && a3 && a4 && a5) then .bool (!bl) else undef | 58 => bif (a0 && a1 && a2 && a3 && a4 && a5) then .int .i8 (pcI 1 (!bl)) else undef | 59 => bif (a0 && a1 && a2 && a3 && a4 && a5) then .bool a6 else undef | 60 => .bool (a0 && a1 && a2 && a3 && a4 && a5 && a6) | 61 => .bool (a0 && a1 && a2 && a3 && a4 && a5 && a6) | _ => undef) (fun _ => none) ?hstep ?hend
  case hstep =>
   intro i9 o9 f9 W ho hi hC hf K hK
   have hi : i9 < 62 := hi
   rcases i9 with _ | _ | _ | _ | _ | _ | _ | _ | _ | _ | _ | _ | _ | _ | _ | _ | _ | _ | _ | _ | _ | _ | _ | _ | _ | _ | _ | _ | _ | _ | _ | _ | _ | _ | _ | _ | _ | _ | _ | _ | _ | _ | _ | _ | _ | _ | _ | _ | _ | _ | _ | _ | _ | _ | _ | _ | _ | _ | _ | _ | _ | _ | i9
   ·exact st_field (og ho) 26 (.tmp 1) 0 (oo ho) (rd_out rfl rfl) (n := 0) (by kernel_rfl) (kk hK)
   ·exact st_field (og ho) 23 (.tmp 20) 1 (oo ho) (ri 0 (da ho hf 0)) (n := 1) (by kernel_rfl) (kk hK)
   ·exact st_loadS (og ho) 3 (.tmp 21) (oo ho) (ri 1 (da ho hf 1)) (by kernel_rfl) ((hA.call hC).cells 1) (kk hK)
   ·exact st_bin (og ho) .geq 3 3 (.tmp 22) (.const (.int .i64 6)) (oo ho) (ri 2 (da ho hf 2)) rfl (gu_i _ _ _ _ _ _ _ _) (bin_geqE hb0) (kk hK)
   ·exact st_move (og ho) (.tmp 23) (oo ho) (ri 3 (da ho hf 3)) (kk hK)
   ·cases a0 <;> first | exact skip_gd (uw ho (dg ho hf 4)) (kk hK) | exact gd (wo ho (dg ho hf 4)) (st_field rfl 26 (.tmp 1) 5 (oo ho) (rd_out rfl rfl) (n := 6) (by kernel_rfl) (kk hK))
   ·cases a0 <;> first | exact skip_gd (uw ho (dg ho hf 4)) (kk hK) | exact gd (wo ho (dg ho hf 4)) (st_loadS rfl 3 (.tmp 25) (oo ho) (ri 5 (da ho hf 5)) (by kernel_rfl) ((hA.call hC).cells 6) (kk hK))
   ·cases a0 <;> first | exact skip_gd (uw ho (dg ho hf 4)) (kk hK) | exact gd (wo ho (dg ho hf 4)) (st_bin rfl .eql 3 3 (.tmp 26) (.const (.int .i64 0)) (oo ho) (ri 6 (da ho hf 6)) rfl (gu_i _ _ _ _ _ _ _ _) (bin_eqlE hb1) (kk hK))
   ·cases a0 <;> first | exact st_pickF (og ho) (.tmp 24) (.tmp 27) (.const (.bool false)) (oo ho) (ri 4 (da ho hf 4)) rfl (kk hK) | exact st_pickT (og ho) (.tmp 24) (.tmp 27) (.const (.bool false)) (oo ho) (ri 4 (da ho hf 4)) (ri 7 (da ho hf 7)) (kk hK)
   ·exact st_move (og ho) (.tmp 28) (oo ho) (ri 8 (da ho hf 8)) (kk hK)
   ·cases a0 <;> cases a1 <;> first | exact skip_gd (uw ho (dg ho hf 9)) (kk hK) | exact gd (wo ho (dg ho hf 9)) (st_field rfl 26 (.tmp 1) 0 (oo ho) (rd_out rfl rfl) (n := 0) (by kernel_rfl) (kk hK))
   ·cases a0 <;> cases a1 <;> first | exact skip_gd (uw ho (dg ho hf 9)) (kk hK) | exact gd (wo ho (dg ho hf 9)) (st_loadA rfl 23 (.tmp 30) (oo ho) (ri 10 (da ho hf 10)) [.int .i64 (F : Int), .int .i64 (R : Int)] (by kernel_rfl) (fun j v hv => by rw [Nat.zero_add, (hA.call hC).cells j]; match j, hv with | 0, hv => simpa using hv | 1, hv => simpa using hv) (kk hK))
   ·cases a0 <;> cases a1 <;> first | exact skip_gd (uw ho (dg ho hf 9)) (kk hK) | exact gd (wo ho (dg ho hf 9)) (st_field rfl 26 (.tmp 1) 4 (oo ho) (rd_out rfl rfl) (n := 5) (by kernel_rfl) (kk hK))
   ·cases a0 <;> cases a1 <;> first | exact skip_gd (uw ho (dg ho hf 9)) (kk hK) | exact gd (wo ho (dg ho hf 9)) (st_loadS rfl 3 (.tmp 32) (oo ho) (ri 12 (da ho hf 12)) (by kernel_rfl) ((hA.call hC).cells 5) (kk hK))
   ·cases a0 <;> cases a1 <;> first | exact skip_gd (uw ho (dg ho hf 9)) (kk hK) | exact gd (wo ho (dg ho hf 9)) (st_call2 rfl 109 (.tmp 31) (.tmp 33) #[23, 3] (oo ho) (ri 11 (da ho hf 11)) (ri 13 (da ho hf 13)) (fun _ _ => rfl) (hsv W) (by rintro u w9 ⟨h9, hb9⟩; injection h9 with h9; subst h9; exact hK _ _ hb9 rfl) (fun _ _ h => nomatch h.1) (fun _ h => nomatch h.1))
   ·cases a0 <;> cases a1 <;> first | exact st_pickF (og ho) (.tmp 29) (.tmp 34) (.const (.bool false)) (oo ho) (ri 9 (da ho hf 9)) rfl (kk hK) | exact st_pickT (og ho) (.tmp 29) (.tmp 34) (.const (.bool false)) (oo ho) (ri 9 (da ho hf 9)) (ri 14 (da ho hf 14)) (kk hK)
   ·exact st_move (og ho) (.tmp 35) (oo ho) (ri 15 (da ho hf 15)) (kk hK)
   ·cases a0 <;> cases a1 <;> cases a2 <;> first | exact skip_gd (uw ho (dg ho hf 16)) (kk hK) | exact gd (wo ho (dg ho hf 16)) (st_field rfl 26 (.tmp 1) 4 (oo ho) (rd_out rfl rfl) (n := 5) (by kernel_rfl) (kk hK))
   ·cases a0 <;> cases a1 <;> cases a2 <;> first | exact skip_gd (uw ho (dg ho hf 16)) (kk hK) | exact gd (wo ho (dg ho hf 16)) (st_loadS rfl 3 (.tmp 37) (oo ho) (ri 17 (da ho hf 17)) (by kernel_rfl) ((hA.call hC).cells 5) (kk hK))
   ·cases a0 <;> cases a1 <;> cases a2 <;> first | exact skip_gd (uw ho (dg ho hf 16)) (kk hK) | exact gd (wo ho (dg ho hf 16)) (st_field rfl 26 (.tmp 1) 0 (oo ho) (rd_out rfl rfl) (n := 0) (by kernel_rfl) (kk hK))
   ·cases a0 <;> cases a1 <;> cases a2 <;> first | exact skip_gd (uw ho (dg ho hf 16)) (kk hK) | exact gd (wo ho (dg ho hf 16)) (st_field rfl 23 (.tmp 39) 0 (oo ho) (ri 19 (da ho hf 19)) (n := 0) (by kernel_rfl) (kk hK))
   ·cases a0 <;> cases a1 <;> cases a2 <;> first | exact skip_gd (uw ho (dg ho hf 16)) (kk hK) | exact gd (wo ho (dg ho hf 16)) (st_loadS rfl 3 (.tmp 40) (oo ho) (ri 20 (da ho hf 20)) (by kernel_rfl) ((hA.call hC).cells 0) (kk hK))
   ·cases a0 <;> cases a1 <;> cases a2 <;> first | exact skip_gd (uw ho (dg ho hf 16)) (kk hK) | exact gd (wo ho (dg ho hf 16)) (st_bin rfl .quo 3 3 (.tmp 38) (.tmp 41) (oo ho) (ri 18 (da ho hf 18)) (ri 21 (da ho hf 21)) (gu_i _ _ _ _ _ _ _ _) (hquo rfl W) (kk hK))
   ·cases a0 <;> cases a1 <;> cases a2 <;> first | exact skip_gd (uw ho (dg ho hf 16)) (kk hK) | exact gd (wo ho (dg ho hf 16)) (st_move rfl (.tmp 4) (oo ho) (rd_out rfl rfl) (kk hK))
   ·cases a0 <;> cases a1 <;> cases a2 <;> first | exact skip_gd (uw ho (dg ho hf 16)) (kk hK) | exact gd (wo ho (dg ho hf 16)) (st_bin rfl .eql 3 3 (.tmp 42) (.tmp 43) (oo ho) (ri 22 (da ho hf 22)) (ri 23 (da ho hf 23)) (gu_i _ _ _ _ _ _ _ _) (bin_eqlE hb3) (kk hK))
   ·cases a0 <;> cases a1 <;> cases a2 <;> first | exact st_pickF (og ho) (.tmp 36) (.tmp 44) (.const (.bool false)) (oo ho) (ri 16 (da ho hf 16)) rfl (kk hK) | exact st_pickT (og ho) (.tmp 36) (.tmp 44) (.const (.bool false)) (oo ho) (ri 16 (da ho hf 16)) (ri 24 (da ho hf 24)) (kk hK)
   ·exact st_move (og ho) (.tmp 45) (oo ho) (ri 25 (da ho hf 25)) (kk hK)
   ·cases a0 <;> cases a1 <;> cases a2 <;> cases a3 <;> first | exact skip_gd (uw ho (dg ho hf 26)) (kk hK) | exact gd (wo ho (dg ho hf 26)) (st_field rfl 26 (.tmp 1) 1 (oo ho) (rd_out rfl rfl) (n := 2) (by kernel_rfl) (kk hK))
   ·cases a0 <;> cases a1 <;> cases a2 <;> cases a3 <;> first | exact skip_gd (uw ho (dg ho hf 26)) (kk hK) | exact gd (wo ho (dg ho hf 26)) (st_loadS rfl 24 (.tmp 47) (oo ho) (ri 27 (da ho hf 27)) (by kernel_rfl) ((hA.call hC).cells 2) (kk hK))
   ·cases a0 <;> cases a1 <;> cases a2 <;> cases a3 <;> first | exact skip_gd (uw ho (dg ho hf 26)) (kk hK) | exact gd (wo ho (dg ho hf 26)) (st_field rfl 26 (.tmp 1) 4 (oo ho) (rd_out rfl rfl) (n := 5) (by kernel_rfl) (kk hK))
   ·cases a0 <;> cases a1 <;> cases a2 <;> cases a3 <;> first | exact skip_gd (uw ho (dg ho hf 26)) (kk hK) | exact gd (wo ho (dg ho hf 26)) (st_loadS rfl 3 (.tmp 49) (oo ho) (ri 29 (da ho hf 29)) (by kernel_rfl) ((hA.call hC).cells 5) (kk hK))
   ·cases a0 <;> cases a1 <;> cases a2 <;> cases a3 <;> first | exact skip_gd (uw ho (dg ho hf 26)) (kk hK) | exact gd (wo ho (dg ho hf 26)) (st_index rfl 24 (.tmp 48) (.tmp 50) (oo ho) (ri 28 (da ho hf 28)) (ri 30 (da ho hf 30)) (hixa rfl W) (kk hK))
   ·cases a0 <;> cases a1 <;> cases a2 <;> cases a3 <;> first | exact skip_gd (uw ho (dg ho hf 26)) (kk hK) | exact gd (wo ho (dg ho hf 26)) (st_loadS rfl 38 (.tmp 51) (oo ho) (ri 31 (da ho hf 31)) (by kernel_rfl) (hcla rfl W hC) (kk hK))
   ·cases a0 <;> cases a1 <;> cases a2 <;> cases a3 <;> first | exact skip_gd (uw ho (dg ho hf 26)) (kk hK) | exact gd (wo ho (dg ho hf 26)) (st_bin rfl .eql 38 38 (.tmp 52) (.const (.int .i8 0)) (oo ho) (ri 32 (da ho hf 32)) rfl (gu_i _ _ _ _ _ _ _ _) (bin8_eqlE hb4) (kk hK))
   ·cases a0 <;> cases a1 <;> cases a2 <;> cases a3 <;> first | exact st_pickF (og ho) (.tmp 46) (.tmp 53) (.const (.bool false)) (oo ho) (ri 26 (da ho hf 26)) rfl (kk hK) | exact st_pickT (og ho) (.tmp 46) (.tmp 53) (.const (.bool false)) (oo ho) (ri 26 (da ho hf 26)) (ri 33 (da ho hf 33)) (kk hK)
   ·exact st_move (og ho) (.tmp 54) (oo ho) (ri 34 (da ho hf 34)) (kk hK)
   ·cases a0 <;> cases a1 <;> cases a2 <;> cases a3 <;> cases a4 <;> first | exact skip_gd (uw ho (dg ho hf 35)) (kk hK) | exact gd (wo ho (dg ho hf 35)) (st_field rfl 26 (.tmp 1) 1 (oo ho) (rd_out rfl rfl) (n := 2) (by kernel_rfl) (kk hK))
   ·cases a0 <;> cases a1 <;> cases a2 <;> cases a3 <;> cases a4 <;> first | exact skip_gd (uw ho (dg ho hf 35)) (kk hK) | exact gd (wo ho (dg ho hf 35)) (st_loadS rfl 24 (.tmp 56) (oo ho) (ri 36 (da ho hf 36)) (by kernel_rfl) ((hA.call hC).cells 2) (kk hK))
   ·cases a0 <;> cases a1 <;> cases a2 <;> cases a3 <;> cases a4 <;> first | exact skip_gd (uw ho (dg ho hf 35)) (kk hK) | exact gd (wo ho (dg ho hf 35)) (st_field rfl 26 (.tmp 1) 4 (oo ho) (rd_out rfl rfl) (n := 5) (by kernel_rfl) (kk hK))
   ·cases a0 <;> cases a1 <;> cases a2 <;> cases a3 <;> cases a4 <;> first | exact skip_gd (uw ho (dg ho hf 35)) (kk hK) | exact gd (wo ho (dg ho hf 35)) (st_loadS rfl 3 (.tmp 58) (oo ho) (ri 38 (da ho hf 38)) (by kernel_rfl) ((hA.call hC).cells 5) (kk hK))
   ·cases a0 <;> cases a1 <;> cases a2 <;> cases a3 <;> cases a4 <;> first | exact skip_gd (uw ho (dg ho hf 35)) (kk hK) | exact gd (wo ho (dg ho hf 35)) (st_move rfl (.tmp 3) (oo ho) (rd_out rfl rfl) (kk hK))
   ·cases a0 <;> cases a1 <;> cases a2 <;> cases a3 <;> cases a4 <;> first | exact skip_gd (uw ho (dg ho hf 35)) (kk hK) | exact gd (wo ho (dg ho hf 35)) (st_bin rfl .sub 3 3 (.tmp 59) (.tmp 60) (oo ho) (ri 39 (da ho hf 39)) (ri 40 (da ho hf 40)) (gu_i _ _ _ _ _ _ _ _) (bin_subE (hat rfl rfl rfl).1) (kk hK))
   ·cases a0 <;> cases a1 <;> cases a2 <;> cases a3 <;> cases a4 <;> first | exact skip_gd (uw ho (dg ho hf 35)) (kk hK) | exact gd (wo ho (dg ho hf 35)) (st_index rfl 24 (.tmp 57) (.tmp 61) (oo ho) (ri 37 (da ho hf 37)) (ri 41 (da ho hf 41)) ((hat rfl rfl rfl).2.1 W) (kk hK))
   ·cases a0 <;> cases a1 <;> cases a2 <;> cases a3 <;> cases a4 <;> first | exact skip_gd (uw ho (dg ho hf 35)) (kk hK) | exact gd (wo ho (dg ho hf 35)) (st_loadS rfl 38 (.tmp 62) (oo ho) (ri 42 (da ho hf 42)) (by kernel_rfl) ((hat rfl rfl rfl).2.2.1 W hC) (kk hK))
   ·cases a0 <;> cases a1 <;> cases a2 <;> cases a3 <;> cases a4 <;> first | exact skip_gd (uw ho (dg ho hf 35)) (kk hK) | exact gd (wo ho (dg ho hf 35)) (st_bin rfl .eql 38 38 (.tmp 63) (.const (.int .i8 0)) (oo ho) (ri 43 (da ho hf 43)) rfl (gu_i _ _ _ _ _ _ _ _) (bin8_eqlE hb5) (kk hK))
   ·cases a0 <;> cases a1 <;> cases a2 <;> cases a3 <;> cases a4 <;> first | exact st_pickF (og ho) (.tmp 55) (.tmp 64) (.const (.bool false)) (oo ho) (ri 35 (da ho hf 35)) rfl (kk hK) | exact st_pickT (og ho) (.tmp 55) (.tmp 64) (.const (.bool false)) (oo ho) (ri 35 (da ho hf 35)) (ri 44 (da ho hf 44)) (kk hK)
   ·exact st_move (og ho) (.tmp 65) (oo ho) (ri 45 (da ho hf 45)) (kk hK)
   ·cases a0 <;> cases a1 <;> cases a2 <;> cases a3 <;> cases a4 <;> cases a5 <;> first | exact skip_gd (uw ho (dg ho hf 46)) (kk hK) | exact gd (wo ho (dg ho hf 46)) (st_field rfl 26 (.tmp 1) 1 (oo ho) (rd_out rfl rfl) (n := 2) (by kernel_rfl) (kk hK))
   ·cases a0 <;> cases a1 <;> cases a2 <;> cases a3 <;> cases a4 <;> cases a5 <;> first | exact skip_gd (uw ho (dg ho hf 46)) (kk hK) | exact gd (wo ho (dg ho hf 46)) (st_loadS rfl 24 (.tmp 67) (oo ho) (ri 47 (da ho hf 47)) (by kernel_rfl) ((hA.call hC).cells 2) (kk hK))
   ·cases a0 <;> cases a1 <;> cases a2 <;> cases a3 <;> cases a4 <;> cases a5 <;> first | exact skip_gd (uw ho (dg ho hf 46)) (kk hK) | exact gd (wo ho (dg ho hf 46)) (st_field rfl 26 (.tmp 1) 4 (oo ho) (rd_out rfl rfl) (n := 5) (by kernel_rfl) (kk hK))
   ·cases a0 <;> cases a1 <;> cases a2 <;> cases a3 <;> cases a4 <;> cases a5 <;> first | exact skip_gd (uw ho (dg ho hf 46)) (kk hK) | exact gd (wo ho (dg ho hf 46)) (st_loadS rfl 3 (.tmp 69) (oo ho) (ri 49 (da ho hf 49)) (by kernel_rfl) ((hA.call hC).cells 5) (kk hK))
   ·cases a0 <;> cases a1 <;> cases a2 <;> cases a3 <;> cases a4 <;> cases a5 <;> first | exact skip_gd (uw ho (dg ho hf 46)) (kk hK) | exact gd (wo ho (dg ho hf 46)) (st_move rfl (.tmp 3) (oo ho) (rd_out rfl rfl) (kk hK))
   ·cases a0 <;> cases a1 <;> cases a2 <;> cases a3 <;> cases a4 <;> cases a5 <;> first | exact skip_gd (uw ho (dg ho hf 46)) (kk hK) | exact gd (wo ho (dg ho hf 46)) (st_bin rfl .add 3 3 (.tmp 70) (.tmp 71) (oo ho) (ri 50 (da ho hf 50)) (ri 51 (da ho hf 51)) (gu_i _ _ _ _ _ _ _ _) (bin_addE (hat rfl rfl rfl).2.2.2.1) (kk hK))
   ·cases a0 <;> cases a1 <;> cases a2 <;> cases a3 <;> cases a4 <;> cases a5 <;> first | exact skip_gd (uw ho (dg ho hf 46)) (kk hK) | exact gd (wo ho (dg ho hf 46)) (st_index rfl 24 (.tmp 68) (.tmp 72) (oo ho) (ri 48 (da ho hf 48)) (ri 52 (da ho hf 52)) ((hat rfl rfl rfl).2.2.2.2.1 W) (kk hK))
   ·cases a0 <;> cases a1 <;> cases a2 <;> cases a3 <;> cases a4 <;> cases a5 <;> first | exact skip_gd (uw ho (dg ho hf 46)) (kk hK) | exact gd (wo ho (dg ho hf 46)) (st_loadS rfl 38 (.tmp 73) (oo ho) (ri 53 (da ho hf 53)) (by kernel_rfl) ((hat rfl rfl rfl).2.2.2.2.2 W hC) (kk hK))
   ·cases a0 <;> cases a1 <;> cases a2 <;> cases a3 <;> cases a4 <;> cases a5 <;> first | exact skip_gd (uw ho (dg ho hf 46)) (kk hK) | exact gd (wo ho (dg ho hf 46)) (st_field rfl 26 (.tmp 1) 2 (oo ho) (rd_out rfl rfl) (n := 3) (by kernel_rfl) (kk hK))
   ·cases a0 <;> cases a1 <;> cases a2 <;> cases a3 <;> cases a4 <;> cases a5 <;> first | exact skip_gd (uw ho (dg ho hf 46)) (kk hK) | exact gd (wo ho (dg ho hf 46)) (st_loadS rfl 4 (.tmp 75) (oo ho) (ri 55 (da ho hf 55)) (by kernel_rfl) ((hA.call hC).cells 3) (kk hK))
   ·cases a0 <;> cases a1 <;> cases a2 <;> cases a3 <;> cases a4 <;> cases a5 <;> first | exact skip_gd (uw ho (dg ho hf 46)) (kk hK) | exact gd (wo ho (dg ho hf 46)) (st_unop rfl .not 4 (.tmp 76) (oo ho) (ri 56 (da ho hf 56)) (not4 _ _) (kk hK))
   ·cases a0 <;> cases a1 <;> cases a2 <;> cases a3 <;> cases a4 <;> cases a5 <;> first | exact skip_gd (uw ho (dg ho hf 46)) (kk hK) | exact gd (wo ho (dg ho hf 46)) (st_call2 rfl 139 (.const (.int .i8 1)) (.tmp 77) #[38, 4] (oo ho) rfl (ri 57 (da ho hf 57)) (fun _ _ => rfl) (piece_any 1 (!bl) (by decide) W) (by rintro u w9 ⟨h9, h10⟩; injection h9 with h9; subst h9; subst h10; exact hK _ _ (Below.refl _ _) rfl) (fun _ _ h => nomatch h.1) (fun _ h => nomatch h.1))
   ·cases a0 <;> cases a1 <;> cases a2 <;> cases a3 <;> cases a4 <;> cases a5 <;> first | exact skip_gd (uw ho (dg ho hf 46)) (kk hK) | exact gd (wo ho (dg ho hf 46)) (st_bin rfl .eql 38 38 (.tmp 74) (.tmp 78) (oo ho) (ri 54 (da ho hf 54)) (ri 58 (da ho hf 58)) (gu_i _ _ _ _ _ _ _ _) (bin8_eqlE hb6) (kk hK))
   ·cases a0 <;> cases a1 <;> cases a2 <;> cases a3 <;> cases a4 <;> cases a5 <;> first | exact st_pickF (og ho) (.tmp 66) (.tmp 79) (.const (.bool false)) (oo ho) (ri 46 (da ho hf 46)) rfl (kk hK) | exact st_pickT (og ho) (.tmp 66) (.tmp 79) (.const (.bool false)) (oo ho) (ri 46 (da ho hf 46)) (ri 59 (da ho hf 59)) (kk hK)
   ·exact st_assign (og ho) (.tmp 80) (oo ho) (ri 60 (da ho hf 60)) (kk hK)
   ·omega
  case hend =>
   intro f9 W hC hf
   have hv : f9 61 = .bool (a0 && a1 && a2 && a3 && a4 && a5 && a6) := hf 61 (by decide)
   have hBW := below_call hB hB.size hC
   clear hf
   simp only [putL, Act.put, List.setIfInBounds_toArray, List.set_cons_succ, List.set_cons_zero]
   rw [hv]
   go_wp2_with fail
   go_ret
   exact ⟨by rw [e1.out]; rfl, hBW⟩
end Go.Proofs.YtefmplccbkmalaaGreatDoor
