import Derived.Test.YtnpomigmeieofaaGreatDoorS01
import Derived.Test.YtnpomigmeieofaaGreatDoorS31
import Derived.Sort.Statements
import Derived.Lib.QuietBelow
set_option maxHeartbeats 12800000
namespace Go.Proofs.YtnpomigmeieofaaGreatDoor
open Go.RowKit

def cI (a b : Int) : Int := if a < b then -1 else if b < a then 1 else 0
set_option maxRecDepth 100000 in
theorem compare_any (a b : Int) (w : World) : Calls Tryz.prog 72 #[.int .i64 a, .int .i64 b] w fun e w' => e = .returned (.int .i64 (cI a b)) ∧ w' = w := by
 obtain ⟨r, hr⟩ : ∃ r, r = cI a b := ⟨_, rfl⟩
 rw [← hr]
 replace hr := Lib.hid hr
 have h1 := Tryz.cmp_isNaN_int a w
 have h2 := Tryz.cmp_isNaN_int b w
 go_enter Tryz.func72, Tryz.ntmps72
 go_wp2_with fail
 refine h1.mono ?_
 rintro e w2 ⟨rfl, rfl⟩
 go_wp2_with fail
 refine h2.mono ?_
 rintro e w2 ⟨rfl, rfl⟩
 by_cases hab : a < b
 ·go_wp2_with fail
  go_ret
  exact ⟨by rw [show r = -1 from by rw [hr.out]; unfold cI; split <;> (try split) <;> omega]; rfl, rfl⟩
 ·by_cases hba : b < a
  ·go_wp2_with fail
   go_ret
   exact ⟨by rw [show r = 1 from by rw [hr.out]; unfold cI; split <;> (try split) <;> omega]; rfl, rfl⟩
  ·go_wp2_with fail
   go_ret
   exact ⟨by rw [show r = 0 from by rw [hr.out]; unfold cI; split <;> (try split) <;> omega]; rfl, rfl⟩
def orI (a b c : Int) : Int := if a ≠ 0 then a else if b ≠ 0 then b else c
set_option maxRecDepth 100000 in
theorem or_any (g : Nat) (a b c : Int) (w : World) (h0 : w.cell? ⟨g, 0, none⟩ = some (.int .i64 a)) (h1 : w.cell? ⟨g, 1, none⟩ = some (.int .i64 b)) (h2 : w.cell? ⟨g, 2, none⟩ = some (.int .i64 c)) :
  Calls Tryz.prog 71 #[.slice (some ⟨g, 0, none⟩) 3 3] w fun e w' => e = .returned (.int .i64 (orI a b c)) ∧ Below w.heap.size w w' := by
 obtain ⟨r, hr⟩ : ∃ r, r = orI a b c := ⟨_, rfl⟩
 rw [← hr]
 replace hr := Lib.hid hr
 go_enter Tryz.func71, Tryz.ntmps71
 go_wp2_with fail
 go_loopg [5, 8] 3 (fun q xv iv wr => ∃ k : Nat, q + k = 3 ∧ iv = .int .i64 (k : Nat) ∧ wr = w ∧ (0 < k → a = 0) ∧ (1 < k → b = 0) ∧ (2 < k → c = 0))
 case atStart => exact ⟨0, rfl, rfl, rfl, fun h => by omega, fun h => by omega, fun h => by omega⟩
 case round =>
  obtain ⟨k, hq, rfl, rfl, ha, hb, hcc⟩ := hrel
  by_cases hk : k < 3
  ·have hk3 : (k : Int) < 3 := by omega
   obtain ⟨x, hx, hxc⟩ : ∃ x, x = (if k = 0 then a else if k = 1 then b else c) ∧ wr.cell? ⟨g, k, none⟩ = some (.int .i64 x) := by
    rcases (by omega : k = 0 ∨ k = 1 ∨ k = 2) with rfl | rfl | rfl
    ·exact ⟨_, rfl, h0⟩
    ·exact ⟨_, rfl, h1⟩
    ·exact ⟨_, rfl, h2⟩
   replace hx := Lib.hid hx
   by_cases h0x : x = 0
   ·go_wp2_with fail
    go_roundg (gk - 1)
    case measure => omega
    case rel =>
     have hx := hx.out
     refine ⟨k + 1, by omega, by go_num, rfl, ?_, ?_, ?_⟩
     ·intro _; rcases (by omega : k = 0 ∨ 0 < k) with rfl | h
      ·rw [← h0x, hx]; simp
      ·exact ha h
     ·intro h; rcases (by omega : k = 1 ∨ 1 < k) with rfl | h
      ·rw [← h0x, hx]; simp
      ·exact hb h
     ·intro h; rcases (by omega : k = 2 ∨ 2 < k) with rfl | h
      ·rw [← h0x, hx]; simp
      ·exact hcc h
   ·go_wp2_with fail
    go_ret
    refine ⟨?_, Below.refl _ _⟩
    have hx := hx.out
    rcases (by omega : k = 0 ∨ k = 1 ∨ k = 2) with rfl | rfl | rfl
    ·simp at hx; subst hx; rw [show r = x from by rw [hr.out]; unfold orI; rw [if_pos h0x]]; rfl
    ·simp at hx; subst hx; rw [show r = x from by rw [hr.out]; unfold orI; rw [if_neg (by simpa using ha (by omega)), if_pos h0x]]; rfl
    ·simp at hx; subst hx; rw [show r = x from by rw [hr.out]; unfold orI; rw [if_neg (by simpa using ha (by omega)), if_neg (by simpa using hb (by omega))]]; rfl
  ·obtain rfl : k = 3 := by omega
   go_wp2_with fail
   go_ret
   refine ⟨?_, Below.refl _ _⟩
   rw [show r = 0 from by rw [hr.out]; unfold orI; rw [if_neg (by simpa using ha (by omega)), if_neg (by simpa using hb (by omega)), hcc (by omega)]]; rfl
theorem mkI3 (a b c : Int) (W : World) : (Instr.buildSlice 132 3 #[(0, .int .i64 a), (1, .int .i64 b), (2, .int .i64 c)]).run Tryz.prog W = .ok (.slice (some ⟨W.heap.size, 0, none⟩) 3 3) (W.alloc (.cells #[.int .i64 a, .int .i64 b, .int .i64 c] 3)) := by kernel_rfl
section ops
variable {P : Program} {o : Oper} {a : Act} {w : World} {K : Act → World → Prop} {Q : Exit → Act → World → Prop} {t : Nat → Option Bool} {X : Prop}
theorem st_buildSlice3 (hg : o.guard = none) (ty : TypeId) (x y z : Operand) (ho : o.op = .buildSlice ty 3 #[(0, x), (1, y), (2, z)]) {v1 v2 v3 u : Value} {w' : World} (hx : a.eval x = v1) (hy : a.eval y = v2) (hz : a.eval z = v3) (hr : (Instr.buildSlice ty 3 #[(0, v1), (1, v2), (2, v3)]).run P w = .ok u w') (h : K (a.put o.dst u) w') : if Region.wanted o t = true then o.wp P a w K Q else X := by
 refine st_wp hg ?_
 unfold Oper.wp execOp
 simp only [ho, List.map_toArray, List.map_cons, List.map_nil, hx, hy, hz, Sem.run_bind, hr, Result.andThen_ok, Sem.run_pure]
 exact h
end ops
def SlOf (base : Nat) (L : List Value) (v : Value) (W : World) : Prop := ∃ g, v = .slice (some ⟨g, 0, none⟩) L.length L.length ∧ base ≤ g ∧ g < W.heap.size ∧ ∀ j, j < L.length → W.cell? ⟨g, j, none⟩ = L[j]?
theorem SlOf.call {base : Nat} {L : List Value} {v : Value} {W W' : World} (h : SlOf base L v W) (hb : Below W.heap.size W W') : SlOf base L v W' := by
 obtain ⟨g, e, h1, h2, h3⟩ := h
 exact ⟨g, e, h1, Nat.lt_of_lt_of_le h2 hb.size, fun j hj => (hb.cell (p := ⟨g, j, none⟩) h2).trans (h3 j hj)⟩
theorem slOf_new {base : Nat} {L : List Value} {W : World} {t : TypeId} {l : Nat} (h : base ≤ W.heap.size) (hl : l = L.length) : SlOf base L (.slice (some ⟨W.heap.size, 0, none⟩) l l) (W.alloc (.cells L.toArray t)) := by
 subst hl
 refine ⟨_, rfl, h, by simp, fun j _ => ?_⟩
 rw [World.cell?_alloc_at _ _ _ _ rfl]
 simp
def vOrS (base : Nat) (vals : Nat → Value) (ol : Nat → Option (List Value)) (i : Nat) (v : Value) (W : World) : Prop :=
 match ol i with
 | some L => SlOf base L v W
 | none => v = vals i
theorem wp_region_sl {P : Program} {id : Nat} {ops : Array Oper} {Q : Exit → Act → World → Prop} {a : Act} {w : World} (hm : P.follows .mixedOrders = true) (hb : edgesBack .any ops = true)
  (ds : List (Option Tmp)) (hds : ops.toList.map (·.dst) = ds) (hok : dstsOk ds = true) (base : Nat) (vals : Nat → Value) (ol : Nat → Option (List Value))
  (hstep : ∀ i o f W, ops[i]? = some o → i < ops.size → Below w.heap.size w W → (∀ e ∈ o.after, Region.binds .any e = true → vOrS base vals ol e.on (f e.on) W) → ∀ K : Act → World → Prop, (∀ u W', Below W.heap.size W W' → vOrS base vals ol i u W' → K ((putL ds f 0 a).put o.dst u) W') →
   if Region.wanted o (yielded ops (putL ds f 0 a).tmps) = true then o.wp P (putL ds f 0 a) W K Q else K ((putL ds f 0 a).put o.dst undef) W)
  (hend : ∀ f W, Below w.heap.size w W → (∀ i, i < ops.size → vOrS base vals ol i (f i) W) → Q .normal (putL ds f 0 a) W) : (Code.region id ops true).wp P Q a w := by
 refine wp_region_agL hm hb ds hds hok (fun W => Below w.heap.size w W) (fun W W' => Below W.heap.size W W') (vOrS base vals ol) (fun i v W W' _ h h2 => ?_) (Below.refl _ _).drew ?_ hend
 ·unfold vOrS at h2 ⊢
  cases e : ol i with
  | none => rw [e] at h2; exact h2
  | some L => rw [e] at h2; exact h2.call h
 ·intro i o f W ho hi hC hf K hK
  exact hstep i o f W ho hi hC hf K (fun u W' h1 h2 => hK u W' (below_call hC hC.size h1) h1 h2)
def cmpC (x y : Men) : Int := orI (cI (x.upto 5) (y.upto 5)) (cI (x.w0 + x.b0) (y.w0 + y.b0)) (cmpT x y)
set_option maxRecDepth 100000 in
theorem cmpClo_any (x y : Men) (hx : Hid (validB x = true)) (hy : Hid (validB y = true)) (w : World) : Calls Tryz.prog 70 #[.agg x.cs.toArray, .agg y.cs.toArray] w fun e w' => e = .returned (.int .i64 (cmpC x y)) ∧ Below w.heap.size w w' := by
 have hX := (HasO.new w (.cells x.cs.toArray 26)).alloc (.cells y.cs.toArray 26)
 have hY := HasO.new' (w.alloc (.cells x.cs.toArray 26)) (.cells y.cs.toArray 26) (q := w.heap.size + 1) (by simp)
 have hB := (below_box w (.cells x.cs.toArray 26)).alloc (by simp) (.cells y.cs.toArray 26)
 have hmx := validB_ok hx.out
 have hmy := validB_ok hy.out
 have ex : IntKind.i64.wrap (x.w0 + x.b0) = x.w0 + x.b0 := IntWalk.i64_in _ (by have := menOk_at hmx (k := 0) (by decide); simp only [Men.sw, Men.sb] at this; omega)
 have ey : IntKind.i64.wrap (y.w0 + y.b0) = y.w0 + y.b0 := IntWalk.i64_in _ (by have := menOk_at hmy (k := 0) (by decide); simp only [Men.sw, Men.sb] at this; omega)
 go_enter Tryz.func70, Tryz.ntmps70
 go_wp2_with fail
 show Code.wp _ _ _ _ ((w.alloc (.cells x.cs.toArray 26)).alloc (.cells y.cs.toArray 26))
 generalize (w.alloc (.cells x.cs.toArray 26)).alloc (.cells y.cs.toArray 26) = w1 at *
 refine wp_region_sl (by kernel_rfl) (by kernel_rfl) [some 5, some 6, some 7, some 8, some 9, some 10, some 11, some 12, some 13, some 14, some 15, some 16, some 17, some 18, some 19, some 20, some 21, some 22, some 23, some 24, some 25, some 26, some 27, some 28, some 29, some 30, some 31, some 4] (by rfl) (by rfl) w1.heap.size (fun i8 => match i8 with | 0 => .agg x.cs.toArray | 1 => .int .i64 (x.upto 5) | 2 => .agg y.cs.toArray | 3 => .int .i64 (y.upto 5) | 4 => .int .i64 (cI (x.upto 5) (y.upto 5)) | 5 => .pointer (some ⟨w.heap.size, 2, none⟩) | 6 => .pointer (some ⟨w.heap.size, 2, none⟩) | 7 => .int .i64 (x.w0) | 8 => .pointer (some ⟨w.heap.size, 7, none⟩) | 9 => .pointer (some ⟨w.heap.size, 7, none⟩) | 10 => .int .i64 (x.b0) | 11 => .int .i64 (x.w0 + x.b0) | 12 => .pointer (some ⟨(w.heap.size + 1), 2, none⟩) | 13 => .pointer (some ⟨(w.heap.size + 1), 2, none⟩) | 14 => .int .i64 (y.w0) | 15 => .pointer (some ⟨(w.heap.size + 1), 7, none⟩) | 16 => .pointer (some ⟨(w.heap.size + 1), 7, none⟩) | 17 => .int .i64 (y.b0) | 18 => .int .i64 (y.w0 + y.b0) | 19 => .int .i64 (cI (x.w0 + x.b0) (y.w0 + y.b0)) | 20 => .agg x.cs.toArray | 21 => .string (str (textL x)) | 22 => .agg y.cs.toArray | 23 => .string (str (textL y)) | 24 => .int .i64 (cmpT x y) | 26 => .int .i64 (cmpC x y) | 27 => .int .i64 (cmpC x y) | _ => undef) (fun i8 => match i8 with | 25 => some ([.int .i64 (cI (x.upto 5) (y.upto 5)), .int .i64 (cI (x.w0 + x.b0) (y.w0 + y.b0)), .int .i64 (cmpT x y)]) | _ => none) ?hstep ?hend
 case hstep =>
  intro i9 o9 f9 W ho hi hC hf K hK
  have hi : i9 < 28 := hi
  rcases i9 with _ | _ | _ | _ | _ | _ | _ | _ | _ | _ | _ | _ | _ | _ | _ | _ | _ | _ | _ | _ | _ | _ | _ | _ | _ | _ | _ | _ | i9
  ·exact st_loadA (og ho) 26 (.tmp 2) (oo ho) (rd_out rfl rfl) x.cs (by kernel_rfl) (fun j v hv => by rw [Nat.zero_add, (hX.call hC).cells j]; simpa using hv) (kk hK)
  ·exact st_call1 (og ho) 38 (.tmp 5) #[26] (oo ho) (ri 0 (da ho hf 0)) (fun _ _ => rfl) (men_any x W hmx) (by intro u w9 h9; rw [Ending.returned.inj h9.1]; exact hK _ _ h9.2 rfl) (fun _ _ h => nomatch h.1) (fun _ h => nomatch h.1)
  ·exact st_loadA (og ho) 26 (.tmp 3) (oo ho) (rd_out rfl rfl) y.cs (by kernel_rfl) (fun j v hv => by rw [Nat.zero_add, (hY.call hC).cells j]; simpa using hv) (kk hK)
  ·exact st_call1 (og ho) 38 (.tmp 7) #[26] (oo ho) (ri 2 (da ho hf 2)) (fun _ _ => rfl) (men_any y W hmy) (by intro u w9 h9; rw [Ending.returned.inj h9.1]; exact hK _ _ h9.2 rfl) (fun _ _ h => nomatch h.1) (fun _ h => nomatch h.1)
  ·exact st_call2 (og ho) 72 (.tmp 6) (.tmp 8) #[3, 3] (oo ho) (ri 1 (da ho hf 1)) (ri 3 (da ho hf 3)) (fun _ _ => rfl) (compare_any (x.upto 5) (y.upto 5) W) (by intro u w9 h9; rw [Ending.returned.inj h9.1, h9.2]; exact hK _ _ (Below.refl _ _) rfl) (fun _ _ h => nomatch h.1) (fun _ h => nomatch h.1)
  ·exact st_field (og ho) 26 (.tmp 2) 1 (oo ho) (rd_out rfl rfl) (n := 2) (by kernel_rfl) (kk hK)
  ·exact st_index (og ho) 24 (.tmp 10) (.const (.int .i64 0)) (oo ho) (ri 5 (da ho hf 5)) rfl (by kernel_rfl) (kk hK)
  ·exact st_loadS (og ho) 3 (.tmp 11) (oo ho) (ri 6 (da ho hf 6)) (by kernel_rfl) ((hX.call hC).cells 2) (kk hK)
  ·exact st_field (og ho) 26 (.tmp 2) 2 (oo ho) (rd_out rfl rfl) (n := 7) (by kernel_rfl) (kk hK)
  ·exact st_index (og ho) 24 (.tmp 13) (.const (.int .i64 0)) (oo ho) (ri 8 (da ho hf 8)) rfl (by kernel_rfl) (kk hK)
  ·exact st_loadS (og ho) 3 (.tmp 14) (oo ho) (ri 9 (da ho hf 9)) (by kernel_rfl) ((hX.call hC).cells 7) (kk hK)
  ·exact st_bin (og ho) .add 3 3 (.tmp 12) (.tmp 15) (oo ho) (ri 7 (da ho hf 7)) (ri 10 (da ho hf 10)) (gu_i _ _ _ _ _ _ _ _) (bin_addE ex) (kk hK)
  ·exact st_field (og ho) 26 (.tmp 3) 1 (oo ho) (rd_out rfl rfl) (n := 2) (by kernel_rfl) (kk hK)
  ·exact st_index (og ho) 24 (.tmp 17) (.const (.int .i64 0)) (oo ho) (ri 12 (da ho hf 12)) rfl (by kernel_rfl) (kk hK)
  ·exact st_loadS (og ho) 3 (.tmp 18) (oo ho) (ri 13 (da ho hf 13)) (by kernel_rfl) ((hY.call hC).cells 2) (kk hK)
  ·exact st_field (og ho) 26 (.tmp 3) 2 (oo ho) (rd_out rfl rfl) (n := 7) (by kernel_rfl) (kk hK)
  ·exact st_index (og ho) 24 (.tmp 20) (.const (.int .i64 0)) (oo ho) (ri 15 (da ho hf 15)) rfl (by kernel_rfl) (kk hK)
  ·exact st_loadS (og ho) 3 (.tmp 21) (oo ho) (ri 16 (da ho hf 16)) (by kernel_rfl) ((hY.call hC).cells 7) (kk hK)
  ·exact st_bin (og ho) .add 3 3 (.tmp 19) (.tmp 22) (oo ho) (ri 14 (da ho hf 14)) (ri 17 (da ho hf 17)) (gu_i _ _ _ _ _ _ _ _) (bin_addE ey) (kk hK)
  ·exact st_call2 (og ho) 72 (.tmp 16) (.tmp 23) #[3, 3] (oo ho) (ri 11 (da ho hf 11)) (ri 18 (da ho hf 18)) (fun _ _ => rfl) (compare_any (x.w0 + x.b0) (y.w0 + y.b0) W) (by intro u w9 h9; rw [Ending.returned.inj h9.1, h9.2]; exact hK _ _ (Below.refl _ _) rfl) (fun _ _ h => nomatch h.1) (fun _ h => nomatch h.1)
  ·exact st_loadA (og ho) 26 (.tmp 2) (oo ho) (rd_out rfl rfl) x.cs (by kernel_rfl) (fun j v hv => by rw [Nat.zero_add, (hX.call hC).cells j]; simpa using hv) (kk hK)
  ·exact st_call1 (og ho) 36 (.tmp 25) #[26] (oo ho) (ri 20 (da ho hf 20)) (fun _ _ => rfl) (text_any x W hx) (by intro u w9 h9; rw [Ending.returned.inj h9.1]; exact hK _ _ h9.2 rfl) (fun _ _ h => nomatch h.1) (fun _ h => nomatch h.1)
  ·exact st_loadA (og ho) 26 (.tmp 3) (oo ho) (rd_out rfl rfl) y.cs (by kernel_rfl) (fun j v hv => by rw [Nat.zero_add, (hY.call hC).cells j]; simpa using hv) (kk hK)
  ·exact st_call1 (og ho) 36 (.tmp 27) #[26] (oo ho) (ri 22 (da ho hf 22)) (fun _ _ => rfl) (text_any y W hy) (by intro u w9 h9; rw [Ending.returned.inj h9.1]; exact hK _ _ h9.2 rfl) (fun _ _ h => nomatch h.1) (fun _ h => nomatch h.1)
  ·exact st_call2 (og ho) 73 (.tmp 26) (.tmp 28) #[9, 9] (oo ho) (ri 21 (da ho hf 21)) (ri 23 (da ho hf 23)) (fun _ _ => rfl) (Tryz.strings_Compare (str (textL x)) (str (textL y)) W) (by intro u w9 h9; rw [Ending.returned.inj h9.1, h9.2]; exact hK _ _ (Below.refl _ _) rfl) (fun _ _ h => nomatch h.1) (fun _ h => nomatch h.1)
  ·exact st_buildSlice3 (og ho) 132 (.tmp 9) (.tmp 24) (.tmp 29) (oo ho) (ri 4 (da ho hf 4)) (ri 19 (da ho hf 19)) (ri 24 (da ho hf 24)) (mkI3 _ _ _ W) (hK _ _ (below_box _ _) (slOf_new hC.size (L := [.int .i64 (cI (x.upto 5) (y.upto 5)), .int .i64 (cI (x.w0 + x.b0) (y.w0 + y.b0)), .int .i64 (cmpT x y)]) rfl))
  ·obtain ⟨g, eg, _, _, hc⟩ := hf ⟨25, .data⟩ (oa ho) rfl
   exact st_call1 (og ho) 71 (.tmp 30) #[132] (oo ho) (ri 25 eg) (fun _ _ => rfl) (or_any g _ _ _ W (hc 0 (by simp)) (hc 1 (by simp)) (hc 2 (by simp))) (by intro u w9 h9; rw [Ending.returned.inj h9.1]; exact hK _ _ h9.2 rfl) (fun _ _ h => nomatch h.1) (fun _ h => nomatch h.1)
  ·exact st_assign (og ho) (.tmp 31) (oo ho) (ri 26 (da ho hf 26)) (kk hK)
  ·omega
 case hend =>
  intro f9 W hC hf
  have h27 : f9 27 = .int .i64 (cmpC x y) := hf 27 (by decide)
  go_wp2_with fail
  refine bodyPost_ret (results_tmp (fn := Tryz.f70) Tryz.results70 _ _ _) (by rw [putL_defers]) ?_
  refine ⟨?_, below_call hB hB.size hC⟩
  rw [slot_in rfl 27 rfl (by simp) h27]
theorem cmpClo_ok : CmpOk 70 cmpC (fun m => validB m = true) := ⟨enters_of Tryz.func70 (by kernel_rfl) rfl, fun x y hx hy W => cmpClo_any x y (Lib.hid hx) (Lib.hid hy) W⟩
end Go.Proofs.YtnpomigmeieofaaGreatDoor
namespace Go.Proofs.YtnpomigmeieofaaGreatDoor
open Go.RowKit Go.Sort

structure Ord3 {α : Type} (cf : α → α → Int) : Prop where
 anti : ∀ x y, cf y x = -cf x y
 trans : ∀ x y z, cf x y ≤ 0 → cf y z ≤ 0 → cf x z ≤ 0
theorem Ord3.strict {α : Type} {cf : α → α → Int} (h : Ord3 cf) {x y z : α} (h1 : cf x y ≤ 0) (h2 : cf y z ≤ 0) (h0 : cf x z = 0) : cf x y = 0 ∧ cf y z = 0 := by
 have a1 := h.anti x z
 have a2 := h.anti y z
 have a3 := h.anti x y
 have t1 := h.trans z x y (by omega) h1
 have t2 := h.trans y z x h2 (by omega)
 omega
theorem Ord3.swo {α : Type} {cf : α → α → Int} (h : Ord3 cf) : SWO (fun x y => decide (cf x y < 0)) := by
 refine ⟨fun x => ?_, fun x y z h1 h2 => ?_, fun x y z h1 h2 => ?_⟩
 ·have := h.anti x x
  simp; omega
 ·simp only [decide_eq_true_eq] at h1 h2 ⊢
  have h3 := h.trans x y z (by omega) (by omega)
  rcases (by omega : cf x z = 0 ∨ cf x z < 0) with h0 | h0
  ·have := h.strict (by omega : cf x y ≤ 0) (by omega : cf y z ≤ 0) h0
   omega
  ·exact h0
 ·simp only [decide_eq_false_iff_not] at h1 h2 ⊢
  have a1 := h.anti x z
  have a2 := h.anti y z
  have a3 := h.anti x y
  have h3 := h.trans z y x (by omega) (by omega)
  omega
theorem cb_anti : ∀ a b : List UInt8, Lib.compareBytes b a = -Lib.compareBytes a b := by
 intro a
 induction a with
 | nil => intro b; cases b <;> rfl
 | cons x a ih =>
  intro b
  cases b with
  | nil => rfl
  | cons y b =>
   simp only [Lib.compareBytes, ih b]
   simp only [UInt8.lt_iff_toNat_lt]
   repeat' split
   all_goals first | rfl | omega
theorem cb_eq : ∀ a b : List UInt8, Lib.compareBytes a b = 0 → a = b := by
 intro a
 induction a with
 | nil => intro b; cases b <;> simp [Lib.compareBytes]
 | cons x a ih =>
  intro b
  cases b with
  | nil => simp [Lib.compareBytes]
  | cons y b =>
   simp only [Lib.compareBytes]
   intro h
   split at h
   ·omega
   ·split at h
    ·omega
    ·rename_i h1 h2
     have e : x = y := by
      simp only [UInt8.lt_iff_toNat_lt] at h1 h2
      exact UInt8.toNat_inj.1 (by omega)
     rw [e, ih b h]
theorem cb_trans : ∀ a b c : List UInt8, Lib.compareBytes a b ≤ 0 → Lib.compareBytes b c ≤ 0 → Lib.compareBytes a c ≤ 0 := by
 intro a
 induction a with
 | nil => intro b c _ _; cases c <;> simp [Lib.compareBytes]
 | cons x a ih =>
  intro b c h1 h2
  cases b with
  | nil => simp [Lib.compareBytes] at h1
  | cons y b =>
   cases c with
   | nil => simp [Lib.compareBytes] at h2
   | cons z c =>
    have h3 := ih b c
    simp only [Lib.compareBytes, UInt8.lt_iff_toNat_lt] at h1 h2 ⊢
    repeat' split at h1
    all_goals repeat' split at h2
    all_goals repeat' split
    all_goals first | omega | exact h3 h1 h2
theorem ord_bytes : Ord3 Lib.compareBytes := ⟨cb_anti, cb_trans⟩
theorem ord_map {α β : Type} {cf : β → β → Int} (h : Ord3 cf) (f : α → β) : Ord3 (fun x y => cf (f x) (f y)) := ⟨fun _ _ => h.anti _ _, fun _ _ _ => h.trans _ _ _⟩
theorem ord_cI : Ord3 cI := by
 refine ⟨fun x y => ?_, fun x y z => ?_⟩ <;> unfold cI
 ·repeat' split
  all_goals omega
 ·intro h1 h2
  repeat' split at h1
  all_goals repeat' split at h2
  all_goals repeat' split
  all_goals omega
def or2 (a b : Int) : Int := if a ≠ 0 then a else b
theorem ord_or {α : Type} {c1 c2 : α → α → Int} (h1 : Ord3 c1) (h2 : Ord3 c2) : Ord3 (fun x y => or2 (c1 x y) (c2 x y)) := by
 refine ⟨fun x y => ?_, fun x y z => ?_⟩
 ·have a1 := h1.anti x y
  have a2 := h2.anti x y
  unfold or2
  repeat' split
  all_goals omega
 ·intro e1 e2
  have k1 : c1 x y ≤ 0 := by unfold or2 at e1; split at e1 <;> omega
  have k2 : c1 y z ≤ 0 := by unfold or2 at e2; split at e2 <;> omega
  have k3 := h1.trans x y z k1 k2
  show or2 (c1 x z) (c2 x z) ≤ 0
  unfold or2
  by_cases h0 : c1 x z = 0
  ·obtain ⟨z1, z2⟩ := h1.strict k1 k2 h0
   unfold or2 at e1 e2
   rw [if_neg (by omega)] at e1 e2
   rw [if_neg (by omega)]
   exact h2.trans x y z e1 e2
  ·rw [if_pos h0]; exact k3
theorem orI_eq (a b c : Int) : orI a b c = or2 a (or2 b c) := rfl
theorem ord_cmpT : Ord3 cmpT := ord_map ord_bytes textL
theorem ord_cmpC : Ord3 cmpC := ord_or (ord_map ord_cI (fun m : Men => m.upto 5)) (ord_or (ord_map ord_cI (fun m : Men => m.w0 + m.b0)) ord_cmpT)
theorem text_inj {x y : Men} (hx : validB x = true) (hy : validB y = true) (h : textL x = textL y) : x = y := by
 have h1 := parse_text hx
 have h2 := parse_text hy
 rw [h, h2] at h1
 exact (Option.some.inj h1).symm
theorem cmpT_eq {x y : Men} (hx : validB x = true) (hy : validB y = true) (h : cmpT x y = 0) : x = y := text_inj hx hy (cb_eq _ _ h)
theorem cmpC_eq {x y : Men} (hx : validB x = true) (hy : validB y = true) (h : cmpC x y = 0) : x = y := by
 refine cmpT_eq hx hy ?_
 unfold cmpC at h
 rw [orI_eq] at h
 unfold or2 at h
 split at h
 ·omega
 ·split at h
  ·omega
  ·exact h
def vN (m : Men) : Prop :=
 (0 ≤ m.w0 ∧ 0 ≤ m.w1 ∧ 0 ≤ m.w2 ∧ 0 ≤ m.w3 ∧ 0 ≤ m.w4 ∧ 0 ≤ m.b0 ∧ 0 ≤ m.b1 ∧ 0 ≤ m.b2 ∧ 0 ≤ m.b3 ∧ 0 ≤ m.b4) ∧ (3 ≤ m.f ∧ m.f ≤ 8 ∧ 3 ≤ m.r ∧ m.r ≤ 8) ∧
 m.w0 + m.b0 + (m.w1 + m.b1) + (m.w2 + m.b2) + (m.w3 + m.b3) + (m.w4 + m.b4) ≤ 4 ∧ (m.w0 = 0 ∨ m.b0 = 0 ∨ m.r < 6)
theorem vN_iff (m : Men) : validB m = true ↔ vN m := by
 have e : m.upto 5 = m.w0 + m.b0 + (m.w1 + m.b1) + (m.w2 + m.b2) + (m.w3 + m.b3) + (m.w4 + m.b4) := by
  simp only [Men.upto, Men.sw, Men.sb]; omega
 unfold validB vN menOk Men.okAt sizeB sideB pawnB
 simp only [e, Men.sw, Men.sb, Bool.and_eq_true, Bool.or_eq_true, decide_eq_true_eq]
 omega
theorem fewL_valid {m : Men} (h : vN m) : ∀ k, k ≤ 5 → ∀ x ∈ fewL m k, vN x := by
 intro k
 induction k with
 | zero => intro _ x hx; simp [fewL] at hx
 | succ k ih =>
  intro hk x hx
  rw [fewL] at hx
  split at hx
  ·rename_i h0
   rcases List.mem_append.1 hx with hx | hx
   ·exact ih (by omega) x hx
   ·obtain rfl := List.mem_singleton.1 hx
    unfold vN at h ⊢
    rcases five (show k < 5 by omega) with rfl | rfl | rfl | rfl | rfl <;> simp only [setW_, Men.sw] at h0 ⊢ <;> omega
  ·exact ih (by omega) x hx
theorem flipM_valid {m : Men} (h : vN m) : vN (flipM m) := by unfold vN flipM at *; simp only at h ⊢; omega
theorem tkL_valid {m : Men} (h : vN m) : ∀ x ∈ tkL m, vN x := by
 intro x hx
 obtain ⟨y, hy, rfl⟩ := List.mem_map.1 hx
 exact flipM_valid (fewL_valid (flipM_valid h) 5 (Nat.le_refl _) y hy)
theorem proM_valid {m : Men} (h : vN m) (h0 : 0 < m.w0) {i : Nat} (h1 : 1 ≤ i) (h4 : i ≤ 4) : vN (proM m i) := by
 unfold vN at h ⊢
 rcases (by omega : i = 1 ∨ i = 2 ∨ i = 3 ∨ i = 4) with rfl | rfl | rfl | rfl <;> simp only [proM, setW_, Men.sw] <;> omega
theorem playedL_valid {m : Men} (h : vN m) : ∀ x ∈ playedL m, vN x := by
 intro x hx
 unfold playedL at hx
 split at hx
 ·rename_i h0
  have key : ∀ i, i ≤ 4 → ∀ x ∈ plyL m i, vN x := by
   intro i
   induction i with
   | zero => intro _ x hx; exact tkL_valid h x hx
   | succ i ih =>
    intro hi x hx
    rw [plyL] at hx
    rcases List.mem_append.1 hx with hx | hx
    ·exact ih (by omega) x hx
    ·have hp := proM_valid h h0 (show 1 ≤ i + 1 by omega) hi
     rcases List.mem_cons.1 hx with rfl | hx
     ·exact hp
     ·exact tkL_valid hp x hx
  exact key 4 (Nat.le_refl _) x hx
 ·exact tkL_valid h x hx
abbrev VMen := { m : Men // validB m = true }
instance : Inhabited VMen := ⟨⟨⟨3, 3, 0, 0, 0, 0, 0, 0, 0, 0, 0, 0⟩, by decide⟩⟩
abbrev encV (x : VMen) : List Value := x.1.cs
theorem flat_get (d : Array VMen) (t : Nat) : (flatK encV 12 d).toList[t]? = (mensV (d.toList.map Subtype.val))[t]? := by
 by_cases ht : t < d.size * 12
 ·have hj : t / 12 < d.size := by omega
  have hi : t % 12 < 12 := Nat.mod_lt _ (by omega)
  have h1 := get_flatK encV 12 d t ht
  have hx : (d.toList.map Subtype.val)[t / 12]?.getD zeroMen = (d[t / 12]!).1 := by
   rw [List.getElem?_map, Array.getElem?_toList, Array.getElem?_eq_getElem hj]
   simp [getElem!_pos d (t / 12) hj]
  have h2 : ((d[t / 12]!).1.cs)[t % 12]? = some ((encV d[t / 12]!)[t % 12]!) := by
   have hl : (encV d[t / 12]!).length = 12 := rfl
   rw [List.getElem?_eq_getElem (by rw [hl]; exact hi)]
   simp [hi]
  have h3 := mensV_get (d.toList.map Subtype.val) (t / 12) (t % 12) _ (by simpa using hj) (by rw [hx]; exact h2)
  rw [show t / 12 * 12 + t % 12 = t by omega] at h3
  rw [h3, ← h1, Array.getElem?_toList, Array.getElem?_eq_getElem (by simpa using ht)]
  simp [ht]
 ·rw [List.getElem?_eq_none (by simp; omega), List.getElem?_eq_none (by rw [mensV_len]; simp; omega)]
theorem flat_mens (d : Array VMen) : (flatK encV 12 d).toList = mensV (d.toList.map Subtype.val) := List.ext_getElem? (flat_get d)
theorem put_take (F cur : Array Value) (h : F.size ≤ cur.size) : (putCells id 0 F cur).toList.take F.size = F.toList := by
 apply List.ext_getElem?
 intro t
 by_cases ht : t < F.size
 ·rw [List.getElem?_take_of_lt ht, Array.getElem?_toList, Array.getElem?_toList]
  unfold putCells
  rw [Array.getElem?_mapIdx, Array.getElem?_eq_getElem (show t < cur.size by omega), Array.getElem?_eq_getElem ht]
  simp [ht]
 ·rw [List.getElem?_eq_none (by simp; omega), List.getElem?_eq_none (by simpa using ht)]
theorem regrown_lays {P : Program} {f : FuncId} {args : Array Value} {w : World} {v : Value} (h : Calls P f args w fun e w' => e = .returned v ∧ Below w.heap.size w w') :
  Calls P f args w fun e w' => e = .returned v ∧ ∃ q os, w' = grow (w.drewN q) os := by
 refine (calls_drawn h).mono ?_
 rintro e w' ⟨⟨rfl, hb⟩, hd⟩
 obtain ⟨p, hp⟩ := regrown_of_below hb
 have hd := hd v rfl
 have hdr : w'.drawn = p.d := by rw [hp]; rfl
 refine ⟨rfl, p.d - w.drawn, p.os, ?_⟩
 rw [hp]
 congr 1
 show redrawn w p.d = w.drewN (p.d - w.drawn)
 unfold redrawn World.drewN
 congr 1
 omega
theorem agg26 (w : World) : (isAgg 26).run Tryz.prog w = .ok true w := by kernel_rfl
theorem size26 (w : World) : (Go.sizeOf 26).run Tryz.prog w = .ok 12 w := by kernel_rfl
set_option maxRecDepth 100000 in
theorem sortAll_any (fn : Nat) (cf : Men → Men → Int) (hO : Ord3 cf) (hc : CmpOk fn cf (fun m => validB m = true)) (base g n cap : Nat) (L : List Men) (hn : n = L.length) (hV : ∀ x ∈ L, validB x = true) (w : World)
  (hown : w.ownsRow base 26 12 (.slice (some ⟨g, 0, none⟩) n cap) n (mensV L)) (hn2 : n < 100000000) :
  Calls Tryz.prog 69 #[.slice (some ⟨g, 0, none⟩) n cap, .func (.func fn) #[] #[]] w fun e w' => e = .returned (.tuple #[]) ∧ ∃ L', L'.Perm L ∧ L'.Pairwise (fun x y => ¬ cf y x < 0) ∧ w'.ownsRow base 26 12 (.slice (some ⟨g, 0, none⟩) n cap) n (mensV L') ∧ w.grownBy w' (some g) := by
 obtain ⟨d, hd⟩ : ∃ d : Array VMen, d.toList.map Subtype.val = L := ⟨(L.attach.map (fun x => ⟨x.1, hV x.1 x.2⟩)).toArray, by simp⟩
 have hsz : d.size = n := by rw [hn, ← hd]; simp
 rcases hown.2 with ⟨h1, _⟩ | ⟨g', cap', cur, hv, hbase, hheap, hncap, hcap, hcs, htake⟩
 ·cases h1
 injection hv with hv1 _ hv2
 injection hv1 with hv1; injection hv1 with hv1
 subst hv1 hv2
 have hblk : g < w.heap.size := (Array.getElem?_eq_some_iff.1 hheap).1
 have hH : HoldsK encV 12 w g 0 d := by
  intro t ht
  have ht' : t < n * 12 := by rw [← hsz]; simpa using ht
  have h1 : cur[t]? = some ((flatK encV 12 d)[t]!) := by
   have h2 := flat_get d t
   rw [hd, ← htake, List.getElem?_take_of_lt ht', Array.getElem?_toList, Array.getElem?_toList, Array.getElem?_eq_getElem ht] at h2
   rw [← h2, getElem!_pos _ t ht]
  refine ⟨?_, ?_⟩
  ·simp [World.cell?, hheap, h1]
  ·simp [World.frozen?, hheap]
 have hcmp : CmpLays Tryz.prog fn #[] encV 12 (fun x y : VMen => cf x.1 y.1) g 0 d.size w := fun m os dk _ x y => regrown_lays (hc.2 x.1 y.1 x.2 y.2 _)
 have h := AnyQ.slices_SortFunc (P := Tryz.prog) (ρ := Tryz.srt_ren) Tryz.srt 12 agg26 size26 encV (fun _ => rfl) (fun x => men_one26 x.1) (fun x y : VMen => cf x.1 y.1) (ord_map hO Subtype.val).swo fn #[] g 0 cap d w hc.1 hcmp hH hblk (by omega)
 rw [hsz] at h
 refine h.mono ?_
 rintro e w' ⟨he, d', k, os, hp, hs, rfl⟩
 have hsz' : d'.size = n := by have := hp.1; omega
 refine ⟨he, d'.toList.map Subtype.val, ?_, ?_, ?_, ?_⟩
 ·rw [← hd]
  refine List.Perm.map _ ?_
  have h3 := hp.2.2
  rw [← hsz, Array.extract_size] at h3
  rw [hsz, ← hsz', Array.extract_size] at h3
  exact h3
 ·rw [List.pairwise_map, List.pairwise_iff_getElem]
  intro i j hi hj hij
  have hi' : i < d'.size := by simpa using hi
  have hj' : j < d'.size := by simpa using hj
  have h4 := hs i j (Nat.zero_le _) hij (by omega)
  rw [getElem!_pos d' i hi', getElem!_pos d' j hj'] at h4
  simpa using of_decide_eq_false h4
 ·have hF : (flatK encV 12 d').size = n * 12 := by rw [size_flatK, hsz']
  refine ⟨by rw [mensV_len]; simp [hsz'], .inr ⟨g, cap, putCells id 0 (flatK encV 12 d') cur, rfl, hbase, ?_, hncap, hcap, by simp [putCells, hcs], ?_⟩⟩
  ·show ((w.heap.modify g (onCells (putCells id 0 (flatK encV 12 d')))) ++ os)[g]? = _
   rw [Array.getElem?_append_left (by simpa using hblk), Array.getElem?_modify, if_pos rfl, hheap]
   rfl
  ·rw [← hF, put_take _ _ (by rw [hF, hcs]; exact Nat.mul_le_mul_right 12 hncap), flat_mens]
 ·refine ⟨rfl, rfl, rfl, ?_, ?_⟩
  ·show w.heap.size ≤ ((w.heap.modify g (onCells (putCells id 0 (flatK encV 12 d')))) ++ os).size
   simp
  ·intro j hj hne
   show ((w.heap.modify g (onCells (putCells id 0 (flatK encV 12 d')))) ++ os)[j]? = _
   rw [Array.getElem?_append_left (by simpa using hj), Array.getElem?_modify, if_neg (fun e => hne (by rw [e]))]
end Go.Proofs.YtnpomigmeieofaaGreatDoor
