import Derived.Test.YtnpomigmeieofaaGreatDoorS29
import Derived.Test.YtnpomigmeieofaaGreatDoorS45
import Derived.Test.YtnpomigmeieofaaGreatDoorS48
set_option maxHeartbeats 12800000
namespace Go.Proofs.YtnpomigmeieofaaGreatDoor
open Go.RowKit
attribute [local go_sem] Oper.semAt_some

theorem backG_any (gg cap : Nat) (w : World) : Calls Tryz.prog 62 #[.slice (some ⟨gg, 0, none⟩) 10 cap] w fun e w' =>
  e = .returned (.func (.func 119) #[] #[.pointer (some ⟨w.heap.size, 0, none⟩)]) ∧ HasO w' w.heap.size (.cells #[.slice (some ⟨gg, 0, none⟩) 10 cap] 82 (0, 0)) ∧ Below w.heap.size w w' ∧ w'.heap.size = w.heap.size + 1 := by
 go_enter Tryz.func62, Tryz.ntmps62
 go_wp2_with fail
 go_ret
 exact ⟨rfl, HasO.new w _, below_box w _, by simp⟩
theorem quo_nat (n s : Nat) (hs : 1 ≤ s) (hn : n ≤ 8192) (W : World) : (binOp .quo 3 (.int .i64 (n : Nat)) (.int .i64 (s : Nat))).run Tryz.prog W = .ok (.int .i64 ((n / s : Nat) : Int)) W := by
 have h2 : n / s ≤ n := Nat.div_le_self _ _
 have h1 : IntKind.i64.wrap ((n / s : Nat) : Int) = ((n / s : Nat) : Int) := by
  generalize n / s = d at *
  exact IntWalk.i64_in _ (by omega)
 have h3 : (n : Int).tdiv (s : Int) = ((n / s : Nat) : Int) := rfl
 have h4 : ¬ s = 0 := by omega
 simp only [go_sem, h3, h1]
 simp [h4]
theorem rem_nat (n s : Nat) (hs : 1 ≤ s) (W : World) : (binOp .rem 3 (.int .i64 (n : Nat)) (.int .i64 (s : Nat))).run Tryz.prog W = .ok (.int .i64 ((n % s : Nat) : Int)) W := by
 have h3 : (n : Int).tmod (s : Int) = ((n % s : Nat) : Int) := rfl
 have h4 : ¬ s = 0 := by omega
 simp only [go_sem, h3]
 simp [h4]
theorem alloc3 (W : World) : (Instr.alloc 3 true (.tuple #[])).run Tryz.prog W = .ok (.pointer (some ⟨W.heap.size, 0, none⟩)) (W.alloc (.cells #[.int .i64 0] 3)) := by kernel_rfl
theorem mk38 (s : Nat) (hs : s ≤ 64) (W : World) : (Instr.makeSlice 38 (.int .i64 (s : Nat)) (.int .i64 (s : Nat))).run Tryz.prog W = .ok (.slice (some ⟨W.heap.size, 0, none⟩) s s) (W.alloc (pcs (List.replicate s 0))) := by
 obtain ⟨i, hi, hz, hsz, hby⟩ := info_parts info81
 have h := run_makeSlice (P := Tryz.prog) W 38 81 i _ Tryz.underlying38 hi hz .i64 .i64 (s : Int) (s : Int) (by omega) (Int.le_refl _) (by rw [hsz]; omega) (by rw [hby]; omega) (by omega)
 rw [hsz, Int.toNat_natCast, Nat.mul_one] at h
 rw [h]
 have e : madeCells (Value.int .i8 0).cells s = ((List.replicate s (0 : Int)).map (Value.int .i8)).toArray := by
  apply Array.ext'
  rw [show (Value.int .i8 0).cells = #[.int .i8 0] from rfl, toList_madeCells_one, List.map_replicate]
 rw [e]
section ops
variable {P : Program} {o : Oper} {a : Act} {w : World} {K : Act → World → Prop} {Q : Exit → Act → World → Prop} {t : Nat → Option Bool} {X : Prop}
theorem st_makeSlice (hg : o.guard = none) (ty : TypeId) (x y : Operand) (ho : o.op = .makeSlice ty x y) {v1 v2 u : Value} {w' : World} (hx : a.eval x = v1) (hy : a.eval y = v2) (hr : (Instr.makeSlice ty v1 v2).run P w = .ok u w') (h : K (a.put o.dst u) w') : if Region.wanted o t = true then o.wp P a w K Q else X := by
 refine st_wp hg ?_
 unfold Oper.wp
 simp [execOp, ho, hx, hy, hr, Result.andThen]
 exact h
end ops
theorem arr_pcs {W : World} {g : Nat} {xs : List Int} (h : HasO W g (pcs xs)) : Arr .i8 W (some ⟨g, 0, none⟩) xs := by
 refine .inr ⟨g, 0, rfl, h.lt, fun j hj => ?_⟩
 rw [h.cells (0 + j)]
 simp [List.getElem?_eq_getElem hj]
theorem cell_block {W W' : World} {g : Nat} {o : Obj} (h : HasO W g o) (h' : HasO W' g o) (i : Nat) : W'.cell? ⟨g, i, none⟩ = W.cell? ⟨g, i, none⟩ := by
 unfold HasO at h h'
 unfold World.cell?
 rw [h, h']
def pw21 (w : World) (gp p2 q11 : Nat) (b : Bool) (k : Nat) : World := match k with
 | 0 => w.drew
 | 1 => w.drew.setCell ⟨gp, p2, none⟩ (.int .i8 6)
 | _ => (w.drew.setCell ⟨gp, p2, none⟩ (.int .i8 6)).setCell ⟨q11, 0, none⟩ (.bool b)
theorem pw21_far {w : World} {gp p2 q11 : Nat} {b : Bool} {q : Nat} {o : Obj} (h : HasO w q o) (h1 : q ≠ gp) (h2 : q ≠ q11) (k : Nat) : HasO (pw21 w gp p2 q11 b k) q o := by
 have h' : HasO w.drew q o := h
 match k with
 | 0 => exact h'
 | 1 => exact h'.far h1 _
 | k + 2 => exact (h'.far (p := ⟨gp, p2, none⟩) h1 _).far (p := ⟨q11, 0, none⟩) h2 _
theorem pw21_q {w : World} {gp p2 q11 : Nat} (h : HasO w q11 (.cells #[.bool true] 4 (0, 0))) (h1 : q11 ≠ gp) (k : Nat) : HasO (pw21 w gp p2 q11 true k) q11 (.cells #[.bool true] 4 (0, 0)) := by
 have h' : HasO w.drew q11 (.cells #[.bool true] 4 (0, 0)) := h
 match k with
 | 0 => exact h'
 | 1 => exact h'.far h1 _
 | k + 2 => exact (h'.far (p := ⟨gp, p2, none⟩) h1 _).set_ 0 (.bool true)
def xs1P (s n : Nat) : List Int := (List.replicate s (0 : Int)).set (n % s) (-6)
def xs2P (s n : Nat) : List Int := (xs1P s n).set (n / s % s) 6
def fr2P (s n : Nat) : Bool := decide ((xs1P s n)[n / s % s]?.getD 0 = 0)
def blP (s n : Nat) : Bool := ((n / s / s : Nat) : Int) == 1
def PosPost (F R s n : Nat) (w : World) (e : Ending) (w' : World) : Prop :=
 (if (fr2P s n && pvB F R (xs2P s n) (blP s n) 0 (-1) 0 1) = true then ∃ gp, e = .returned (.tuple #[.agg (posCs F R (some ⟨gp, 0, none⟩) s s (blP s n) 0 (-1) 0 1).toArray, .int .i64 0]) ∧ w.heap.size ≤ gp ∧ HasO w' gp (pcs (xs2P s n))
  else e = .returned (.tuple #[.agg (posCs 0 0 none 0 0 false 0 0 0 0).toArray, .int .i64 9])) ∧ Below w.heap.size w w'
set_option maxRecDepth 100000 in
theorem pos0_any (m : Men) (F R s n : Nat) (hf : m.f = (F : Nat)) (hr : m.r = (R : Nat)) (hFR : F * R = s) (hs64 : s ≤ 64) (hs1 : 1 ≤ s) (hgrp : ∀ j, j < 10 → m.grp j = 0) (hcnt : cntE m = (((2 * s * s : Nat) : Int), 0)) (hn : n < 2 * s * s)
  (w : World) (hg : GlobOk w) :
  Calls Tryz.prog 21 #[.agg m.cs.toArray, .int .i64 (n : Nat)] w fun e w' => PosPost F R s n w e w' := by
 have hM := HasO.new w (.cells m.cs.toArray 26)
 have hM := (hM.alloc (.cells #[.int .i64 (n : Nat)] 3)).alloc (.cells (posCs 0 0 none 0 0 false 0 0 0 0).toArray 40)
 have hN := (HasO.new' (w.alloc (.cells m.cs.toArray 26)) (.cells #[.int .i64 (n : Nat)] 3) (q := w.heap.size + 1) (by simp)).alloc (.cells (posCs 0 0 none 0 0 false 0 0 0 0).toArray 40)
 have hR := HasO.new' ((w.alloc (.cells m.cs.toArray 26)).alloc (.cells #[.int .i64 (n : Nat)] 3)) (.cells (posCs 0 0 none 0 0 false 0 0 0 0).toArray 40) (q := w.heap.size + 2) (by simp)
 have hB := ((below_box w (.cells m.cs.toArray 26)).alloc (by simp) (.cells #[.int .i64 (n : Nat)] 3)).alloc (by simp; omega) (.cells (posCs 0 0 none 0 0 false 0 0 0 0).toArray 40)
 have hF : m.cs.toArray[0]? = some (.int .i64 (F : Nat)) := by rw [← hf]; rfl
 have hRr : m.cs.toArray[1]? = some (.int .i64 (R : Nat)) := by rw [← hr]; rfl
 have emul : IntKind.i64.wrap ((F : Int) * (R : Nat)) = (s : Nat) := by rw [← Int.natCast_mul, hFR]; exact IntWalk.i64_in _ (by omega)
 have hct := fun W => Count_any m W
 rw [hcnt] at hct
 have hng := Nat.mul_le_mul (Nat.mul_le_mul (Nat.le_refl 2) hs64) hs64
 have hn2 : (n : Int) < ((2 * s * s : Nat) : Int) := by omega
 have hn9 : n ≤ 8192 := by omega
 obtain ⟨tot, htot⟩ : ∃ tot, tot = 2 * s * s := ⟨_, rfl⟩
 rw [← htot] at hct hn2
 replace htot := Lib.hid htot
 clear hcnt hn hng hf hr
 replace hFR := Lib.hid hFR
 refine (callsIn_wide (n := 3)).1 ?_
 refine callsIn_of_wp_marks Tryz.func21 rfl trivial ?_ rfl
 simp only [Tryz.ntmps21, List.size_toArray, List.length_cons, List.length_nil, Nat.reduceAdd, Nat.reduceSub, Array.replicate_succ, Array.replicate_zero, List.push_toArray, List.append_toArray, List.nil_append, List.cons_append]
 rw [wpIn_wide]
 go_upto_region 1 with fail
 show Code.wp _ _ _ _ (((w.alloc (.cells m.cs.toArray 26)).alloc (.cells #[.int .i64 (n : Nat)] 3)).alloc (.cells (posCs 0 0 none 0 0 false 0 0 0 0).toArray 40))
 have hs1w : w.heap.size + 3 = (((w.alloc (.cells m.cs.toArray 26)).alloc (.cells #[.int .i64 (n : Nat)] 3)).alloc (.cells (posCs 0 0 none 0 0 false 0 0 0 0).toArray 40)).heap.size := by simp
 generalize ((w.alloc (.cells m.cs.toArray 26)).alloc (.cells #[.int .i64 (n : Nat)] 3)).alloc (.cells (posCs 0 0 none 0 0 false 0 0 0 0).toArray 40) = w1 at *
 obtain ⟨q0, hq0⟩ : ∃ q, q = w.heap.size := ⟨_, rfl⟩
 rw [← hq0] at hM hN hR hs1w ⊢
 replace hq0 := Lib.hid hq0
 go_wp2_with (first | (refine wpList_loadO rfl 26 (.tmp 2) rfl q0 _ 26 rfl hM (by kernel_rfl) ?_) | fail)
 refine (hct w1).mono ?_
 rintro e w2 ⟨rfl, hb2⟩
 replace hM := hM.call hb2
 replace hN := hN.call hb2
 replace hR := hR.call hb2
 replace hB := below_call hB hB.size hb2
 have hs2 := Nat.le_trans (Nat.le_of_eq hs1w) hb2.size
 clear hct hb2 hs1w
 have hc3 := hN.cells 0
 have hl3 := hN.lt
 have hn0 : ¬ (n : Int) < 0 := by omega
 have hn1 : ¬ (n : Int) ≥ tot := by omega
 go_wp2_with fail
 refine wp_region_relL (by kernel_rfl) (by kernel_rfl) [some 36, some 37, some 38, some 39, some 40, some 41, some 42, some 43, some 8, some 9, none, none] (by rfl) (by rfl) (s6R w2 (fun i8 => match i8 with | 0 => .pointer (some ⟨q0, 0, none⟩) | 1 => .pointer (some ⟨q0, 0 + 0, none⟩) | 2 => .int .i64 ((F : Nat)) | 3 => .pointer (some ⟨q0, 0, none⟩) | 4 => .pointer (some ⟨q0, 0 + 1, none⟩) | 5 => .int .i64 ((R : Nat)) | 6 => .int .i64 ((s : Nat)) | _ => undef) s) (fun S S9 f9 W hS h => s6_congr S S9 f9 W hS h) (fun f9 => s6_init f9) ?hstep ?hend
 case hstep =>
  intro S i9 o9 f9 W ho hi hSj hpre hcl hR K hK
  have hi : i9 < 12 := hi
  have hR0 := hR
  obtain ⟨hC, h0, h7, h8, h9, h10, h11⟩ := hR0
  rcases i9 with _ | _ | _ | _ | _ | _ | _ | _ | _ | _ | _ | _ | i9
  ·exact st_field (og ho) 26 (.tmp 2) 0 (oo ho) (rd_out rfl rfl) (n := 0) (by kernel_rfl) (hK _ _ (s6_val hR (i := 0) (by decide)))
  ·exact st_field (og ho) 23 (.tmp 36) 0 (oo ho) (ri 0 (h0 0 (by omega) (da ho hpre 0))) (n := 0) (by kernel_rfl) (hK _ _ (s6_val hR (i := 1) (by decide)))
  ·exact st_loadS (og ho) 3 (.tmp 37) (oo ho) (ri 1 (h0 1 (by omega) (da ho hpre 1))) (by kernel_rfl) (((hM.call hC).cells 0).trans hF) (hK _ _ (s6_val hR (i := 2) (by decide)))
  ·exact st_field (og ho) 26 (.tmp 2) 0 (oo ho) (rd_out rfl rfl) (n := 0) (by kernel_rfl) (hK _ _ (s6_val hR (i := 3) (by decide)))
  ·exact st_field (og ho) 23 (.tmp 39) 1 (oo ho) (ri 3 (h0 3 (by omega) (da ho hpre 3))) (n := 1) (by kernel_rfl) (hK _ _ (s6_val hR (i := 4) (by decide)))
  ·exact st_loadS (og ho) 3 (.tmp 40) (oo ho) (ri 4 (h0 4 (by omega) (da ho hpre 4))) (by kernel_rfl) (((hM.call hC).cells 1).trans hRr) (hK _ _ (s6_val hR (i := 5) (by decide)))
  ·exact st_bin (og ho) .mul 3 3 (.tmp 38) (.tmp 41) (oo ho) (ri 2 (h0 2 (by omega) (da ho hpre 2))) (ri 5 (h0 5 (by omega) (da ho hpre 5))) (gu_i _ _ _ _ _ _ _ _) (bin_mulE emul) (hK _ _ (s6_val hR (i := 6) (by decide)))
  ·exact st_call0 (og ho) 46 (oo ho) (fun _ _ => rfl) (ways_any W) (by rintro u w9 ⟨g, h9, hw9⟩; injection h9 with h9; subst h9; exact hK _ _ (s6_7 hR hSj hw9.1 (Nat.le_trans hC.size hw9.2.1) ⟨hw9.2.2.1, fun n k hn hk => ways_cell hw9 (Below.refl _ _) hn hk⟩)) (by rintro ch w9 ⟨g, h9, _⟩; cases h9) (by rintro w9 ⟨g, h9, _⟩; cases h9)
  ·exact st_alloc (og ho) 3 (oo ho) (alloc3 W) (hK _ _ (s6_8 hR hSj))
  ·exact st_alloc (og ho) 77 (oo ho) (alloc118 W) (hK _ _ (s6_9 hR hSj))
  ·obtain ⟨q, e8, _, hxq⟩ := h8 (da ho hpre 8)
   exact st_storeS (og ho) 3 (.tmp 8) (.tmp 42) (oo ho) (ri 8 e8) (ri 6 (h0 6 (by omega) (da ho hpre 6))) (by kernel_rfl) (by rfl) (hxq.cells 0) (hxq.frozen 0) (hK _ _ (s6_10 hR (da ho hpre 8) e8))
  ·obtain ⟨q, e9, _, x, hxq, _⟩ := h9 (da ho hpre 9)
   obtain ⟨g, e7, _, _⟩ := h7 (da ho hpre 7)
   exact st_storeS (og ho) 77 (.tmp 9) (.tmp 43) (oo ho) (ri 9 e9) (ri 7 rfl) (by kernel_rfl) (by rw [e7]; rfl) (hxq.cells 0) (hxq.frozen 0) (hK _ _ (s6_11 hR (da ho hpre 7) (da ho hpre 9) e9))
  ·omega
 case hend =>
  intro S f9 W hS hR
  obtain ⟨hC, h0, h7, h8, h9, _, _⟩ := hR
  obtain ⟨g, e7, hg0, htab⟩ := h7 (hS 7 (by decide))
  obtain ⟨q8, e8, hq8, hX8⟩ := h8 (hS 8 (by decide))
  obtain ⟨q9, e9, hq9, x, hX9, hx9⟩ := h9 (hS 9 (by decide))
  rw [hx9 (hS 11 (by decide)), e7] at hX9
  rw [hS 10 (by decide)] at hX8
  replace hX8 : HasO W q8 (.cells #[.int .i64 (s : Nat)] 3 (0, 0)) := hX8
  clear h0 h7 h8 h9 hx9 hS
  simp only [putL, Act.put, List.setIfInBounds_toArray, List.set_cons_succ, List.set_cons_zero]
  rw [e7, e8, e9]
  clear e7 e8 e9
  generalize f9 0 = u0, f9 1 = u1, f9 2 = u2, f9 3 = u3, f9 4 = u4, f9 5 = u5, f9 6 = u6, f9 10 = u7, f9 11 = u8

  have hM3 := hM.call hC
  have hN3 := hN.call hC
  have hR3 := hR.call hC
  have hB3 := below_call hB hB.size hC
  have hs3 := Nat.le_trans hs2 hC.size
  have hq89 : w2.heap.size ≤ q8 ∧ w2.heap.size ≤ q9 ∧ w2.heap.size ≤ g := ⟨hq8, hq9, hg0⟩
  clear hC hM hN hR hB hc3 hl3 hq8 hq9 hg0
  have hX83 := hX8
  generalize W = w3 at *
  go_wp2_with fail
  refine wp_region_relL (by kernel_rfl) (by kernel_rfl) [some 44, some 45, some 46, some 47, some 48, some 10, none] (by rfl) (by rfl) (s7R w3 (fun i8 => match i8 with | 0 => .pointer (some ⟨q0, 0, none⟩) | 1 => .agg #[.int .i64 (F : Nat), .int .i64 (R : Nat)] | 2 => .int .i64 ((s : Nat)) | _ => undef) F R s) (fun S S9 f9 W hS h => s7_congr S S9 f9 W hS h) (fun f9 => s7_init f9) ?hstep ?hend
  case hstep =>
   intro S i9 o9 f9 W ho hi hSj hpre hcl hR K hK
   have hi : i9 < 7 := hi
   have hR0 := hR
   obtain ⟨hC, h0, h3, h5, h4, h6⟩ := hR0
   rcases i9 with _ | _ | _ | _ | _ | _ | _ | i9
   ·exact st_field (og ho) 26 (.tmp 2) 0 (oo ho) (rd_out rfl rfl) (n := 0) (by kernel_rfl) (hK _ _ (s7_val hR (i := 0) (by decide)))
   ·exact st_loadA (og ho) 23 (.tmp 44) (oo ho) (ri 0 (h0 0 (by omega) (da ho hpre 0))) [.int .i64 (F : Nat), .int .i64 (R : Nat)] (by kernel_rfl) (fun j v hv => by
     rw [Nat.zero_add, (hM3.call hC).cells j]
     match j, hv with
     | 0, hv => rw [hF]; simpa using hv
     | 1, hv => rw [hRr]; simpa using hv) (hK _ _ (s7_val hR (i := 1) (by decide)))
   ·exact st_loadS (og ho) 3 (.tmp 8) (oo ho) (rd_out rfl rfl) (by kernel_rfl) ((hX83.call hC).cells 0) (hK _ _ (s7_val hR (i := 2) (by decide)))
   ·exact st_makeSlice (og ho) 38 (.tmp 46) (.tmp 46) (oo ho) (ri 2 (h0 2 (by omega) (da ho hpre 2))) (ri 2 (h0 2 (by omega) (da ho hpre 2))) (mk38 s hs64 W) (hK _ _ (s7_3 hR hSj))
   ·obtain ⟨g, e3, _, _, _⟩ := h3 (da ho hpre 3)
    exact st_buildL (og ho) 40 [(0, .tmp 45), (1, .tmp 47), (4, .const (.int .i64 (-1))), (6, .const (.int .i64 1))] (oo ho) [(0, .agg #[.int .i64 (F : Nat), .int .i64 (R : Nat)]), (1, .slice (some ⟨g, 0, none⟩) s s), (4, .int .i64 (-1)), (6, .int .i64 1)] (by simp only [List.map_cons, List.map_nil]; rw [(ri 1 (h0 1 (by omega) (da ho hpre 1))), (ri 3 e3)]; rfl) (by kernel_rfl) (hK _ _ (s7_4 hR hSj (da ho hpre 3) e3))
   ·exact st_alloc (og ho) 40 (oo ho) (alloc40 W) (hK _ _ (s7_5 hR hSj))
   ·obtain ⟨q, old, e5, _, hxq, hz, _⟩ := h5 (da ho hpre 5)
    obtain ⟨g, e3, _, _, hx4⟩ := h3 (h4 (da ho hpre 4))
    have e4 := hx4 (da ho hpre 4)
    exact st_storeO (og ho) 40 (.tmp 10) (.tmp 48) (oo ho) (ri 5 e5) (posCs F R (some ⟨g, 0, none⟩) s s false 0 (-1) 0 1).toArray old 40 (ri 4 e4) hxq (by kernel_rfl) (by rw [hz]; rfl) (by first | kernel_rfl | simp [Value.oneCell']) (hK _ _ (s7_6 hR (da ho hpre 4) (da ho hpre 5) e5 e4 rfl))
   ·omega
  case hend =>
   intro S f9 W hS hR
   obtain ⟨hC, h0, h3, h5, _, _⟩ := hR
   obtain ⟨gp, e3, hgp, hP, hx4⟩ := h3 (hS 3 (by decide))
   have e4 := hx4 (hS 4 (by decide))
   obtain ⟨q10, old, e5, hq10, hX10, _, hx6⟩ := h5 (hS 5 (by decide))
   have e6 := hx6 (hS 6 (by decide))
   rw [e4] at e6
   injection e6 with e6
   subst e6
   clear h0 h3 h5 hS hx4 hx6
   simp only [putL, Act.put, List.setIfInBounds_toArray, List.set_cons_succ, List.set_cons_zero]
   rw [e3, e4, e5]
   clear e3 e4 e5
   generalize f9 0 = u9, f9 1 = u10, f9 2 = u11, f9 6 = u12

   have hM4 := hM3.call hC
   have hN4 := hN3.call hC
   have hR4 := hR3.call hC
   have hB4 := below_call hB3 hB3.size hC
   have hX84 := hX8.call hC
   have hX94 := hX9.call hC
   have htab4 := htab.call hC
   have hs4 := Nat.le_trans hs3 hC.size
   have hqs : w3.heap.size ≤ gp ∧ w3.heap.size ≤ q10 ∧ q8 < w3.heap.size ∧ q9 < w3.heap.size ∧ g < w3.heap.size := ⟨hgp, hq10, hX8.lt, hX9.lt, htab.1⟩
   have hgq : gp ≠ q10 := hP.ne_ hX10 (by intro h; injection h with _ h; cases h)
   clear hC hM3 hN3 hR3 hB3 hX83 hX8 hX9 htab hs3 hgp hq10
   generalize W = w4 at *
   have hQ := HasO.new w4 (.cells #[.bool true] 4)
   have hbQ := below_box w4 (.cells #[.bool true] 4)
   have hM5 := hM4.call hbQ
   go_upto_region 9 with fail
   show Code.wp _ _ _ _ (w4.alloc (.cells #[.bool true] 4))
   have hN5 := hN4.call hbQ
   have hR5 := hR4.call hbQ
   have hB5 := below_call hB4 hB4.size hbQ
   have hX85 := hX84.call hbQ
   have hX95 := hX94.call hbQ
   have htab5 := htab4.call hbQ
   have hX105 := hX10.call hbQ
   have hP5 := hP.call hbQ
   have hs5 := Nat.le_trans hs4 hbQ.size
   obtain ⟨q11, hq11⟩ : ∃ q, q = w4.heap.size := ⟨_, rfl⟩
   have hlq := hX10.lt
   have hlp := hP.lt
   rw [← hq11] at hQ hlq hlp ⊢
   clear hN4 hR4 hB4 hX84 hX94 htab4 hX10 hP hs4 hbQ hM4 hq11
   generalize w4.alloc (.cells #[.bool true] 4) = w5 at *
   go_wp2_with (first | (refine wpList_loadO rfl 26 (.tmp 2) rfl q0 _ 26 rfl hM5 (by kernel_rfl) ?_) | fail)
   refine (groups_any m _).mono ?_
   rintro e w6 ⟨v, rfl, hown, hb6⟩
   obtain ⟨gg, cap, rfl, hgg, hgl, hgc⟩ := grp_slice hown
   have hN6 := hN5.call hb6
   have hR6 := hR5.call hb6
   have hB6 := below_call hB5 hB5.size hb6
   have hX86 := hX85.call hb6
   have hX96 := hX95.call hb6
   have htab6 := htab5.call hb6
   have hX106 := hX105.call hb6
   have hP6 := hP5.call hb6
   have hQ6 := hQ.call hb6
   have hs6 := Nat.le_trans hs5 hb6.size
   clear hN5 hR5 hB5 hX85 hX95 htab5 hX105 hP5 hQ hs5 hb6 hM5 hown
   go_wp2_with fail
   refine (backG_any gg cap w6).mono ?_
   rintro e w7 ⟨rfl, hqb, hb7, hz7⟩
   have hN7 := hN6.call hb7
   have hR7 := hR6.call hb7
   have hB7 := below_call hB6 hB6.size hb7
   have hX87 := hX86.call hb7
   have hX97 := hX96.call hb7
   have htab7 := htab6.call hb7
   have hX107 := hX106.call hb7
   have hP7 := hP6.call hb7
   have hQ7 := hQ6.call hb7
   have hs7 := Nat.le_trans hs6 hb7.size
   obtain ⟨obGG, hogg⟩ : ∃ o, HasO w6 gg o := ⟨_, Array.getElem?_eq_getElem hgl⟩
   obtain ⟨obG, hog⟩ : ∃ o, HasO w7 g o := ⟨_, Array.getElem?_eq_getElem htab7.1⟩
   have hogg7 := hogg.call hb7
   obtain ⟨qb, hqbe⟩ : ∃ q, q = w6.heap.size := ⟨_, rfl⟩
   rw [← hqbe] at hqb hgl hz7 ⊢
   replace hqbe := Lib.hid hqbe
   have hgc7 : ∀ W, HasO W gg obGG → ∀ j, j < 10 → W.cell? ⟨gg, j * 2, none⟩ = some (.int .i8 (grpPiece j)) ∧ W.cell? ⟨gg, j * 2 + 1, none⟩ = some (.int .i64 (m.grp j)) := fun W h j hj => by
    rw [cell_block hogg h, cell_block hogg h]; exact hgc j hj
   have htab8 : ∀ W, HasO W g obG → TabW g W := fun W h => ⟨h.lt, fun a b ha hb => by rw [cell_block hog h]; exact htab7.2 a b ha hb⟩
   obtain ⟨Bs, hBs⟩ : ∃ Bs : List (Nat × Obj), Bs = [(q0 + 1, .cells #[.int .i64 (n : Nat)] 3 (0, 0)), (q0 + 2, .cells (posCs 0 0 none 0 0 false 0 0 0 0).toArray 40 (0, 0)), (q8, .cells #[.int .i64 (s : Nat)] 3 (0, 0)), (q9, .cells #[.pointer (some ⟨g, 0, none⟩)] 77 (0, 0)),
    (q10, .cells (posCs F R (some ⟨gp, 0, none⟩) s s false 0 (-1) 0 1).toArray 40 (0, 0)), (gp, pcs (List.replicate s 0)), (q11, .cells #[.bool true] 4 (0, 0)), (qb, .cells #[.slice (some ⟨gg, 0, none⟩) 10 cap] 82 (0, 0)), (g, obG), (gg, obGG)] := ⟨_, rfl⟩
   have hLd : Ld Bs w7 := by
    intro x hx
    rw [hBs] at hx
    simp only [List.mem_cons, List.not_mem_nil, or_false] at hx
    rcases hx with rfl | rfl | rfl | rfl | rfl | rfl | rfl | rfl | rfl | rfl
    ·exact hN7
    ·exact hR7
    ·exact hX87
    ·exact hX97
    ·exact hX107
    ·exact hP7
    ·exact hQ7
    ·exact hqb
    ·exact hog
    ·exact hogg7
   have mN : (q0 + 1, Obj.cells #[.int .i64 (n : Nat)] 3 (0, 0)) ∈ Bs := by rw [hBs]; simp
   have mR : (q0 + 2, Obj.cells (posCs 0 0 none 0 0 false 0 0 0 0).toArray 40 (0, 0)) ∈ Bs := by rw [hBs]; simp
   have m8 : (q8, Obj.cells #[.int .i64 (s : Nat)] 3 (0, 0)) ∈ Bs := by rw [hBs]; simp
   have m9 : (q9, Obj.cells #[.pointer (some ⟨g, 0, none⟩)] 77 (0, 0)) ∈ Bs := by rw [hBs]; simp
   have m10 : (q10, Obj.cells (posCs F R (some ⟨gp, 0, none⟩) s s false 0 (-1) 0 1).toArray 40 (0, 0)) ∈ Bs := by rw [hBs]; simp
   have mP : (gp, pcs (List.replicate s 0)) ∈ Bs := by rw [hBs]; simp
   have mQ : (q11, Obj.cells #[.bool true] 4 (0, 0)) ∈ Bs := by rw [hBs]; simp
   have mb : (qb, Obj.cells #[.slice (some ⟨gg, 0, none⟩) 10 cap] 82 (0, 0)) ∈ Bs := by rw [hBs]; simp
   have mg : (g, obG) ∈ Bs := by rw [hBs]; simp
   have mgg : (gg, obGG) ∈ Bs := by rw [hBs]; simp
   replace hBs := Lib.hid hBs
   have hq0l : Hid (q0 = w.heap.size) := hq0
   have hDB : ∀ x ∈ Bs, x.1 < w7.heap.size := fun x hx => (hLd x hx).lt
   clear hN6 hR6 hB6 hX86 hX96 htab6 hX106 hP6 hQ6 hs6 hN7 hR7 hX87 hX97 htab7 hX107 hP7 hQ7 hog hogg hogg7 hqb hgc hgl hb7
   go_wp2_with fail
   refine (wpIn_wide (n := 3)).1 ?_
   refine rangeFunc_law (gf := 119) (lb := #[.pointer (some ⟨qb, 0, none⟩)]) rfl (enters_of Tryz.func119 (by kernel_rfl) rfl) (grp_seq qb gg cap m) (fun _ _ => rfl)
    (fun cc _ W => I21 w Bs cc W) (fun _ _ _ _ => False) ?hst ?hstx ?hRd ?hsz ?hszx ?h0 ?hbody ?hdone ?hstop ?hpanic
   case hstx => intro _ _ _ _ _ _ h; exact h.elim
   case hszx => intro _ _ _ _ _ h; exact h.elim
   case hstop => intro _ _ _ _ _ _ h; exact h.elim
   case hpanic => intro _ _ _ _ _ h; exact h.elim
   case hsz => intro cc k W _ h; exact h.2.2
   case hRd => intro cc k W _ h; exact ⟨(h.2.1 _ mb).cells 0, hgc7 W (h.2.1 _ mgg)⟩
   case hst =>
    rintro cc j W W' hcc ⟨h1, h2, h3⟩ hA
    exact ⟨hA.below h1 hB7.size h1.size, h2.alt hA hDB, Nat.le_trans h3 hA.size⟩
   case h0 =>
    intro cc W hbW hcc hzW
    exact ⟨below_call hB7 hB7.size hbW, hLd.call hbW, by omega⟩
   case hbody =>
    rintro cc j W hcc hj hI hT
    refine body21 w Bs (q0 + 1) q8 q9 g n s (grpPiece (9 - j)) w7.heap.size cc j W _ ?_ ?_ ?_ ?_ ?_ mN m8 m9 (fun W h => htab8 W (h _ mg)) hB7.size hDB (by have := hq0.out; omega) hs64 (by omega) hI hcc (_, _) rfl
    case refine_5 => rw [← hgrp (9 - j) (by omega)]; first | rfl | (simp [ofA]; done) | kernel_rfl
    all_goals first | rfl | (simp [ofA]; done) | kernel_rfl
   case hdone =>
    rintro cc W hcc ⟨hB8, hL8, h3⟩ hD
    have hN8 := hL8 _ mN
    have hR8 := hL8 _ mR
    have hX8 := hL8 _ m8
    have hX10 := hL8 _ m10
    have hP := hL8 _ mP
    have hQ := hL8 _ mQ
    have hg8 := hg.call hB8
    have hcc8 : w7.heap.size < W.heap.size := hD.lt
    have hDq : gp < w7.heap.size ∧ q11 < w7.heap.size ∧ q10 < w7.heap.size ∧ q0 + 2 < w7.heap.size := ⟨hDB _ mP, hDB _ mQ, hDB _ m10, hDB _ mR⟩
    have hlow : q0 + 2 < q8 ∧ q0 + 2 < q9 ∧ q0 + 2 < gp ∧ q0 + 2 < q10 ∧ q0 + 2 < q11 := by omega
    have hne : q8 ≠ gp ∧ q10 ≠ gp ∧ q11 ≠ gp ∧ q8 ≠ q11 ∧ q10 ≠ q11 ∧ q8 ≠ q10 := by omega
    clear hL8 hLd mN mR m8 m9 m10 mP mQ mb mg mgg hDB htab8 hgc7 hB7 h3
    obtain ⟨D, hDe⟩ : ∃ D, D = w7.heap.size := ⟨_, rfl⟩
    rw [← hDe] at hD hDq ⊢
    replace hDe := Lib.hid hDe
    generalize W = w8 at *
    obtain ⟨p1, hp1⟩ : ∃ x, x = n % s := ⟨_, rfl⟩
    obtain ⟨p2, hp2⟩ : ∃ x, x = n / s % s := ⟨_, rfl⟩
    have hp1l : p1 < s := by rw [hp1]; exact Nat.mod_lt _ hs1
    have hp2l : p2 < s := by rw [hp2]; exact Nat.mod_lt _ hs1
    have er1 : (n : Int).tmod (s : Int) = (p1 : Nat) := by rw [hp1]; rfl
    have hs0 : ¬ (s : Int) = 0 := by omega
    have hc3 := hN8.cells 0
    have hc8 := hX8.cells 0
    have hl3 := hN8.lt
    have hl8 := hX8.lt
    replace hp1 := Lib.hid hp1
    replace hp2 := Lib.hid hp2
    have hput1 := put_any q10 gp s p1 (List.replicate s 0) (-6) (by rw [List.length_replicate]; exact hp1l) w8 (by rw [List.length_replicate]; exact hX10.cells 2) hP
    go_wp2_with fail
    refine hput1.mono ?_
    rintro e w9 ⟨rfl, hw9⟩
    have z1 : (List.replicate s (0 : Int))[p1]?.getD 0 = 0 := by rw [List.getElem?_replicate, if_pos hp1l]; rfl
    rw [z1]
    obtain ⟨xs1, hxs1⟩ : ∃ x, x = (List.replicate s (0 : Int)).set p1 (-6) := ⟨_, rfl⟩
    have hA9 : Alt gp (gp + 1) w8 w9 := by rw [hw9]; exact Alt.setCell ⟨Nat.le_refl _, Nat.lt_succ_self _⟩
    have hP9 : HasO w9 gp (pcs xs1) := by
     rw [hw9, hxs1]
     have := hP.set_ p1 (.int .i8 (-6))
     rw [pcs_set] at this
     exact this
    have hN9 := hA9.hasO hN8 (by omega)
    have hR9 := hA9.hasO hR8 (by omega)
    have hX89 := hA9.hasO hX8 (by omega)
    have hX109 := hA9.hasO hX10 (by omega)
    have hQ9 := hA9.hasO hQ (by omega)
    have hD9 := hA9.hasO hD (by omega)
    have hw0 : w.heap.size ≤ gp ∧ w.heap.size ≤ q11 ∧ w.heap.size ≤ q10 ∧ w.heap.size ≤ q0 + 2 := by have := hq0.out; omega
    have hB9 := hA9.below hB8 hw0.1 hB8.size
    have hcq := hQ9.cells 0
    have hfq := hQ9.frozen 0
    have hlq9 := hQ9.lt
    have hl1 : xs1.length = s := by rw [hxs1, List.length_set, List.length_replicate]
    replace hxs1 := Lib.hid hxs1
    clear hput1 hA9 hw9 hN8 hR8 hX8 hX10 hP hQ hD hB8 hc3 hc8 hl3 hl8 z1 hg8
    go_wp2_with fail
    obtain ⟨wA, hwA⟩ : ∃ x, x = w9.setCell ⟨q11, 0, none⟩ (.bool true) := ⟨_, rfl⟩
    have hk9 : ∀ q o, HasO w9 q o → HasO wA q o := fun q o h => by rw [hwA]; exact setCell_same hQ9 h
    have hAA : Alt q11 (q11 + 1) w9 wA := by rw [hwA]; exact Alt.setCell ⟨Nat.le_refl _, Nat.lt_succ_self _⟩
    have hNA := hk9 _ _ hN9
    have hRA := hk9 _ _ hR9
    have hXA := hk9 _ _ hX89
    have hX10A := hk9 _ _ hX109
    have hQA := hk9 _ _ hQ9
    have hDA := hk9 _ _ hD9
    have hPA := hk9 _ _ hP9
    have hBA := hAA.below hB9 hw0.2.1 hB9.size
    rw [← hwA]
    clear hk9 hAA hwA hN9 hR9 hX89 hX109 hQ9 hD9 hP9 hB9 hcq hfq hlq9
    obtain ⟨nq, hnq⟩ : ∃ x, x = n / s := ⟨_, rfl⟩
    have hnqb : nq ≤ 8192 := by rw [hnq]; exact Nat.le_trans (Nat.div_le_self _ _) hn9
    have equo : ∀ W, (binOp .quo 3 (.int .i64 (n : Nat)) (.int .i64 (s : Nat))).run Tryz.prog W = .ok (.int .i64 (nq : Nat)) W := fun W => by rw [hnq]; exact quo_nat n s hs1 hn9 W
    have erem : ∀ W, (binOp .rem 3 (.int .i64 (nq : Nat)) (.int .i64 (s : Nat))).run Tryz.prog W = .ok (.int .i64 (p2 : Nat)) W := fun W => by rw [hp2.out, hnq]; exact rem_nat (n / s) s hs1 W
    have hput2 := put_any q10 gp s p2 xs1 6 (by rw [hl1]; exact hp2l) wA.drew (by rw [hl1]; exact hX10A.cells 2) hPA
    obtain ⟨b2, hb2⟩ : ∃ b, b = decide (xs1[p2]?.getD 0 = 0) := ⟨_, rfl⟩
    rw [← hb2] at hput2
    have dQ1 : ∀ b, HasO (pw21 wA gp p2 q11 b 1) q11 (.cells #[.bool true] 4 (0, 0)) := fun b => HasO.far (w := wA.drew) (p := ⟨gp, p2, none⟩) hQA (show q11 ≠ gp by omega) _
    replace hb2 := Lib.hid hb2
    replace hnq := Lib.hid hnq
    obtain ⟨nb, hnb⟩ : ∃ x, x = nq / s := ⟨_, rfl⟩
    have equo2 : ∀ W, (binOp .quo 3 (.int .i64 (nq : Nat)) (.int .i64 (s : Nat))).run Tryz.prog W = .ok (.int .i64 (nb : Nat)) W := fun W => by rw [hnb]; exact quo_nat nq s hs1 hnqb W
    obtain ⟨bl, hbl'⟩ : ∃ b, b = ((nb : Int) == 1) := ⟨_, rfl⟩
    have hbl : ((nb : Int) == 1) = bl := hbl'.symm
    replace hbl' := Lib.hid hbl'
    replace hnb := Lib.hid hnb
    have hx1P : xs1P s n = xs1 := by rw [hxs1.out, hp1.out]; rfl
    have hxsP : xs2P s n = xs1.set p2 6 := by unfold xs2P; rw [hx1P, hp2.out]
    have hblP : blP s n = bl := by rw [hbl'.out, hnb.out, hnq.out]; rfl
    have hfrP : fr2P s n = b2 := by unfold fr2P; rw [hx1P, ← hp2.out]; exact hb2.out.symm
    replace hx1P := Lib.hid hx1P
    replace hxsP := Lib.hid hxsP
    replace hblP := Lib.hid hblP
    replace hfrP := Lib.hid hfrP
    cases b2
    ·replace dQ1 := dQ1 false
     refine wp_region_chainF (by kernel_rfl) (by kernel_rfl) [some 116, some 117, some 118, some 119, some 120, some 121, some 122, some 123, some 124, none] (by rfl) (by rfl) [5, 9] (by kernel_rfl) (by decide) (by decide) [.int .i64 ((n : Nat)), .int .i64 ((s : Nat)), .int .i64 ((nq : Nat)), .int .i64 ((s : Nat)), .int .i64 ((p2 : Nat)), .bool false, .bool false, undef, .bool false, undef] (pw21 wA gp p2 q11 false) rfl ?hstep ?hturn ?hend
     case hstep =>
      intro i9 o9 f9 k9 ho hi hmem _ hf K hK
      have hi : i9 < 10 := hi
      have dN := (pw21_far (gp := gp) (p2 := p2) (q11 := q11) (b := false) hNA (by omega) (by omega) k9).cells 0
      have dX := (pw21_far (gp := gp) (p2 := p2) (q11 := q11) (b := false) hXA (by omega) (by omega) k9).cells 0
      generalize pw21 wA gp p2 q11 false k9 = W at *
      rcases (by simp at hmem; omega : i9 = 0 ∨ i9 = 1 ∨ i9 = 2 ∨ i9 = 3 ∨ i9 = 4 ∨ i9 = 6 ∨ i9 = 7 ∨ i9 = 8) with rfl | rfl | rfl | rfl | rfl | rfl | rfl | rfl
      ·exact st_loadS (og ho) 3 (.tmp 3) (oo ho) (rd_out rfl rfl) (by kernel_rfl) dN hK
      ·exact st_loadS (og ho) 3 (.tmp 8) (oo ho) (rd_out rfl rfl) (by kernel_rfl) dX hK
      ·exact st_bin (og ho) .quo 3 3 (.tmp 116) (.tmp 117) (oo ho) (ri 0 (da ho hf 0)) (ri 1 (da ho hf 1)) (gu_i _ _ _ _ _ _ _ _) (equo W) hK
      ·exact st_loadS (og ho) 3 (.tmp 8) (oo ho) (rd_out rfl rfl) (by kernel_rfl) dX hK
      ·exact st_bin (og ho) .rem 3 3 (.tmp 118) (.tmp 119) (oo ho) (ri 2 (da ho hf 2)) (ri 3 (da ho hf 3)) (gu_i _ _ _ _ _ _ _ _) (erem W) hK
      ·exact st_move (og ho) (.tmp 121) (oo ho) (ri 5 (da ho hf 5)) hK
      ·exact skip_gd (uw ho (dg ho hf 6)) hK
      ·exact st_pickF (og ho) (.tmp 122) (.tmp 123) (.const (.bool false)) (oo ho) (ri 6 (da ho hf 6)) rfl hK
     case hturn =>
      intro i9 o9 f9 k9 ho hst hf K hK
      have hk9 : k9 < 2 := (List.getElem?_eq_some_iff.1 hst).1
      rcases (by omega : k9 = 0 ∨ k9 = 1) with rfl | rfl
      ·obtain rfl : i9 = 5 := by simp at hst; exact hst.symm
       exact st_call3 (og ho) 63 (.tmp 10) (.tmp 120) (.const (.int .i8 6)) #[105, 3, 81] (oo ho) (rd_out rfl rfl) (ri 4 (da ho hf 4)) rfl (fun _ _ => rfl) hput2 (by intro u w9 h9; rw [Ending.returned.inj h9.1, h9.2]; exact hK) (fun _ _ h => nomatch h.1) (fun _ h => nomatch h.1)
      ·obtain rfl : i9 = 9 := by simp at hst; exact hst.symm
       exact st_storeS (og ho) 4 (.tmp 11) (.tmp 124) (oo ho) (rd_out rfl rfl) (ri 8 (da ho hf 8)) (by kernel_rfl) (by rfl) (dQ1.cells 0) (dQ1.frozen 0) hK
     case hend =>
      intro f9 hf9
      clear hf9
      simp only [putL, Act.put, List.setIfInBounds_toArray, List.set_cons_succ, List.set_cons_zero]
      generalize f9 0 = b0, f9 1 = b1, f9 2 = b2, f9 3 = b3, f9 4 = b4, f9 5 = b5, f9 6 = b6, f9 7 = b7, f9 8 = b8, f9 9 = b9
      rw [show ([5, 9] : List Nat).length = 2 from rfl]
      obtain ⟨wB, hwB⟩ : ∃ x, x = pw21 wA gp p2 q11 false 2 := ⟨_, rfl⟩
      have hNB := pw21_far (gp := gp) (p2 := p2) (q11 := q11) (b := false) hNA (by omega) (by omega) 2
      rw [← hwB] at hNB
      have hRB := pw21_far (gp := gp) (p2 := p2) (q11 := q11) (b := false) hRA (by omega) (by omega) 2
      rw [← hwB] at hRB
      have hXB := pw21_far (gp := gp) (p2 := p2) (q11 := q11) (b := false) hXA (by omega) (by omega) 2
      rw [← hwB] at hXB
      have hX10B := pw21_far (gp := gp) (p2 := p2) (q11 := q11) (b := false) hX10A (by omega) (by omega) 2
      rw [← hwB] at hX10B
      have hDB := pw21_far (gp := gp) (p2 := p2) (q11 := q11) (b := false) hDA (by omega) (by omega) 2
      rw [← hwB] at hDB
      have hQB : HasO wB q11 (.cells #[.bool false] 4 (0, 0)) := by
       rw [hwB]
       exact (HasO.far (w := wA.drew) (p := ⟨gp, p2, none⟩) hQA (show q11 ≠ gp by omega) _).set_ 0 (.bool false)
      have hPB : HasO wB gp (pcs (xs1.set p2 6)) := by
       rw [hwB]
       have h := HasO.set_ (w := wA.drew) hPA p2 (.int .i8 6)
       rw [pcs_set] at h
       exact h.far (p := ⟨q11, 0, none⟩) (show gp ≠ q11 by omega) _
      have hBB : Below w.heap.size w wB := by
       rw [hwB]
       exact (hBA.drew.setCell (p := ⟨gp, p2, none⟩) hw0.1 _).setCell (p := ⟨q11, 0, none⟩) hw0.2.1 _
      have hl2 : (xs1.set p2 6).length = s := by rw [List.length_set, hl1]
      rw [← hwB]
      clear hNA hRA hXA hX10A hDA hQA hPA hBA dQ1 hput2 hwB erem
      go_wp2_with fail
      refine wp_region_last (by kernel_rfl) (by kernel_rfl) [some 125, some 126, some 127, some 128, some 129, some 130, some 131, none] (by rfl) (by rfl) 7 (by rfl) (by kernel_rfl) (fun i8 => match i8 with | 0 => .int .i64 ((n : Nat)) | 1 => .int .i64 ((s : Nat)) | 2 => .int .i64 ((nq : Nat)) | 3 => .int .i64 ((s : Nat)) | 4 => .int .i64 ((nb : Nat)) | 5 => .bool bl | 6 => .pointer (some ⟨q10, 0 + 3, none⟩) | _ => undef) (fun W9 => W9 = wB.drew) (fun W9 => W9 = wB.drew.setCell ⟨q10, 3, none⟩ (.bool bl)) rfl ?hstep ?hturn ?hend
      case hstep =>
       intro i9 o9 f9 W9 ho hi hne hC hf K hK
       have hi : i9 < 8 := hi
       subst hC
       rcases i9 with _ | _ | _ | _ | _ | _ | _ | i9
       ·exact st_loadS (og ho) 3 (.tmp 3) (oo ho) (rd_out rfl rfl) (by kernel_rfl) (HasO.cells (w := wB.drew) hNB 0) (hK _ rfl)
       ·exact st_loadS (og ho) 3 (.tmp 8) (oo ho) (rd_out rfl rfl) (by kernel_rfl) (HasO.cells (w := wB.drew) hXB 0) (hK _ rfl)
       ·exact st_bin (og ho) .quo 3 3 (.tmp 125) (.tmp 126) (oo ho) (ri 0 (da ho hf 0)) (ri 1 (da ho hf 1)) (gu_i _ _ _ _ _ _ _ _) (equo _) (hK _ rfl)
       ·exact st_loadS (og ho) 3 (.tmp 8) (oo ho) (rd_out rfl rfl) (by kernel_rfl) (HasO.cells (w := wB.drew) hXB 0) (hK _ rfl)
       ·exact st_bin (og ho) .quo 3 3 (.tmp 127) (.tmp 128) (oo ho) (ri 2 (da ho hf 2)) (ri 3 (da ho hf 3)) (gu_i _ _ _ _ _ _ _ _) (equo2 _) (hK _ rfl)
       ·exact st_bin (og ho) .eql 3 3 (.tmp 129) (.const (.int .i64 1)) (oo ho) (ri 4 (da ho hf 4)) rfl (gu_i _ _ _ _ _ _ _ _) (bin_eqlE hbl) (hK _ rfl)
       ·exact st_field (og ho) 40 (.tmp 10) 2 (oo ho) (rd_out rfl rfl) (n := 3) (by kernel_rfl) (hK _ rfl)
       ·omega
      case hturn =>
       intro o9 f9 W9 ho hC hf K hK
       subst hC
       exact st_storeS (og ho) 4 (.tmp 131) (.tmp 130) (oo ho) (ri 6 (da ho hf 6)) (ri 5 (da ho hf 5)) (by kernel_rfl) (by rfl) (HasO.cells (w := wB.drew) hX10B 3) (HasO.frozen (w := wB.drew) hX10B 3) (hK _ rfl)
      case hend =>
       rintro f9 W9 hwC hf9
       clear hf9
       simp only [putL, Act.put, List.setIfInBounds_toArray, List.set_cons_succ, List.set_cons_zero]
       generalize f9 0 = c0, f9 1 = c1, f9 2 = c2, f9 3 = c3, f9 4 = c4, f9 5 = c5, f9 6 = c6, f9 7 = c7
       have hAC : Alt q10 (q10 + 1) wB W9 := by
        have h1 : Alt q10 (q10 + 1) wB wB.drew := Alt.drewN 1
        rw [hwC]; exact h1.trans (Alt.setCell ⟨Nat.le_refl _, Nat.lt_succ_self _⟩)
       have hX10C : HasO W9 q10 (.cells (posCs F R (some ⟨gp, 0, none⟩) s s bl 0 (-1) 0 1).toArray 40 (0, 0)) := by
        rw [hwC]
        exact HasO.set_ (w := wB.drew) hX10B 3 (.bool bl)
       have hRC := hAC.hasO hRB (by omega)
       have hQC := hAC.hasO hQB (by omega)
       have hDC := hAC.hasO hDB (by omega)
       have hPC := hAC.hasO hPB (by omega)
       have hBC := hAC.below hBB hw0.2.2.1 hBB.size
       have hgC := hg.call hBC
       have hxC : Arr .i8 W9 (some ⟨gp, 0, none⟩) (xs1.set p2 6) := arr_pcs hPC
       have hcQ := hQC.cells 0
       have hlQ := hQC.lt
       clear hAC hwC hNB hRB hXB hX10B hDB hQB hPB hBB equo equo2
       generalize W9 = wC at *
       go_wp2_with (first | (refine wpList_storeAgg rfl 40 (.tmp 4) (.tmp 139) rfl (q0 + 2) _ rfl rfl 40 _ hRC (by kernel_rfl) rfl (by kernel_rfl) ?_; rintro w9 rfl) | fail)
       have hAF := setRow_alt wC (q0 + 2) (posCs 0 0 none 0 0 false 0 0 0 0).toArray
       have hRF := setRow_hasO (cells := (posCs 0 0 none 0 0 false 0 0 0 0).toArray) hRC
       have hDF := hAF.hasO hDC (by omega)
       have hBF := hAF.below hBC hw0.2.2.2 hBC.size
       refine leaveE (B := D) [D] _ (Nat.le_of_lt hDF.lt) (by intro p hp; simp only [List.mem_cons, List.not_mem_nil, or_false] at hp; subst hp; exact ⟨Nat.le_refl _, hDF⟩) (by simp) ?_
       intro w' hb
       refine ⟨_, results_ct (fn := Tryz.f21) Tryz.results21 rfl (hRF.below hb (by omega)) (by kernel_rfl) (by kernel_rfl) rfl, ?_⟩
       refine ⟨?_, hBF.trans (hb.mono (by omega))⟩
       rw [if_neg (by rw [hfrP.out]; simp)]
       rfl
    ·replace dQ1 := dQ1 true
     refine wp_region_chainF (by kernel_rfl) (by kernel_rfl) [some 116, some 117, some 118, some 119, some 120, some 121, some 122, some 123, some 124, none] (by rfl) (by rfl) [5, 9] (by kernel_rfl) (by decide) (by decide) [.int .i64 ((n : Nat)), .int .i64 ((s : Nat)), .int .i64 ((nq : Nat)), .int .i64 ((s : Nat)), .int .i64 ((p2 : Nat)), .bool true, .bool true, .bool true, .bool true, undef] (pw21 wA gp p2 q11 true) rfl ?hstep ?hturn ?hend
     case hstep =>
      intro i9 o9 f9 k9 ho hi hmem _ hf K hK
      have hi : i9 < 10 := hi
      have dN := (pw21_far (gp := gp) (p2 := p2) (q11 := q11) (b := true) hNA (by omega) (by omega) k9).cells 0
      have dX := (pw21_far (gp := gp) (p2 := p2) (q11 := q11) (b := true) hXA (by omega) (by omega) k9).cells 0
      have dQ := (pw21_q (gp := gp) (p2 := p2) hQA (by omega) k9).cells 0
      generalize pw21 wA gp p2 q11 true k9 = W at *
      rcases (by simp at hmem; omega : i9 = 0 ∨ i9 = 1 ∨ i9 = 2 ∨ i9 = 3 ∨ i9 = 4 ∨ i9 = 6 ∨ i9 = 7 ∨ i9 = 8) with rfl | rfl | rfl | rfl | rfl | rfl | rfl | rfl
      ·exact st_loadS (og ho) 3 (.tmp 3) (oo ho) (rd_out rfl rfl) (by kernel_rfl) dN hK
      ·exact st_loadS (og ho) 3 (.tmp 8) (oo ho) (rd_out rfl rfl) (by kernel_rfl) dX hK
      ·exact st_bin (og ho) .quo 3 3 (.tmp 116) (.tmp 117) (oo ho) (ri 0 (da ho hf 0)) (ri 1 (da ho hf 1)) (gu_i _ _ _ _ _ _ _ _) (equo W) hK
      ·exact st_loadS (og ho) 3 (.tmp 8) (oo ho) (rd_out rfl rfl) (by kernel_rfl) dX hK
      ·exact st_bin (og ho) .rem 3 3 (.tmp 118) (.tmp 119) (oo ho) (ri 2 (da ho hf 2)) (ri 3 (da ho hf 3)) (gu_i _ _ _ _ _ _ _ _) (erem W) hK
      ·exact st_move (og ho) (.tmp 121) (oo ho) (ri 5 (da ho hf 5)) hK
      ·exact gd (wo ho (dg ho hf 6)) (st_loadS rfl 4 (.tmp 11) (oo ho) (rd_out rfl rfl) (by kernel_rfl) dQ hK)
      ·exact st_pickT (og ho) (.tmp 122) (.tmp 123) (.const (.bool false)) (oo ho) (ri 6 (da ho hf 6)) (ri 7 (da ho hf 7)) hK
     case hturn =>
      intro i9 o9 f9 k9 ho hst hf K hK
      have hk9 : k9 < 2 := (List.getElem?_eq_some_iff.1 hst).1
      rcases (by omega : k9 = 0 ∨ k9 = 1) with rfl | rfl
      ·obtain rfl : i9 = 5 := by simp at hst; exact hst.symm
       exact st_call3 (og ho) 63 (.tmp 10) (.tmp 120) (.const (.int .i8 6)) #[105, 3, 81] (oo ho) (rd_out rfl rfl) (ri 4 (da ho hf 4)) rfl (fun _ _ => rfl) hput2 (by intro u w9 h9; rw [Ending.returned.inj h9.1, h9.2]; exact hK) (fun _ _ h => nomatch h.1) (fun _ h => nomatch h.1)
      ·obtain rfl : i9 = 9 := by simp at hst; exact hst.symm
       exact st_storeS (og ho) 4 (.tmp 11) (.tmp 124) (oo ho) (rd_out rfl rfl) (ri 8 (da ho hf 8)) (by kernel_rfl) (by rfl) (dQ1.cells 0) (dQ1.frozen 0) hK
     case hend =>
      intro f9 hf9
      clear hf9
      simp only [putL, Act.put, List.setIfInBounds_toArray, List.set_cons_succ, List.set_cons_zero]
      generalize f9 0 = b0, f9 1 = b1, f9 2 = b2, f9 3 = b3, f9 4 = b4, f9 5 = b5, f9 6 = b6, f9 7 = b7, f9 8 = b8, f9 9 = b9
      rw [show ([5, 9] : List Nat).length = 2 from rfl]
      obtain ⟨wB, hwB⟩ : ∃ x, x = pw21 wA gp p2 q11 true 2 := ⟨_, rfl⟩
      have hNB := pw21_far (gp := gp) (p2 := p2) (q11 := q11) (b := true) hNA (by omega) (by omega) 2
      rw [← hwB] at hNB
      have hRB := pw21_far (gp := gp) (p2 := p2) (q11 := q11) (b := true) hRA (by omega) (by omega) 2
      rw [← hwB] at hRB
      have hXB := pw21_far (gp := gp) (p2 := p2) (q11 := q11) (b := true) hXA (by omega) (by omega) 2
      rw [← hwB] at hXB
      have hX10B := pw21_far (gp := gp) (p2 := p2) (q11 := q11) (b := true) hX10A (by omega) (by omega) 2
      rw [← hwB] at hX10B
      have hDB := pw21_far (gp := gp) (p2 := p2) (q11 := q11) (b := true) hDA (by omega) (by omega) 2
      rw [← hwB] at hDB
      have hQB : HasO wB q11 (.cells #[.bool true] 4 (0, 0)) := by
       rw [hwB]
       exact (HasO.far (w := wA.drew) (p := ⟨gp, p2, none⟩) hQA (show q11 ≠ gp by omega) _).set_ 0 (.bool true)
      have hPB : HasO wB gp (pcs (xs1.set p2 6)) := by
       rw [hwB]
       have h := HasO.set_ (w := wA.drew) hPA p2 (.int .i8 6)
       rw [pcs_set] at h
       exact h.far (p := ⟨q11, 0, none⟩) (show gp ≠ q11 by omega) _
      have hBB : Below w.heap.size w wB := by
       rw [hwB]
       exact (hBA.drew.setCell (p := ⟨gp, p2, none⟩) hw0.1 _).setCell (p := ⟨q11, 0, none⟩) hw0.2.1 _
      have hl2 : (xs1.set p2 6).length = s := by rw [List.length_set, hl1]
      rw [← hwB]
      clear hNA hRA hXA hX10A hDA hQA hPA hBA dQ1 hput2 hwB erem
      go_wp2_with fail
      refine wp_region_last (by kernel_rfl) (by kernel_rfl) [some 125, some 126, some 127, some 128, some 129, some 130, some 131, none] (by rfl) (by rfl) 7 (by rfl) (by kernel_rfl) (fun i8 => match i8 with | 0 => .int .i64 ((n : Nat)) | 1 => .int .i64 ((s : Nat)) | 2 => .int .i64 ((nq : Nat)) | 3 => .int .i64 ((s : Nat)) | 4 => .int .i64 ((nb : Nat)) | 5 => .bool bl | 6 => .pointer (some ⟨q10, 0 + 3, none⟩) | _ => undef) (fun W9 => W9 = wB.drew) (fun W9 => W9 = wB.drew.setCell ⟨q10, 3, none⟩ (.bool bl)) rfl ?hstep ?hturn ?hend
      case hstep =>
       intro i9 o9 f9 W9 ho hi hne hC hf K hK
       have hi : i9 < 8 := hi
       subst hC
       rcases i9 with _ | _ | _ | _ | _ | _ | _ | i9
       ·exact st_loadS (og ho) 3 (.tmp 3) (oo ho) (rd_out rfl rfl) (by kernel_rfl) (HasO.cells (w := wB.drew) hNB 0) (hK _ rfl)
       ·exact st_loadS (og ho) 3 (.tmp 8) (oo ho) (rd_out rfl rfl) (by kernel_rfl) (HasO.cells (w := wB.drew) hXB 0) (hK _ rfl)
       ·exact st_bin (og ho) .quo 3 3 (.tmp 125) (.tmp 126) (oo ho) (ri 0 (da ho hf 0)) (ri 1 (da ho hf 1)) (gu_i _ _ _ _ _ _ _ _) (equo _) (hK _ rfl)
       ·exact st_loadS (og ho) 3 (.tmp 8) (oo ho) (rd_out rfl rfl) (by kernel_rfl) (HasO.cells (w := wB.drew) hXB 0) (hK _ rfl)
       ·exact st_bin (og ho) .quo 3 3 (.tmp 127) (.tmp 128) (oo ho) (ri 2 (da ho hf 2)) (ri 3 (da ho hf 3)) (gu_i _ _ _ _ _ _ _ _) (equo2 _) (hK _ rfl)
       ·exact st_bin (og ho) .eql 3 3 (.tmp 129) (.const (.int .i64 1)) (oo ho) (ri 4 (da ho hf 4)) rfl (gu_i _ _ _ _ _ _ _ _) (bin_eqlE hbl) (hK _ rfl)
       ·exact st_field (og ho) 40 (.tmp 10) 2 (oo ho) (rd_out rfl rfl) (n := 3) (by kernel_rfl) (hK _ rfl)
       ·omega
      case hturn =>
       intro o9 f9 W9 ho hC hf K hK
       subst hC
       exact st_storeS (og ho) 4 (.tmp 131) (.tmp 130) (oo ho) (ri 6 (da ho hf 6)) (ri 5 (da ho hf 5)) (by kernel_rfl) (by rfl) (HasO.cells (w := wB.drew) hX10B 3) (HasO.frozen (w := wB.drew) hX10B 3) (hK _ rfl)
      case hend =>
       rintro f9 W9 hwC hf9
       clear hf9
       simp only [putL, Act.put, List.setIfInBounds_toArray, List.set_cons_succ, List.set_cons_zero]
       generalize f9 0 = c0, f9 1 = c1, f9 2 = c2, f9 3 = c3, f9 4 = c4, f9 5 = c5, f9 6 = c6, f9 7 = c7
       have hAC : Alt q10 (q10 + 1) wB W9 := by
        have h1 : Alt q10 (q10 + 1) wB wB.drew := Alt.drewN 1
        rw [hwC]; exact h1.trans (Alt.setCell ⟨Nat.le_refl _, Nat.lt_succ_self _⟩)
       have hX10C : HasO W9 q10 (.cells (posCs F R (some ⟨gp, 0, none⟩) s s bl 0 (-1) 0 1).toArray 40 (0, 0)) := by
        rw [hwC]
        exact HasO.set_ (w := wB.drew) hX10B 3 (.bool bl)
       have hRC := hAC.hasO hRB (by omega)
       have hQC := hAC.hasO hQB (by omega)
       have hDC := hAC.hasO hDB (by omega)
       have hPC := hAC.hasO hPB (by omega)
       have hBC := hAC.below hBB hw0.2.2.1 hBB.size
       have hgC := hg.call hBC
       have hxC : Arr .i8 W9 (some ⟨gp, 0, none⟩) (xs1.set p2 6) := arr_pcs hPC
       have hcQ := hQC.cells 0
       have hlQ := hQC.lt
       clear hAC hwC hNB hRB hXB hX10B hDB hQB hPB hBB equo equo2
       generalize W9 = wC at *
       have hpv := posValid_any F R 0 (-1) 0 1 bl (some ⟨gp, 0, none⟩) s (xs1.set p2 6) (by omega) (by rw [hl2]; omega) (by rw [hl2]; exact Nat.le_refl _) wC hgC hxC
       rw [hl2, pv_eq] at hpv
       obtain ⟨pv, hpvd⟩ : ∃ x, x = pvB F R (xs1.set p2 6) bl 0 (-1) 0 1 := ⟨_, rfl⟩
       rw [← hpvd] at hpv
       replace hpvd := Lib.hid hpvd
       have hc10 := hX10C.cells
       have hl10 := hX10C.lt
       go_wp2_with fail
       refine hpv.mono ?_
       rintro e wD ⟨rfl, hb8⟩
       have hRE := hRC.call hb8
       have hX10E := hX10C.call hb8
       have hDE := hDC.call hb8
       have hPE := hPC.call hb8
       have hBE := below_call hBC hBC.size hb8
       clear hc10 hl10 hRC hX10C hDC hPC hBC hb8 hgC hxC hcQ hlQ hpv hQC
       cases pv
       ·go_wp2_with (first | (refine wpList_storeAgg rfl 40 (.tmp 4) (.tmp 139) rfl (q0 + 2) _ rfl rfl 40 _ hRE (by kernel_rfl) rfl (by kernel_rfl) ?_; rintro w9 rfl) | fail)
        have hAF := setRow_alt wD (q0 + 2) (posCs 0 0 none 0 0 false 0 0 0 0).toArray
        have hRF := setRow_hasO (cells := (posCs 0 0 none 0 0 false 0 0 0 0).toArray) hRE
        have hDF := hAF.hasO hDE (by omega)
        have hBF := hAF.below hBE hw0.2.2.2 hBE.size
        refine leaveE (B := D) [D] _ (Nat.le_of_lt hDF.lt) (by intro p hp; simp only [List.mem_cons, List.not_mem_nil, or_false] at hp; subst hp; exact ⟨Nat.le_refl _, hDF⟩) (by simp) ?_
        intro w' hb
        refine ⟨_, results_ct (fn := Tryz.f21) Tryz.results21 rfl (hRF.below hb (by omega)) (by kernel_rfl) (by kernel_rfl) rfl, ?_⟩
        refine ⟨?_, hBF.trans (hb.mono (by omega))⟩
        rw [if_neg (by rw [hxsP.out, hblP.out, ← hpvd.out]; simp)]
        rfl
       ·have hi40 : Hid ((Tryz.prog.info? 40).map (·.size) = some (posCs F R (some ⟨gp, 0, none⟩) s s bl 0 (-1) 0 1).toArray.size) := Lib.hid (by kernel_rfl)
        have hone : Hid ((posCs F R (some ⟨gp, 0, none⟩) s s bl 0 (-1) 0 1).toArray.all (·.oneCell') = true) := Lib.hid (by first | kernel_rfl | simp [Value.oneCell'])
        go_wp2_with (first | (refine wpList_loadO rfl 40 (.tmp 10) rfl q10 _ 40 rfl hX10E (by kernel_rfl) ?_) | (refine wpList_storeAgg rfl 40 (.tmp 4) (.tmp 140) rfl (q0 + 2) _ rfl rfl 40 _ hRE hi40.out rfl hone.out ?_; rintro w9 rfl) | fail)
        have hAF := setRow_alt wD (q0 + 2) (posCs F R (some ⟨gp, 0, none⟩) s s bl 0 (-1) 0 1).toArray
        have hRF := setRow_hasO (cells := (posCs F R (some ⟨gp, 0, none⟩) s s bl 0 (-1) 0 1).toArray) hRE
        have hDF := hAF.hasO hDE (by omega)
        have hBF := hAF.below hBE hw0.2.2.2 hBE.size
        have hPF := hAF.hasO hPE (by omega)
        refine leaveE (B := D) [D] _ (Nat.le_of_lt hDF.lt) (by intro p hp; simp only [List.mem_cons, List.not_mem_nil, or_false] at hp; subst hp; exact ⟨Nat.le_refl _, hDF⟩) (by simp) ?_
        intro w' hb
        refine ⟨_, results_ct (fn := Tryz.f21) Tryz.results21 rfl (hRF.below hb (by omega)) (by kernel_rfl) hi40.out rfl, ?_⟩
        refine ⟨?_, hBF.trans (hb.mono (by omega))⟩
        rw [if_pos (by rw [hfrP.out, hxsP.out, hblP.out, ← hpvd.out]; rfl)]
        refine ⟨gp, by rw [hblP.out]; rfl, hw0.1, ?_⟩
        rw [hxsP.out]
        exact hPF.below hb (by omega)
end Go.Proofs.YtnpomigmeieofaaGreatDoor
