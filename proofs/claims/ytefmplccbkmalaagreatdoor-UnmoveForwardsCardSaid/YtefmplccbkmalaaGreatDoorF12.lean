import Derived.Test.YtefmplccbkmalaaGreatDoorF11
set_option maxHeartbeats 12800000
namespace Go.Proofs.YtefmplccbkmalaaGreatDoor
open Go.RowKit

section ops
variable {P : Program} {o : Oper} {a : Act} {w : World} {K : Act → World → Prop} {Q : Exit → Act → World → Prop} {t : Nat → Option Bool} {X : Prop}
theorem st_slice (hg : o.guard = none) (ty : TypeId) (x : Operand) (lo hi mx : Option Operand) (ho : o.op = .slice ty x lo hi mx) {v u : Value} {l h m : Option Value} (hx : a.eval x = v) (h1 : lo.map a.eval = l) (h2 : hi.map a.eval = h) (h3 : mx.map a.eval = m) (hr : (Instr.sliceAt ty v l h m).run P w = .ok u w) (hk : K (a.put o.dst u) w) : if Region.wanted o t = true then o.wp P a w K Q else X := by
 refine st_wp hg ?_
 unfold Oper.wp execOp
 simp only [ho, hx, h1, h2, h3, Sem.run_bind, hr, Result.andThen_ok, Sem.run_pure]
 exact hk
end ops
theorem bin_gtrE {x y : Int} {d : Bool} {W : World} (h : decide (y < x) = d) : (binOp .gtr 3 (.int .i64 x) (.int .i64 y)).run Tryz.prog W = .ok (.bool d) W := by rw [bin_gtr, h]
def chkB (F R : Nat) (xs : List Int) (k : Nat) (bl : Bool) : Bool := decide ((0 : Int) < ((attrL F R xs k (!bl)).length : Nat))
set_option maxRecDepth 100000 in
theorem refCheck_any (F R : Nat) (p : Option Addr) (c : Nat) (xs : List Int) (k : Nat) (bl : Bool) (hF : 3 ≤ F ∧ F ≤ 8) (hR : 3 ≤ R ∧ R ≤ 8) (hlen : xs.length = F * R) (hk : kgI xs bl = k) (hkl : k < F * R) (hok : ∀ x ∈ xs, pOk x = true) (w : World) (hx : Arr .i8 w p xs) :
  Calls Tryz.prog 38 #[.agg (bdCs F R p xs.length c).toArray, .bool bl] w fun e w' => e = .returned (.bool (chkB F R xs k bl)) ∧ Below w.heap.size w w' := by
 have hB := below_box w (.cells (bdCs F R p xs.length c).toArray 68)
 have hA := HasO.new w (.cells (bdCs F R p xs.length c).toArray 68)
 have hl64 : xs.length ≤ 64 := by rw [hlen]; exact Nat.mul_le_mul hF.2 hR.2
 have hkg := fun W h => refKing_any F R bl p c xs W h hl64
 rw [hk] at hkg
 have hat := fun W h => refAttackers_any F R p c xs k (!bl) hF hR hlen hkl hok W h
 obtain ⟨V, hV⟩ : ∃ V, V = chkB F R xs k bl := ⟨_, rfl⟩
 have hVV : V = decide ((0 : Int) < ((attrL F R xs k (!bl)).length : Nat)) := hV
 rw [← hV]
 generalize attrL F R xs k (!bl) = L at hat hVV
 clear hV
 replace hlen := Lib.hid hlen
 go_enter Tryz.func38, Tryz.ntmps38
 go_wp2_with fail
 show Code.wp _ _ _ _ (w.alloc (.cells (bdCs F R p xs.length c).toArray 68))
 obtain ⟨w1, hw1⟩ : ∃ x, x = w.alloc (.cells (bdCs F R p xs.length c).toArray 68) := ⟨_, rfl⟩
 have hx1 := hx.call hB
 rw [← hw1] at hA hB hx1 ⊢
 clear hw1 hx
 refine wp_region_vl (by kernel_rfl) (by kernel_rfl) [some 5, some 6, some 7, some 8, some 9, some 10, some 11, some 12, some 13, some 4] (by rfl) (by rfl) w1.heap.size (fun i8 => match i8 with | 0 => .agg (bdCs F R p xs.length c).toArray | 1 => .agg (bdCs F R p xs.length c).toArray | 2 => .bool bl | 3 => .int .i64 ((k : Nat) : Int) | 4 => .bool bl | 5 => .bool (!bl) | 7 => .int .i64 ((L.length : Nat) : Int) | 8 => .bool V | 9 => .bool V | _ => undef) (fun i8 => match i8 with | 6 => some (L) | _ => none) ?hstep ?hend
 case hstep =>
  intro i9 o9 f9 W ho hi hC hf K hK
  have hi : i9 < 10 := hi
  rcases i9 with _ | _ | _ | _ | _ | _ | _ | _ | _ | _ | i9
  iterate 2 exact st_loadA (og ho) 68 (.tmp 2) (oo ho) (rd_out rfl rfl) (bdCs F R p xs.length c) (by kernel_rfl) (fun j v hv => by rw [Nat.zero_add, (hA.call hC).cells j]; simpa using hv) (kk hK)
  ·exact st_move (og ho) (.tmp 1) (oo ho) (rd_out rfl rfl) (kk hK)
  ·exact st_call2 (og ho) 37 (.tmp 6) (.tmp 7) #[68, 4] (oo ho) (ri 1 (da ho hf 1)) (ri 2 (da ho hf 2)) (fun _ _ => rfl) (hkg W (hx1.call hC)) (by rintro u w9 ⟨h9, hb9⟩; injection h9 with h9; subst h9; exact hK _ _ hb9 rfl) (by rintro ch w9 h9; revert h9; rintro ⟨h9, _⟩; first | (cases h9; done) | (obtain ⟨_, h9, _⟩ := h9; cases h9)) (by rintro w9 h9; revert h9; rintro ⟨h9, _⟩; first | (cases h9; done) | (obtain ⟨_, h9, _⟩ := h9; cases h9))
  ·exact st_move (og ho) (.tmp 1) (oo ho) (rd_out rfl rfl) (kk hK)
  ·exact st_unop (og ho) .not 4 (.tmp 9) (oo ho) (ri 4 (da ho hf 4)) (not4 _ _) (kk hK)
  ·exact st_call3 (og ho) 100 (.tmp 5) (.tmp 8) (.tmp 10) #[68, 3, 4] (oo ho) (ri 0 (da ho hf 0)) (ri 3 (da ho hf 3)) (ri 5 (da ho hf 5)) (fun _ _ => rfl) (hat W (hx1.call hC)) (by rintro u w9 ⟨⟨v9, h9, hown9⟩, hb9⟩; injection h9 with h9; subst h9; exact hK _ _ hb9 (own_mono hown9 hC.size)) (by rintro ch w9 h9; revert h9; rintro ⟨h9, _⟩; first | (cases h9; done) | (obtain ⟨_, h9, _⟩ := h9; cases h9)) (by rintro w9 h9; revert h9; rintro ⟨h9, _⟩; first | (cases h9; done) | (obtain ⟨_, h9, _⟩ := h9; cases h9))
  ·obtain ⟨p1, c1, q1, _, _⟩ := own_arr (show W.ownsRow w1.heap.size 3 1 (f9 6) L.length (L.map (.int .i64)) from (da ho hf 6)); exact st_len (og ho) (.tmp 11) 136 (oo ho) Tryz.underlying136 (ri 6 q1) (kk hK)
  ·exact st_bin (og ho) .gtr 3 3 (.tmp 12) (.const (.int .i64 0)) (oo ho) (ri 7 (da ho hf 7)) rfl (gu_i _ _ _ _ _ _ _ _) (bin_gtrE hVV.symm) (kk hK)
  ·exact st_assign (og ho) (.tmp 13) (oo ho) (ri 8 (da ho hf 8)) (kk hK)
  ·omega
 case hend =>
  intro f9 W hC hf
  go_wp2_with fail
  refine bodyPost_ret (results_tmp (fn := Tryz.f38) Tryz.results38 _ _ _) (by rw [putL_defers]) ?_
  refine ⟨?_, below_call hB hB.size hC⟩
  rw [slot_in rfl 9 rfl (by simp) (hf 9 (by decide))]
  rfl
def nmL (k : Nat) : List UInt8 := [UInt8.ofNat (97 + k % 8), UInt8.ofNat (49 + k / 8)]
theorem sl_files (f : Nat) (hf : f < 8) (W : World) : (Instr.sliceAt 9 (.string { data := #[97, 98, 99, 100, 101, 102, 103, 104] }) (some (.int .i64 f)) (some (.int .i64 ((f : Int) + 1))) none).run Tryz.prog W = .ok (.string (str [UInt8.ofNat (97 + f)])) W := by
 rcases (by omega : f = 0 ∨ f = 1 ∨ f = 2 ∨ f = 3 ∨ f = 4 ∨ f = 5 ∨ f = 6 ∨ f = 7) with rfl | rfl | rfl | rfl | rfl | rfl | rfl | rfl <;> kernel_rfl
theorem sl_ranks (f : Nat) (hf : f < 8) (W : World) : (Instr.sliceAt 9 (.string { data := #[49, 50, 51, 52, 53, 54, 55, 56] }) (some (.int .i64 f)) (some (.int .i64 ((f : Int) + 1))) none).run Tryz.prog W = .ok (.string (str [UInt8.ofNat (49 + f)])) W := by
 rcases (by omega : f = 0 ∨ f = 1 ∨ f = 2 ∨ f = 3 ∨ f = 4 ∨ f = 5 ∨ f = 6 ∨ f = 7) with rfl | rfl | rfl | rfl | rfl | rfl | rfl | rfl <;> kernel_rfl
theorem bin_cat (x y : UInt8) (W : World) : (binOp .add 9 (.string (str [x])) (.string (str [y]))).run Tryz.prog W = .ok (.string (str [x, y])) W := by kernel_rfl
theorem gu_s (b : BinOp) (t : TypeId) (x y : Operand) (u v : ByteArray) (W : World) : (eqGuard b t x y (.string u) (.string v)).run Tryz.prog W = .ok () W := by
 unfold eqGuard; cases b <;> simp [go_sem]
set_option maxRecDepth 100000 in
theorem refName_any (k : Nat) (hk : k < 64) (w : World) :
  Calls Tryz.prog 179 #[.agg #[.int .i64 8, .int .i64 8], .int .i64 k] w fun e w' => e = .returned (.string (str (nmL k))) ∧ Below w.heap.size w w' := by
 have hA := HasO.new w (.cells [.int .i64 8, .int .i64 8].toArray 23)
 have hB := below_box w (.cells [.int .i64 8, .int .i64 8].toArray 23)
 have hpl := fun W => refPlace_any 8 8 k (by decide) (by omega) W
 obtain ⟨f0, hf0⟩ : ∃ x, x = k % 8 := ⟨_, rfl⟩
 obtain ⟨r0, hr0⟩ : ∃ x, x = k / 8 := ⟨_, rfl⟩
 have hnm : nmL k = [UInt8.ofNat (97 + f0), UInt8.ofNat (49 + r0)] := by rw [hf0, hr0]; rfl
 rw [hnm]
 rw [← hf0, ← hr0] at hpl
 have hf8 : f0 < 8 := by omega
 have hr8 : r0 < 8 := by omega
 have hw1 : IntKind.i64.wrap ((f0 : Int) + 1) = (f0 : Int) + 1 := IntWalk.i64_in _ (by omega)
 have hw2 : IntKind.i64.wrap ((r0 : Int) + 1) = (r0 : Int) + 1 := IntWalk.i64_in _ (by omega)
 replace hf0 := Lib.hid hf0
 replace hr0 := Lib.hid hr0
 replace hnm := Lib.hid hnm
 have hc0 := hA.cells
 have hl0 := hA.lt
 go_enter Tryz.func179, Tryz.ntmps179
 go_wp2_with fail
 refine (hpl _).mono ?_
 rintro e w2 ⟨rfl, hb2⟩
 have hB2 := below_call hB hB.size hb2
 clear hpl hb2 hc0 hl0 hA hB
 have hQ := HasO.new w2 (.cells #[.int .i64 (f0 : Int), .int .i64 (r0 : Int)] 85)
 have hB3 := below_call hB2 hB2.size (below_box w2 (.cells #[.int .i64 (f0 : Int), .int .i64 (r0 : Int)] 85))
 go_wp2_with fail
 show Code.wp _ _ _ _ (w2.alloc (.cells #[.int .i64 (f0 : Int), .int .i64 (r0 : Int)] 85))
 obtain ⟨w3, hw3⟩ : ∃ x, x = w2.alloc (.cells #[.int .i64 (f0 : Int), .int .i64 (r0 : Int)] 85) := ⟨_, rfl⟩
 obtain ⟨q1, hq1⟩ : ∃ x, x = w2.heap.size := ⟨_, rfl⟩
 rw [← hw3] at hQ hB3 ⊢
 rw [← hq1] at hQ ⊢
 clear hw3 hq1 hB2
 refine wp_region_vl (by kernel_rfl) (by kernel_rfl) [some 9, some 10, some 11, some 12, some 13, some 14, some 15, some 16, some 17, some 18, some 19, some 20, some 21, some 4] (by rfl) (by rfl) w3.heap.size (fun i8 => match i8 with | 0 => .pointer (some ⟨q1, 0, none⟩) | 1 => .int .i64 (f0 : Int) | 2 => .pointer (some ⟨q1, 0, none⟩) | 3 => .int .i64 (f0 : Int) | 4 => .int .i64 ((f0 : Int) + 1) | 5 => .string (str [UInt8.ofNat (97 + f0)]) | 6 => .pointer (some ⟨q1, 1, none⟩) | 7 => .int .i64 (r0 : Int) | 8 => .pointer (some ⟨q1, 1, none⟩) | 9 => .int .i64 (r0 : Int) | 10 => .int .i64 ((r0 : Int) + 1) | 11 => .string (str [UInt8.ofNat (49 + r0)]) | 12 => .string (str [UInt8.ofNat (97 + f0), UInt8.ofNat (49 + r0)]) | 13 => .string (str [UInt8.ofNat (97 + f0), UInt8.ofNat (49 + r0)]) | _ => undef) (fun _ => none) ?hstep ?hend
 case hstep =>
  intro i9 o9 f9 W ho hi hC hf K hK
  have hi : i9 < 14 := hi
  rcases i9 with _ | _ | _ | _ | _ | _ | _ | _ | _ | _ | _ | _ | _ | _ | i9
  ·exact st_field (og ho) 85 (.tmp 5) 0 (oo ho) (rd_out rfl rfl) (n := 0) (by kernel_rfl) (kk hK)
  ·exact st_loadS (og ho) 3 (.tmp 9) (oo ho) (ri 0 (da ho hf 0)) (by kernel_rfl) (((hQ.call hC).cells 0)) (kk hK)
  ·exact st_field (og ho) 85 (.tmp 5) 0 (oo ho) (rd_out rfl rfl) (n := 0) (by kernel_rfl) (kk hK)
  ·exact st_loadS (og ho) 3 (.tmp 11) (oo ho) (ri 2 (da ho hf 2)) (by kernel_rfl) (((hQ.call hC).cells 0)) (kk hK)
  ·exact st_bin (og ho) .add 3 3 (.tmp 12) (.const (.int .i64 1)) (oo ho) (ri 3 (da ho hf 3)) rfl (gu_i _ _ _ _ _ _ _ _) (bin_addE hw1) (kk hK)
  ·exact st_slice (og ho) 9 (.const (.string { data := #[97, 98, 99, 100, 101, 102, 103, 104] })) (some (.tmp 10)) (some (.tmp 13)) none (oo ho) rfl (congrArg some (ri 1 (da ho hf 1))) (congrArg some (ri 4 (da ho hf 4))) rfl (sl_files _ hf8 W) (kk hK)
  ·exact st_field (og ho) 85 (.tmp 5) 1 (oo ho) (rd_out rfl rfl) (n := 1) (by kernel_rfl) (kk hK)
  ·exact st_loadS (og ho) 3 (.tmp 15) (oo ho) (ri 6 (da ho hf 6)) (by kernel_rfl) (((hQ.call hC).cells 1)) (kk hK)
  ·exact st_field (og ho) 85 (.tmp 5) 1 (oo ho) (rd_out rfl rfl) (n := 1) (by kernel_rfl) (kk hK)
  ·exact st_loadS (og ho) 3 (.tmp 17) (oo ho) (ri 8 (da ho hf 8)) (by kernel_rfl) (((hQ.call hC).cells 1)) (kk hK)
  ·exact st_bin (og ho) .add 3 3 (.tmp 18) (.const (.int .i64 1)) (oo ho) (ri 9 (da ho hf 9)) rfl (gu_i _ _ _ _ _ _ _ _) (bin_addE hw2) (kk hK)
  ·exact st_slice (og ho) 9 (.const (.string { data := #[49, 50, 51, 52, 53, 54, 55, 56] })) (some (.tmp 16)) (some (.tmp 19)) none (oo ho) rfl (congrArg some (ri 7 (da ho hf 7))) (congrArg some (ri 10 (da ho hf 10))) rfl (sl_ranks _ hr8 W) (kk hK)
  ·exact st_bin (og ho) .add 9 9 (.tmp 14) (.tmp 20) (oo ho) (ri 5 (da ho hf 5)) (ri 11 (da ho hf 11)) (gu_s _ _ _ _ _ _ _) (bin_cat _ _ _) (kk hK)
  ·exact st_assign (og ho) (.tmp 21) (oo ho) (ri 12 (da ho hf 12)) (kk hK)
  ·omega
 case hend =>
  intro f9 W hC hf
  go_wp2_with fail
  refine bodyPost_ret (results_tmp (fn := Tryz.f179) Tryz.results179 _ _ _) (by rw [putL_defers]) ?_
  refine ⟨?_, below_call hB3 hB3.size hC⟩
  rw [slot_in rfl 13 rfl (by simp) (hf 13 (by decide))]
  rfl
theorem nmL_inj {i k : Nat} (hi : i < 64) (hk : k < 64) (h : nmL i = nmL k) : i = k := by
 have h1 : ∀ i, i < 64 → ∀ k, k < 64 → nmL i = nmL k → i = k := by decide +kernel
 exact h1 i hi k hk h
set_option maxRecDepth 100000 in
theorem refParse8_any (k : Nat) (hk : k < 64) (w : World) :
  Calls Tryz.prog 131 #[.agg #[.int .i64 8, .int .i64 8], .string (str (nmL k))] w fun e w' => e = .returned (.int .i64 k) ∧ Below w.heap.size w w' := by
 have hA := HasO.new w (.cells #[.int .i64 8, .int .i64 8] 23)
 have hB := below_box w (.cells #[.int .i64 8, .int .i64 8] 23)
 go_enter Tryz.func131, Tryz.ntmps131
 go_wp2_with fail
 show Code.wp _ _ _ _ (w.alloc (.cells #[.int .i64 8, .int .i64 8] 23))
 obtain ⟨w1, hw1⟩ : ∃ x, x = w.alloc (.cells #[.int .i64 8, .int .i64 8] 23) := ⟨_, rfl⟩
 rw [← hw1] at hA hB ⊢
 clear hw1
 go_loopg [5] 65 (fun q iv wr => ∃ i : Nat, q + i = 65 ∧ i ≤ k ∧ iv = .int .i64 i ∧ Below w1.heap.size w1 wr)
 case atStart => exact ⟨0, rfl, Nat.zero_le _, rfl, Below.refl _ _⟩
 case round =>
  obtain ⟨i, hq, hi, rfl, hbr⟩ := hrel
  have hBr := below_call hB hB.size hbr
  have hcr := (hA.call hbr).cells
  have hlr := (hA.call hbr).lt
  have hi64 : (i : Int) < 64 := by omega
  go_wp2_with fail
  refine (refName_any i (by omega) _).mono ?_
  rintro e w2 ⟨rfl, hb2⟩
  have hb3 := below_call hbr hbr.size hb2
  have hB3 := below_call hBr hBr.size hb2
  clear hbr hb2 hcr hlr hBr
  by_cases hik : i = k
  ·have c1 : ((str (nmL i)).toList == (str (nmL k)).toList) = true := by simp [hik]
   replace hik := Lib.hid hik
   go_wp2_with fail
   go_ret
   exact ⟨by rw [← hik.out]; rfl, hB3⟩
  ·have hne : ¬ nmL i = nmL k := fun h => hik (nmL_inj (by omega) hk h)
   have c1 : ((str (nmL i)).toList == (str (nmL k)).toList) = false := by rw [str_beq]; simp [hne]
   replace hne := Lib.hid hne
   go_wp2_with fail
   go_roundg (gk - 1)
   case measure => omega
   case rel => exact ⟨i + 1, by omega, by omega, by go_num, hb3⟩
theorem index25 (W : World) (g o N cap k : Nat) (hk : k < N) : (Instr.indexAt 24 (.slice (some ⟨g, o, none⟩) N cap) (.int .i64 k)).run Tryz.prog W = .ok (.pointer (some ⟨g, o + k, none⟩)) W := by
 simp [Instr.indexAt, go_sem, run_underlying Tryz.underlying24, hk]
set_option maxRecDepth 100000 in
theorem refAt_any (f r ca pa ha fu : Int) (bl : Bool) (p : Option Addr) (c : Nat) (xs : List Int) (k : Nat) (hk : k < 64) (hlen : xs.length = 64) (w : World) (hx : Arr .i8 w p xs) :
  Calls Tryz.prog 161 #[.agg (posCs f r p xs.length c bl ca pa ha fu).toArray, .string (str (nmL k))] w fun e w' => e = .returned (.int .i8 (xs[k]?.getD 0)) ∧ Below w.heap.size w w' := by
 have hB := below_box w (.cells (posCs f r p xs.length c bl ca pa ha fu).toArray 26)
 have hA := HasO.new w (.cells (posCs f r p xs.length c bl ca pa ha fu).toArray 26)
 have hlt : k < xs.length := by omega
 obtain ⟨g, o, rfl, hgl, hcc⟩ := (hx.call hB).at hlt
 have hcx := hcc k hlt
 have hpa := fun W => refParse8_any k hk W
 generalize xs[k]?.getD 0 = x at hcx ⊢
 generalize nmL k = nm at hpa ⊢
 replace hlen := Lib.hid hlen
 clear hcc hx
 go_enter Tryz.func161, Tryz.ntmps161
 go_wp2_with fail
 show Code.wp _ _ _ _ (w.alloc (.cells (posCs f r (some ⟨g, o, none⟩) xs.length c bl ca pa ha fu).toArray 26))
 obtain ⟨w1, hw1⟩ : ∃ x, x = w.alloc (.cells (posCs f r (some ⟨g, o, none⟩) xs.length c bl ca pa ha fu).toArray 26) := ⟨_, rfl⟩
 rw [← hw1] at hA hB hcx hgl ⊢
 clear hw1
 refine wp_region_vl (by kernel_rfl) (by kernel_rfl) [some 5, some 6, some 7, some 8, some 9, some 10, some 11, some 4] (by rfl) (by rfl) w1.heap.size (fun i8 => match i8 with | 0 => .pointer (some ⟨w.heap.size, 2, none⟩) | 1 => .slice (some ⟨g, o, none⟩) xs.length c | 2 => .agg #[.int .i64 8, .int .i64 8] | 3 => .string (str nm) | 4 => .int .i64 ((k : Nat) : Int) | 5 => .pointer (some ⟨g, o + k, none⟩) | 6 => .int .i8 x | 7 => .int .i8 x | _ => undef) (fun _ => none) ?hstep ?hend
 case hstep =>
  intro i9 o9 f9 W ho hi hC hf K hK
  have hi : i9 < 8 := hi
  rcases i9 with _ | _ | _ | _ | _ | _ | _ | _ | i9
  ·exact st_field (og ho) 26 (.tmp 2) 1 (oo ho) (rd_out rfl rfl) (n := 2) (by kernel_rfl) (kk hK)
  ·exact st_loadS (og ho) 24 (.tmp 5) (oo ho) (ri 0 (da ho hf 0)) (by kernel_rfl) (((hA.call hC).cells 2)) (kk hK)
  ·exact st_build2 (og ho) 23 0 1 (.const (.int .i64 8)) (.const (.int .i64 8)) (oo ho) rfl rfl (by kernel_rfl) (kk hK)
  ·exact st_move (og ho) (.tmp 1) (oo ho) (rd_out rfl rfl) (kk hK)
  ·exact st_call2 (og ho) 131 (.tmp 7) (.tmp 8) #[23, 9] (oo ho) (ri 2 (da ho hf 2)) (ri 3 (da ho hf 3)) (fun _ _ => rfl) (hpa W) (by rintro u w9 ⟨h9, hb9⟩; injection h9 with h9; subst h9; exact hK _ _ hb9 rfl) (fun _ _ h => nomatch h.1) (fun _ h => nomatch h.1)
  ·exact st_index (og ho) 24 (.tmp 6) (.tmp 9) (oo ho) (ri 1 (da ho hf 1)) (ri 4 (da ho hf 4)) (index25 W g o xs.length c k hlt) (kk hK)
  ·exact st_loadS (og ho) 38 (.tmp 10) (oo ho) (ri 5 (da ho hf 5)) (by kernel_rfl) ((hC.cell (p := ⟨g, o + k, none⟩) hgl).trans hcx) (kk hK)
  ·exact st_assign (og ho) (.tmp 11) (oo ho) (ri 6 (da ho hf 6)) (kk hK)
  ·omega
 case hend =>
  intro f9 W hC hf
  go_wp2_with fail
  refine bodyPost_ret (results_tmp (fn := Tryz.f161) Tryz.results161 _ _ _) (by rw [putL_defers]) ?_
  refine ⟨?_, below_call hB hB.size hC⟩
  rw [slot_in rfl 7 rfl (by simp) (hf 7 (by decide))]
  rfl
def homeV (xs : List Int) (bit : Int) : Bool :=
 if bit = 1 then (xs[4]?.getD 0 == 6) && (xs[7]?.getD 0 == 4) else if bit = 2 then (xs[4]?.getD 0 == 6) && (xs[0]?.getD 0 == 4)
 else if bit = 4 then (xs[60]?.getD 0 == -6) && (xs[63]?.getD 0 == -4) else (xs[60]?.getD 0 == -6) && (xs[56]?.getD 0 == -4)
def homeB (f r : Int) (xs : List Int) (bit : Int) : Bool := (f == 8) && ((r == 8) && homeV xs bit)
set_option maxRecDepth 100000 in
theorem refHome_any (f r ca pa ha fu : Int) (bl : Bool) (p : Option Addr) (c : Nat) (xs : List Int) (bit : Int) (hbit : bit = 1 ∨ bit = 2 ∨ bit = 4 ∨ bit = 8) (hlen : (xs.length : Int) = f * r) (w : World) (hx : Arr .i8 w p xs) :
  Calls Tryz.prog 101 #[.agg (posCs f r p xs.length c bl ca pa ha fu).toArray, .int .u8 bit] w fun e w' => e = .returned (.bool (homeB f r xs bit)) ∧ Below w.heap.size w w' := by
 have hB := below_box w (.cells (posCs f r p xs.length c bl ca pa ha fu).toArray 26)
 have hA := HasO.new w (.cells (posCs f r p xs.length c bl ca pa ha fu).toArray 26)
 have hc0 := hA.cells
 have hl0 := hA.lt
 by_cases h8 : f = 8
 ·by_cases r8 : r = 8
  ·subst h8
   subst r8
   have hl64 : xs.length = 64 := by omega
   have at4 := fun W h => refAt_any 8 8 ca pa ha fu bl p c xs 4 (by decide) hl64 W h
   rw [show str (nmL 4) = { data := #[101, 49] } by rfl] at at4
   have at7 := fun W h => refAt_any 8 8 ca pa ha fu bl p c xs 7 (by decide) hl64 W h
   rw [show str (nmL 7) = { data := #[104, 49] } by rfl] at at7
   have at0 := fun W h => refAt_any 8 8 ca pa ha fu bl p c xs 0 (by decide) hl64 W h
   rw [show str (nmL 0) = { data := #[97, 49] } by rfl] at at0
   have at60 := fun W h => refAt_any 8 8 ca pa ha fu bl p c xs 60 (by decide) hl64 W h
   rw [show str (nmL 60) = { data := #[101, 56] } by rfl] at at60
   have at63 := fun W h => refAt_any 8 8 ca pa ha fu bl p c xs 63 (by decide) hl64 W h
   rw [show str (nmL 63) = { data := #[104, 56] } by rfl] at at63
   have at56 := fun W h => refAt_any 8 8 ca pa ha fu bl p c xs 56 (by decide) hl64 W h
   rw [show str (nmL 56) = { data := #[97, 56] } by rfl] at at56
   have hv : homeB 8 8 xs bit = homeV xs bit := rfl
   rw [hv]
   have hvv : homeV xs bit = if bit = 1 then (xs[4]?.getD 0 == 6) && (xs[7]?.getD 0 == 4) else if bit = 2 then (xs[4]?.getD 0 == 6) && (xs[0]?.getD 0 == 4)
    else if bit = 4 then (xs[60]?.getD 0 == -6) && (xs[63]?.getD 0 == -4) else (xs[60]?.getD 0 == -6) && (xs[56]?.getD 0 == -4) := rfl
   generalize homeV xs bit = V at hvv ⊢
   clear hlen hv
   have hx1 := hx.call hB
   generalize xs[4]?.getD 0 = y4, xs[7]?.getD 0 = y7, xs[0]?.getD 0 = y0, xs[60]?.getD 0 = y60, xs[63]?.getD 0 = y63, xs[56]?.getD 0 = y56 at *
   replace hl64 := Lib.hid hl64
   clear hx
   rcases hbit with rfl | rfl | rfl | rfl
   ·have e0 : Hid (V = ((y4 == 6) && (y7 == 4))) := Lib.hid (by rw [hvv]; rfl)
    clear hvv
    go_enter Tryz.func101, Tryz.ntmps101
    go_wp2_with fail
    refine (at4 _ hx1).mono ?_
    rintro e w2 ⟨rfl, hb2⟩
    have hB2 := below_call hB hB.size hb2
    have hc2 := (hA.call hb2).cells
    have hl2 := (hA.call hb2).lt
    have hx2 := hx1.call hb2
    clear hc0 hl0 hB hA hx1 hb2
    rcases d1 : (y4 == 6) with _ | _
    ·rw [d1] at e0
     go_wp2_with fail
     go_ret
     exact ⟨by rw [e0.out]; rfl, hB2⟩
    ·rw [d1] at e0
     go_wp2_with fail
     refine (at7 _ hx2).mono ?_
     rintro e w3 ⟨rfl, hb3⟩
     go_wp2_with fail
     go_ret
     exact ⟨by rw [e0.out]; rfl, below_call hB2 hB2.size hb3⟩
   ·have e0 : Hid (V = ((y4 == 6) && (y0 == 4))) := Lib.hid (by rw [hvv]; rfl)
    clear hvv
    go_enter Tryz.func101, Tryz.ntmps101
    go_wp2_with fail
    refine (at4 _ hx1).mono ?_
    rintro e w2 ⟨rfl, hb2⟩
    have hB2 := below_call hB hB.size hb2
    have hc2 := (hA.call hb2).cells
    have hl2 := (hA.call hb2).lt
    have hx2 := hx1.call hb2
    clear hc0 hl0 hB hA hx1 hb2
    rcases d1 : (y4 == 6) with _ | _
    ·rw [d1] at e0
     go_wp2_with fail
     go_ret
     exact ⟨by rw [e0.out]; rfl, hB2⟩
    ·rw [d1] at e0
     go_wp2_with fail
     refine (at0 _ hx2).mono ?_
     rintro e w3 ⟨rfl, hb3⟩
     go_wp2_with fail
     go_ret
     exact ⟨by rw [e0.out]; rfl, below_call hB2 hB2.size hb3⟩
   ·have e0 : Hid (V = ((y60 == (-6)) && (y63 == (-4)))) := Lib.hid (by rw [hvv]; rfl)
    clear hvv
    go_enter Tryz.func101, Tryz.ntmps101
    go_wp2_with fail
    refine (at60 _ hx1).mono ?_
    rintro e w2 ⟨rfl, hb2⟩
    have hB2 := below_call hB hB.size hb2
    have hc2 := (hA.call hb2).cells
    have hl2 := (hA.call hb2).lt
    have hx2 := hx1.call hb2
    clear hc0 hl0 hB hA hx1 hb2
    rcases d1 : (y60 == (-6)) with _ | _
    ·rw [d1] at e0
     go_wp2_with fail
     go_ret
     exact ⟨by rw [e0.out]; rfl, hB2⟩
    ·rw [d1] at e0
     go_wp2_with fail
     refine (at63 _ hx2).mono ?_
     rintro e w3 ⟨rfl, hb3⟩
     go_wp2_with fail
     go_ret
     exact ⟨by rw [e0.out]; rfl, below_call hB2 hB2.size hb3⟩
   ·have e0 : Hid (V = ((y60 == (-6)) && (y56 == (-4)))) := Lib.hid (by rw [hvv]; rfl)
    clear hvv
    go_enter Tryz.func101, Tryz.ntmps101
    go_wp2_with fail
    refine (at60 _ hx1).mono ?_
    rintro e w2 ⟨rfl, hb2⟩
    have hB2 := below_call hB hB.size hb2
    have hc2 := (hA.call hb2).cells
    have hl2 := (hA.call hb2).lt
    have hx2 := hx1.call hb2
    clear hc0 hl0 hB hA hx1 hb2
    rcases d1 : (y60 == (-6)) with _ | _
    ·rw [d1] at e0
     go_wp2_with fail
     go_ret
     exact ⟨by rw [e0.out]; rfl, hB2⟩
    ·rw [d1] at e0
     go_wp2_with fail
     refine (at56 _ hx2).mono ?_
     rintro e w3 ⟨rfl, hb3⟩
     go_wp2_with fail
     go_ret
     exact ⟨by rw [e0.out]; rfl, below_call hB2 hB2.size hb3⟩
  ·have e0 : Hid (homeB f r xs bit = false) := Lib.hid (by simp [homeB, r8])
   have d1 : (f != 8) = false := by simp [h8]
   have d2 : (r != 8) = true := by simp [r8]
   replace hlen := Lib.hid hlen
   replace h8 := Lib.hid h8
   clear hbit
   go_enter Tryz.func101, Tryz.ntmps101
   go_wp2_with fail
   go_ret
   exact ⟨by rw [e0.out]; rfl, hB⟩
 ·have e0 : Hid (homeB f r xs bit = false) := Lib.hid (by simp [homeB, h8])
  have d1 : (f != 8) = true := by simp [h8]
  replace hlen := Lib.hid hlen
  clear hbit
  go_enter Tryz.func101, Tryz.ntmps101
  go_wp2_with fail
  go_ret
  exact ⟨by rw [e0.out]; rfl, hB⟩
def bitI : Nat → Int | 0 => 1 | 1 => 2 | 2 => 4 | _ => 8
def cstK (f r : Int) (xs : List Int) (ca : Int) : Nat → Bool
 | 0 => true
 | k + 1 => cstK f r xs ca k && (!(ca / bitI k % 2 == 1) || homeB f r xs (bitI k))
def cstB (f r : Int) (xs : List Int) (ca : Int) : Bool := !decide (15 < ca) && cstK f r xs ca 4
theorem cstK_le {f r : Int} {xs : List Int} {ca : Int} {k : Nat} (h : cstK f r xs ca k = false) : ∀ n, cstK f r xs ca (k + n) = false := by
 intro n
 induction n with
 | zero => exact h
 | succ n ih => rw [← Nat.add_assoc]; simp only [cstK, ih]; rfl
set_option maxRecDepth 100000 in
theorem refCastle_any (f r ca pa ha fu : Int) (bl : Bool) (p : Option Addr) (c : Nat) (xs : List Int) (hca : 0 ≤ ca) (hlen : (xs.length : Int) = f * r) (w : World) (hx : Arr .i8 w p xs) :
  Calls Tryz.prog 42 #[.agg (posCs f r p xs.length c bl ca pa ha fu).toArray] w fun e w' => e = .returned (.bool (cstB f r xs ca)) ∧ Below w.heap.size w w' := by
 have hB := below_box w (.cells (posCs f r p xs.length c bl ca pa ha fu).toArray 26)
 have hA := HasO.new w (.cells (posCs f r p xs.length c bl ca pa ha fu).toArray 26)
 have hho := fun bit hb W h => refHome_any f r ca pa ha fu bl p c xs bit hb hlen W h
 replace hlen := Lib.hid hlen
 by_cases h15 : 15 < ca
 ·have e0 : Hid (cstB f r xs ca = false) := Lib.hid (by simp [cstB, h15])
  go_enter Tryz.func42, Tryz.ntmps42
  go_wp2_with fail
  go_ret
  exact ⟨by rw [e0.out]; rfl, hB⟩
 ·have e0 : Hid (cstB f r xs ca = cstK f r xs ca 4) := Lib.hid (by simp [cstB, h15])
  go_enter Tryz.func42, Tryz.ntmps42
  go_wp2_with fail
  show Code.wp _ _ _ _ ((w.alloc (.cells (posCs f r p xs.length c bl ca pa ha fu).toArray 26)).alloc (.cells #[.int .u8 1, .int .u8 2, .int .u8 4, .int .u8 8] 5))
  have hQ := HasO.new (w.alloc (.cells (posCs f r p xs.length c bl ca pa ha fu).toArray 26)) (.cells #[.int .u8 1, .int .u8 2, .int .u8 4, .int .u8 8] 5)
  have hA1 := hA.alloc (.cells #[.int .u8 1, .int .u8 2, .int .u8 4, .int .u8 8] 5)
  have hB1 := hB.alloc hB.size (.cells #[.int .u8 1, .int .u8 2, .int .u8 4, .int .u8 8] 5)
  obtain ⟨w1, hw1⟩ : ∃ x, x = (w.alloc (.cells (posCs f r p xs.length c bl ca pa ha fu).toArray 26)).alloc (.cells #[.int .u8 1, .int .u8 2, .int .u8 4, .int .u8 8] 5) := ⟨_, rfl⟩
  rw [← hw1] at hQ hA1 hB1 ⊢
  have hx1 := hx.call hB1
  clear hw1 hA hB hx
  have hqe : (w.alloc (.cells (posCs f r p xs.length c bl ca pa ha fu).toArray 26)).heap.size = w.heap.size + 1 := by simp
  rw [hqe] at hQ
  clear hqe
  go_loopg [10] 5 (fun q iv wr => ∃ i : Nat, q + i = 5 ∧ i ≤ 4 ∧ iv = .int .i64 i ∧ cstK f r xs ca i = true ∧ Below w1.heap.size w1 wr)
  case atStart => exact ⟨0, rfl, Nat.zero_le _, rfl, rfl, Below.refl _ _⟩
  case round =>
   obtain ⟨i, hq, hi, rfl, hok, hbr⟩ := hrel
   have hAr := hA1.call hbr
   have hQr := hQ.call hbr
   have hcr := hAr.cells
   have hlr := hAr.lt
   have hdr := hQr.cells
   have hmr := hQr.lt
   have hBr := below_call hB1 hB1.size hbr
   have hxr := hx1.call hbr
   replace hok := Lib.hid hok
   by_cases hlt : i < 4
   ·have hnx : cstK f r xs ca (i + 1) = (cstK f r xs ca i && (!(ca / bitI i % 2 == 1) || homeB f r xs (bitI i))) := rfl
    rw [hok.out, Bool.true_and] at hnx
    replace hnx := Lib.hid hnx
    rcases (by omega : i = 0 ∨ i = 1 ∨ i = 2 ∨ i = 3) with rfl | rfl | rfl | rfl
    ·have hc0 := hdr 0
     have hh := hho 1 (by decide) wr hxr
     have hbi : bitI 0 = 1 := rfl
     rw [hbi] at hnx
     clear hdr hho
     rw [Int.ediv_one] at hnx
     rcases d1 : (ca % 2 == 1) with _ | _
     ·have hn1 : Hid (cstK f r xs ca (0 + 1) = true) := Lib.hid (by rw [hnx.out, d1]; rfl)
      go_wp2_with fail
      go_roundg (gk - 1)
      case measure => omega
      case rel => exact ⟨0 + 1, by omega, by omega, by go_num, hn1.out, hbr⟩
     ·go_wp2_with fail
      refine hh.mono ?_
      rintro e w2 ⟨rfl, hb2⟩
      have hb3 := below_call hbr hbr.size hb2
      have hB3 := below_call hBr hBr.size hb2
      clear hcr hlr hmr hc0 hAr hQr hxr hb2 hbr hBr
      rcases d2 : homeB f r xs 1 with _ | _
      ·have hn1 : cstK f r xs ca (0 + 1) = false := by rw [hnx.out, d1, d2]; rfl
       have hn2 : Hid (cstB f r xs ca = false) := Lib.hid (by rw [e0.out]; exact cstK_le hn1 3)
       clear hn1
       go_wp2_with fail
       go_ret
       exact ⟨by rw [hn2.out]; rfl, hB3⟩
      ·have hn1 : Hid (cstK f r xs ca (0 + 1) = true) := Lib.hid (by rw [hnx.out, d1, d2]; rfl)
       go_wp2_with fail
       go_roundg (gk - 1)
       case measure => omega
       case rel => exact ⟨0 + 1, by omega, by omega, by go_num, hn1.out, hb3⟩
    ·have hc1 := hdr 1
     have hh := hho 2 (by decide) wr hxr
     have hbi : bitI 1 = 2 := rfl
     rw [hbi] at hnx
     clear hdr hho
     skip
     rcases d1 : (ca / 2 % 2 == 1) with _ | _
     ·have hn1 : Hid (cstK f r xs ca (1 + 1) = true) := Lib.hid (by rw [hnx.out, d1]; rfl)
      go_wp2_with fail
      go_roundg (gk - 1)
      case measure => omega
      case rel => exact ⟨1 + 1, by omega, by omega, by go_num, hn1.out, hbr⟩
     ·go_wp2_with fail
      refine hh.mono ?_
      rintro e w2 ⟨rfl, hb2⟩
      have hb3 := below_call hbr hbr.size hb2
      have hB3 := below_call hBr hBr.size hb2
      clear hcr hlr hmr hc1 hAr hQr hxr hb2 hbr hBr
      rcases d2 : homeB f r xs 2 with _ | _
      ·have hn1 : cstK f r xs ca (1 + 1) = false := by rw [hnx.out, d1, d2]; rfl
       have hn2 : Hid (cstB f r xs ca = false) := Lib.hid (by rw [e0.out]; exact cstK_le hn1 2)
       clear hn1
       go_wp2_with fail
       go_ret
       exact ⟨by rw [hn2.out]; rfl, hB3⟩
      ·have hn1 : Hid (cstK f r xs ca (1 + 1) = true) := Lib.hid (by rw [hnx.out, d1, d2]; rfl)
       go_wp2_with fail
       go_roundg (gk - 1)
       case measure => omega
       case rel => exact ⟨1 + 1, by omega, by omega, by go_num, hn1.out, hb3⟩
    ·have hc2 := hdr 2
     have hh := hho 4 (by decide) wr hxr
     have hbi : bitI 2 = 4 := rfl
     rw [hbi] at hnx
     clear hdr hho
     skip
     rcases d1 : (ca / 4 % 2 == 1) with _ | _
     ·have hn1 : Hid (cstK f r xs ca (2 + 1) = true) := Lib.hid (by rw [hnx.out, d1]; rfl)
      go_wp2_with fail
      go_roundg (gk - 1)
      case measure => omega
      case rel => exact ⟨2 + 1, by omega, by omega, by go_num, hn1.out, hbr⟩
     ·go_wp2_with fail
      refine hh.mono ?_
      rintro e w2 ⟨rfl, hb2⟩
      have hb3 := below_call hbr hbr.size hb2
      have hB3 := below_call hBr hBr.size hb2
      clear hcr hlr hmr hc2 hAr hQr hxr hb2 hbr hBr
      rcases d2 : homeB f r xs 4 with _ | _
      ·have hn1 : cstK f r xs ca (2 + 1) = false := by rw [hnx.out, d1, d2]; rfl
       have hn2 : Hid (cstB f r xs ca = false) := Lib.hid (by rw [e0.out]; exact cstK_le hn1 1)
       clear hn1
       go_wp2_with fail
       go_ret
       exact ⟨by rw [hn2.out]; rfl, hB3⟩
      ·have hn1 : Hid (cstK f r xs ca (2 + 1) = true) := Lib.hid (by rw [hnx.out, d1, d2]; rfl)
       go_wp2_with fail
       go_roundg (gk - 1)
       case measure => omega
       case rel => exact ⟨2 + 1, by omega, by omega, by go_num, hn1.out, hb3⟩
    ·have hc3 := hdr 3
     have hh := hho 8 (by decide) wr hxr
     have hbi : bitI 3 = 8 := rfl
     rw [hbi] at hnx
     clear hdr hho
     skip
     rcases d1 : (ca / 8 % 2 == 1) with _ | _
     ·have hn1 : Hid (cstK f r xs ca (3 + 1) = true) := Lib.hid (by rw [hnx.out, d1]; rfl)
      go_wp2_with fail
      go_roundg (gk - 1)
      case measure => omega
      case rel => exact ⟨3 + 1, by omega, by omega, by go_num, hn1.out, hbr⟩
     ·go_wp2_with fail
      refine hh.mono ?_
      rintro e w2 ⟨rfl, hb2⟩
      have hb3 := below_call hbr hbr.size hb2
      have hB3 := below_call hBr hBr.size hb2
      clear hcr hlr hmr hc3 hAr hQr hxr hb2 hbr hBr
      rcases d2 : homeB f r xs 8 with _ | _
      ·have hn1 : cstK f r xs ca (3 + 1) = false := by rw [hnx.out, d1, d2]; rfl
       have hn2 : Hid (cstB f r xs ca = false) := Lib.hid (by rw [e0.out]; exact cstK_le hn1 0)
       clear hn1
       go_wp2_with fail
       go_ret
       exact ⟨by rw [hn2.out]; rfl, hB3⟩
      ·have hn1 : Hid (cstK f r xs ca (3 + 1) = true) := Lib.hid (by rw [hnx.out, d1, d2]; rfl)
       go_wp2_with fail
       go_roundg (gk - 1)
       case measure => omega
       case rel => exact ⟨3 + 1, by omega, by omega, by go_num, hn1.out, hb3⟩
   ·have hn4 : ¬ (i : Int) < 4 := by omega
    obtain rfl : i = 4 := by omega
    go_wp2_with fail
    go_ret
    exact ⟨by rw [e0.out, hok.out]; rfl, hBr⟩
end Go.Proofs.YtefmplccbkmalaaGreatDoor
