import Derived.Test.YtefmplccbkmalaaGreatDoorF46
set_option maxHeartbeats 12800000
namespace Go.Proofs.YtefmplccbkmalaaGreatDoor
open Go.RowKit Go.Sort Go.BigFrame

theorem zero_i8 (o : Nat) (x : Int) : zeroPos.toArray[o]? ≠ some (.int .i8 x) := by
 intro h
 rcases o with _ | _ | _ | _ | _ | _ | _ | _ | o <;> (simp at h)
theorem Arr.far_row {w : World} {p : Option Addr} {xs : List Int} (h : Arr .i8 w p xs) (hl : 0 < xs.length) {g : Nat} {cs : Array Value} (hg : ∀ o x, w.cell? ⟨g, o, none⟩ ≠ some (.int .i8 x)) : Arr .i8 (w.setRow g cs) p xs := by
 rcases h with h | ⟨b, o, rfl, hb, hc⟩
 ·rw [h] at hl; cases hl
 ·have hne : b ≠ g := fun e => by subst e; exact hg _ _ (hc 0 hl)
  have ha := setRow_alt w g cs
  refine .inr ⟨b, o, rfl, Nat.lt_of_lt_of_le hb ha.size, fun j hj => ?_⟩
  rw [← hc j hj]
  exact World.cell?_of_block (w := w) (ha.block b hb (by omega))
set_option maxRecDepth 100000 in
theorem posn_any (s wb : List UInt8) (rk : List (List UInt8)) (F R h u : Nat) (bl : Bool) (w : World) (hs : s.length ≤ 1000) (hsp : spl 32 s = [[digC F, 120, digC R], wb, colS bl, [45], [45], [digC h], [digC u]])
  (hwb : wb.length ≤ 1000) (hrk : spl 47 wb = rk) (hRl : R = rk.length) (hR : 3 ≤ R ∧ R ≤ 8) (hF : 3 ≤ F ∧ F ≤ 8) (hok : brdB F rk = true) (hh : h < 10) (hu : u < 10) (hpv : pvB F R (brdL rk R) bl 0 (-1) h u = true) :
  Calls Tryz.prog 25 #[.string (str s)] w fun e w' => (∃ p c, e = .returned (.agg (posCs F R p (R * F) c bl 0 (-1) h u).toArray) ∧ R * F ≤ c ∧ Arr .i8 w' p (brdL rk R)) ∧ RowKit.Below w.heap.size w w' := by
 have hO := HasO.new w (.cells zeroPos.toArray 26)
 have hB := below_box w (.cells zeroPos.toArray 26)
 have hpp := fun W => posParse_any s wb rk F R h u bl W hs hsp hwb hrk hRl hR hF hok hh hu hpv
 have hXl : 0 < (brdL rk R).length := by
  rw [brdL_len hok R (by omega)]
  exact Nat.mul_pos (by omega) (by omega)
 generalize hST : str s = ST at *
 generalize brdL rk R = XS at *
 clear hsp hok hpv hwb hrk hs hST
 replace hRl := True.intro
 go_enter Tryz.func25, Tryz.ntmps25
 go_upto_region 1 with fail
 change Code.wp _ _ _ _ (w.alloc (.cells zeroPos.toArray 26))
 generalize w.alloc (.cells zeroPos.toArray 26) = W1 at *
 go_wp2_with fail
 refine (hpp W1).mono ?_
 rintro e W2 ⟨⟨p, c, rfl, hc, hx⟩, hb2⟩
 have hO2 := hO.call hb2
 have hB2 := below_call hB hB.size hb2
 have hbx := below_box W2 (.cells (posCs F R p (R * F) c bl 0 (-1) h u).toArray 26)
 have hX := HasO.new W2 (.cells (posCs F R p (R * F) c bl 0 (-1) h u).toArray 26)
 clear hpp hO hB hb2
 go_upto_region 2 with fail
 change Code.wp _ _ _ _ (W2.alloc (.cells (posCs F R p (R * F) c bl 0 (-1) h u).toArray 26))
 have hO3 := hO2.call hbx
 have hB3 := below_call hB2 hB2.size hbx
 have hx3 := hx.call hbx
 have hl3 : W2.heap.size ≠ w.heap.size := by have := hO2.lt; omega
 generalize W2.alloc (.cells (posCs F R p (R * F) c bl 0 (-1) h u).toArray 26) = W3 at *
 have hi : Hid ((Tryz.prog.info? 26).map (·.size) = some ((posCs F R p (R * F) c bl 0 (-1) h u).toArray).size) := Lib.hid (by kernel_rfl)
 have ho : Hid (((posCs F R p (R * F) c bl 0 (-1) h u).toArray).all (·.oneCell') = true) := Lib.hid (by simp [Value.oneCell'])
 go_wp2_with (first | (refine wpList_loadO rfl 26 (.tmp 3) rfl W2.heap.size _ 26 rfl hX (by kernel_rfl) ?_) | ((refine wpList_storeAgg rfl 26 (.tmp 2) (.tmp 10) rfl w.heap.size ((posCs F R p (R * F) c bl 0 (-1) h u).toArray) rfl rfl 26 _ hO3 hi.out rfl ho.out ?_); rintro w9 rfl) | fail)
 refine bodyPost_ret (results_cell (fn := Tryz.f25) Tryz.results25 rfl (setRow_hasO (cells := (posCs F R p (R * F) c bl 0 (-1) h u).toArray) hO3) (by kernel_rfl)) rfl ?_
 have hbS := setRow_below (cells := (posCs F R p (R * F) c bl 0 (-1) h u).toArray) hB3 (Nat.le_refl _) hB3.size
 refine ⟨⟨p, c, rfl, hc, ?_⟩, hbS⟩
 refine hx3.far_row hXl (fun o x e => ?_)
 rw [hO3.cells o] at e
 exact zero_i8 o x e
abbrev s4 : ByteArray := str [101, 49, 99, 49]
theorem sl_a (W : World) : (Instr.sliceAt 9 (.string s4) none (some (.int .i64 2)) none).run Tryz.prog W = .ok (.string (str (nmL 4))) W := by kernel_rfl
theorem sl_b (W : World) : (Instr.sliceAt 9 (.string s4) (some (.int .i64 2)) (some (.int .i64 4)) none).run Tryz.prog W = .ok (.string (str (nmL 2))) W := by kernel_rfl
theorem al40 (W : World) : (Instr.alloc 40 true (.tuple #[])).run Tryz.prog W = .ok (.pointer (some ⟨W.heap.size, 0, none⟩)) (W.alloc (.cells #[.int .i64 0, .int .i64 0, .int .i8 0] 40)) := by kernel_rfl
section
variable {P : Program} {o : Oper} {a : Act} {w : World} {K : Act → World → Prop} {Q : Exit → Act → World → Prop}
theorem st_sliceS {t : Nat → Option Bool} {X : Prop} (hg : o.guard = none) (ty : TypeId) (x : Operand) (lo hi : Option Operand) (ho : o.op = .slice ty x lo hi none) {v u : Value} {l h : Option Value} (hx : a.eval x = v) (hl : lo.map a.eval = l) (hh : hi.map a.eval = h)
  (hr : (Instr.sliceAt ty v l h none).run P w = .ok u w) (hk : K (a.put o.dst u) w) : if Region.wanted o t = true then o.wp P a w K Q else X := by
 refine st_wp hg ?_
 unfold Oper.wp execOp
 simp only [ho, hx, hl, hh, Option.map_none, Sem.run_bind, hr, Result.andThen_ok, Sem.run_pure]
 exact hk
end
def pv71 : Nat → Value
 | 0 => .agg #[.int .i64 8, .int .i64 8] | 1 => .string s4 | 2 => .string (str (nmL 4)) | 3 => .int .i64 (4 : Nat) | 4 => .agg #[.int .i64 8, .int .i64 8] | 5 => .string s4 | 6 => .string (str (nmL 2)) | 7 => .int .i64 (2 : Nat) | 8 => .agg #[.int .i64 4, .int .i64 2, .int .i8 0] | _ => undef
def pw71 (n0 : Nat) (w0 : World) : Bool → Bool → Value → World → Prop
 | _, true, u, w => ∃ q, u = .pointer (some ⟨q, 0, none⟩) ∧ n0 ≤ q ∧ HasO w q (.cells #[.int .i64 4, .int .i64 2, .int .i8 0] 40 (0, 0)) ∧ RowKit.Below n0 w0 w
 | true, false, u, w => ∃ q, u = .pointer (some ⟨q, 0, none⟩) ∧ n0 ≤ q ∧ HasO w q (.cells #[.int .i64 0, .int .i64 0, .int .i8 0] 40 (0, 0)) ∧ RowKit.Below n0 w0 w
 | false, false, _, w => RowKit.Below n0 w0 w
theorem pw71_b {n0 : Nat} {w0 w : World} {a b : Bool} {u : Value} (h : pw71 n0 w0 a b u w) : RowKit.Below n0 w0 w := by
 rcases b with _ | _
 ·rcases a with _ | _
  ·exact h
  ·obtain ⟨_, _, _, _, h⟩ := h; exact h
 ·obtain ⟨_, _, _, _, h⟩ := h; exact h
theorem pw71_call {n0 : Nat} {w0 w w' : World} {a b : Bool} {u : Value} (h : pw71 n0 w0 a b u w) (hb : RowKit.Below w.heap.size w w') (hn : n0 ≤ w0.heap.size) : pw71 n0 w0 a b u w' := by
 have h2 : RowKit.Below n0 w0 w' := below_call (pw71_b h) (Nat.le_trans hn (pw71_b h).size) hb
 rcases b with _ | _
 ·rcases a with _ | _
  ·exact h2
  ·obtain ⟨q, e1, e2, e3, _⟩ := h; exact ⟨q, e1, e2, e3.call hb, h2⟩
 ·obtain ⟨q, e1, e2, e3, _⟩ := h; exact ⟨q, e1, e2, e3.call hb, h2⟩
set_option maxRecDepth 100000 in
theorem mv71r (W : World) (q2 : Nat) (h2 : HasO W q2 (.cells #[.int .i64 8, .int .i64 8] 23 (0, 0))) (A : Act) (Q : Exit → Act → World → Prop) (ha1 : A.tmps.getD 1 undef = .string s4) (ha2 : A.tmps.getD 2 undef = .pointer (some ⟨q2, 0, none⟩)) (hsz : 53 ≤ A.tmps.size)
  (hok : ∀ f w' q, f 9 = .pointer (some ⟨q, 0, none⟩) → W.heap.size ≤ q → HasO w' q (.cells #[.int .i64 4, .int .i64 2, .int .i8 0] 40 (0, 0)) → RowKit.Below W.heap.size W w' → Q .normal (putL [some 17, some 18, some 19, some 20, some 21, some 22, some 23, some 24, some 25, some 6, none] f 0 A) w')
  (cd : Code) (hcd : Tryz.f71.body.bind (regC 3) = some cd) : cd.wp Tryz.prog Q A W := by
 obtain rfl := Option.some.inj ((show Tryz.f71.body.bind (regC 3) = some _ from rfl).symm.trans hcd)
 clear hcd
 refine wp_region_relL (by kernel_rfl) (by kernel_rfl) [some 17, some 18, some 19, some 20, some 21, some 22, some 23, some 24, some 25, some 6, none] (by rfl) (by rfl)
  (fun S f wv => (∀ i, i < 9 → S i = true → f i = pv71 i) ∧ pw71 W.heap.size W (S 9) (S 10) (f 9) wv) ?hcong ?h0 ?hstep ?hend
 case hcong =>
  rintro S S' f wv hSS ⟨h1, h2⟩
  refine ⟨fun i hi h => h1 i hi (by rw [hSS i (Nat.lt_of_lt_of_le hi (by decide))]; exact h), ?_⟩
  rw [← hSS 9 (by decide), ← hSS 10 (by decide)]; exact h2
 case h0 => exact fun f => ⟨fun i _ h => (by cases h), (Below.refl _ _).drew⟩
 case hstep =>
  rintro S i o f wv ho hi hSi hpre hcl ⟨hf, hR⟩ K hK
  have hi : i < 11 := hi
  have keep : ∀ u w', i < 9 → u = pv71 i → RowKit.Below wv.heap.size wv w' → (∀ j, j < 9 → upd S i j = true → (if j = i then u else f j) = pv71 j) ∧ pw71 W.heap.size W (upd S i 9) (upd S i 10) (if 9 = i then u else f 9) w' := by
   intro u w' h9 hu hb
   refine ⟨fun j hj hSj => ?_, ?_⟩
   ·by_cases e : j = i
    ·subst e; simpa using hu
    ·simp only [e, if_false]; exact hf j hj (by simpa [upd, e] using hSj)
   ·simp only [upd, show ¬ 9 = i by omega, show ¬ 10 = i by omega, if_false]; exact pw71_call hR hb (Nat.le_refl _)
  have hv : ∀ j, o.after.toList.any (fun e => Region.binds .any e && (e.on == j)) = true → j < 9 → f j = pv71 j := fun j hj h9 => by
   rw [List.any_eq_true] at hj
   obtain ⟨e, he, h⟩ := hj
   simp only [Bool.and_eq_true, beq_iff_eq] at h
   have := hpre e (by simpa using he) h.1
   rw [h.2] at this
   exact hf j h9 this
  have hB := pw71_b hR
  have hR0 := Below.refl wv.heap.size wv
  rcases (by omega : i = 0 ∨ i = 1 ∨ i = 2 ∨ i = 3 ∨ i = 4 ∨ i = 5 ∨ i = 6 ∨ i = 7 ∨ i = 8 ∨ i = 9 ∨ i = 10) with rfl | rfl | rfl | rfl | rfl | rfl | rfl | rfl | rfl | rfl | rfl
  ·exact st_loadA (og ho) 23 (.tmp 2) (oo ho) (rd_out rfl ha2) [.int .i64 8, .int .i64 8] (by kernel_rfl) (fun j u hu => by rw [Nat.zero_add, (h2.call hB).cells j]; simpa using hu) (hK _ wv (keep _ _ (by decide) rfl hR0))
  ·exact st_move (og ho) (.tmp 1) (oo ho) (rd_out rfl ha1) (hK _ wv (keep _ _ (by decide) rfl hR0))
  ·exact st_sliceS (og ho) 9 (.tmp 18) none (some (.const (.int .i64 2))) (oo ho) (rd_in rfl 1 rfl (Nat.lt_of_lt_of_le (by decide) hsz) (hv 1 (ov ho) (by decide))) rfl rfl (sl_a wv) (hK _ wv (keep _ _ (by decide) rfl hR0))
  ·exact st_call2 (og ho) 131 (.tmp 17) (.tmp 19) #[23, 9] (oo ho) (rd_in rfl 0 rfl (Nat.lt_of_lt_of_le (by decide) hsz) (hv 0 (ov ho) (by decide))) (rd_in rfl 2 rfl (Nat.lt_of_lt_of_le (by decide) hsz) (hv 2 (ov ho) (by decide))) (fun _ _ => rfl) (refParse8_any 4 (by decide) wv)
    (by rintro u w9 ⟨h9, hb9⟩; injection h9 with h9; subst h9; exact hK _ w9 (keep _ _ (by decide) rfl hb9)) (by rintro ch w9 ⟨h9, _⟩; cases h9) (by rintro w9 ⟨h9, _⟩; cases h9)
  ·exact st_loadA (og ho) 23 (.tmp 2) (oo ho) (rd_out rfl ha2) [.int .i64 8, .int .i64 8] (by kernel_rfl) (fun j u hu => by rw [Nat.zero_add, (h2.call hB).cells j]; simpa using hu) (hK _ wv (keep _ _ (by decide) rfl hR0))
  ·exact st_move (og ho) (.tmp 1) (oo ho) (rd_out rfl ha1) (hK _ wv (keep _ _ (by decide) rfl hR0))
  ·exact st_sliceS (og ho) 9 (.tmp 22) (some (.const (.int .i64 2))) (some (.const (.int .i64 4))) (oo ho) (rd_in rfl 5 rfl (Nat.lt_of_lt_of_le (by decide) hsz) (hv 5 (ov ho) (by decide))) rfl rfl (sl_b wv) (hK _ wv (keep _ _ (by decide) rfl hR0))
  ·exact st_call2 (og ho) 131 (.tmp 21) (.tmp 23) #[23, 9] (oo ho) (rd_in rfl 4 rfl (Nat.lt_of_lt_of_le (by decide) hsz) (hv 4 (ov ho) (by decide))) (rd_in rfl 6 rfl (Nat.lt_of_lt_of_le (by decide) hsz) (hv 6 (ov ho) (by decide))) (fun _ _ => rfl) (refParse8_any 2 (by decide) wv)
    (by rintro u w9 ⟨h9, hb9⟩; injection h9 with h9; subst h9; exact hK _ w9 (keep _ _ (by decide) rfl hb9)) (by rintro ch w9 ⟨h9, _⟩; cases h9) (by rintro w9 ⟨h9, _⟩; cases h9)
  ·exact st_build2 (og ho) 40 0 1 (.tmp 20) (.tmp 24) (oo ho) (rd_in rfl 3 rfl (Nat.lt_of_lt_of_le (by decide) hsz) (hv 3 (ov ho) (by decide))) (rd_in rfl 7 rfl (Nat.lt_of_lt_of_le (by decide) hsz) (hv 7 (ov ho) (by decide))) (cs := #[.int .i64 4, .int .i64 2, .int .i8 0]) (by kernel_rfl) (hK _ wv (keep _ _ (by decide) rfl hR0))
  ·have h10 : S 10 = false := by
    rcases hs : S 10 with _ | _
    ·rfl
    ·have h4 := hcl 10 _ hs rfl ⟨9, .data⟩ (by simp) rfl
     rw [hSi] at h4; cases h4
   rw [hSi, h10] at hR
   have hB2 : RowKit.Below W.heap.size W wv := hR
   refine st_alloc (og ho) 40 (oo ho) (al40 wv) (hK _ _ ⟨fun j hj h3 => by show (if j = 9 then _ else f j) = _; rw [if_neg (by omega)]; exact hf j hj (by simpa [upd, show ¬ j = 9 by omega] using h3), ?_⟩)
   rw [show upd S 9 9 = true by simp [upd], show upd S 9 10 = false by simp [upd, h10]]
   exact ⟨_, rfl, hB2.size, HasO.new wv (.cells #[.int .i64 0, .int .i64 0, .int .i8 0] 40), hB2.alloc hB2.size _⟩
  ·have h9 : S 9 = true := hpre ⟨9, .data⟩ (oa ho) rfl
   rw [h9, hSi] at hR
   obtain ⟨q, e1, e2, e3, e4⟩ : ∃ q, f 9 = .pointer (some ⟨q, 0, none⟩) ∧ W.heap.size ≤ q ∧ HasO wv q (.cells #[.int .i64 0, .int .i64 0, .int .i8 0] 40 (0, 0)) ∧ RowKit.Below W.heap.size W wv := hR
   refine st_storeO (og ho) 40 (.tmp 6) (.tmp 25) (oo ho) (rd_in rfl 9 rfl (Nat.lt_of_lt_of_le (by decide) hsz) e1) #[.int .i64 4, .int .i64 2, .int .i8 0] #[.int .i64 0, .int .i64 0, .int .i8 0] 40 (rd_in rfl 8 rfl (Nat.lt_of_lt_of_le (by decide) hsz) (hv 8 (ov ho) (by decide))) e3 (by kernel_rfl) rfl (by simp [Value.oneCell']) (hK _ _ ⟨fun j hj h3 => by show (if j = 10 then _ else f j) = _; rw [if_neg (by omega)]; exact hf j hj (by simpa [upd, show ¬ j = 10 by omega] using h3), ?_⟩)
   rw [show upd S 10 10 = true by simp [upd]]
   have hfin : ∃ q, (if 9 = 10 then undef else f 9) = .pointer (some ⟨q, 0, none⟩) ∧ W.heap.size ≤ q ∧ HasO (wv.setRow q #[.int .i64 4, .int .i64 2, .int .i8 0]) q (.cells #[.int .i64 4, .int .i64 2, .int .i8 0] 40 (0, 0)) ∧ RowKit.Below W.heap.size W (wv.setRow q #[.int .i64 4, .int .i64 2, .int .i8 0]) := ⟨q, e1, e2, setRow_hasO e3, setRow_below e4 e2 e4.size⟩
   obtain ⟨q', k1, k2, k3, k4⟩ := hfin
   rcases upd S 10 9 with _ | _ <;> exact ⟨q, e1, e2, setRow_hasO e3, setRow_below e4 e2 e4.size⟩
 case hend =>
  rintro S f wv hSS ⟨hf, hR⟩
  rw [hSS 10 (by decide)] at hR
  obtain ⟨q, h1, h2, h3, h4⟩ : ∃ q, f 9 = .pointer (some ⟨q, 0, none⟩) ∧ W.heap.size ≤ q ∧ HasO wv q (.cells #[.int .i64 4, .int .i64 2, .int .i8 0] 40 (0, 0)) ∧ RowKit.Below W.heap.size W wv := by
   rcases S 9 with _ | _ <;> exact hR
  exact hok f wv q h1 h2 h3 h4
set_option maxRecDepth 100000 in
theorem mvParse_any (w : World) : Calls Tryz.prog 71 #[.agg #[.int .i64 8, .int .i64 8], .string s4] w fun e w' => e = .returned (.tuple #[.agg #[.int .i64 4, .int .i64 2, .int .i8 0], .bool true]) ∧ RowKit.Below w.heap.size w w' := by
 obtain ⟨W1, hW1⟩ : ∃ W1, W1 = (w.alloc (.cells #[.int .i64 8, .int .i64 8] 23)).alloc (.cells #[.int .i64 0, .int .i64 0, .int .i8 0] 40) := ⟨_, rfl⟩
 have hB : RowKit.Below w.heap.size w W1 := by
  subst hW1
  exact (below_box w _).alloc (by simp) _
 have hA : HasO W1 w.heap.size (.cells #[.int .i64 8, .int .i64 8] 23 (0, 0)) := by
  subst hW1
  exact (HasO.new w _).alloc _
 have hO : HasO W1 (w.heap.size + 1) (.cells #[.int .i64 0, .int .i64 0, .int .i8 0] 40 (0, 0)) := by
  subst hW1
  exact HasO.new' _ _ (by simp)
 have hmv : ∀ W, Calls Tryz.prog 21 #[.agg #[.int .i64 8, .int .i64 8], .agg #[.int .i64 4, .int .i64 2, .int .i8 0]] W fun e w' => e = .returned (.bool true) ∧ RowKit.Below W.heap.size W w' := fun W => by
  have h := refMv_any 8 8 ⟨4, 2, 0⟩ W
  rw [show mvB 8 8 ⟨4, 2, 0⟩ = true from by decide +kernel] at h
  exact h
 have hl : s4.size = 4 := by decide +kernel
 replace hW1 := Lib.hid hW1
 go_enter Tryz.func71, Tryz.ntmps71
 go_upto_region 1 with fail
 change Code.wp _ _ _ _ ((w.alloc (.cells #[.int .i64 8, .int .i64 8] 23)).alloc (.cells #[.int .i64 0, .int .i64 0, .int .i8 0] 40))
 rw [← hW1.out]
 go_upto_region 3 with fail
 refine mv71r W1 w.heap.size hA _ _ rfl rfl (by simp) ?_ _ rfl
 intro f w3 q h9 hq hr hb3
 have hA3 := hA.call hb3
 have hO3 := hO.call hb3
 have hB3 := below_call hB hB.size hb3
 have hq0 : w.heap.size ≤ q := Nat.le_trans hB.size hq
 have c0 := hA3.cells
 have l0 := hA3.lt
 have c1 := hr.cells
 have l1 := hr.lt
 clear hA hO hB hb3
 simp only [putL, h9]
 go_simp
 go_wp2_with fail
 refine (hmv w3).mono ?_
 rintro e w4 ⟨rfl, hb4⟩
 have hO4 := hO3.call hb4
 have hr4 := hr.call hb4
 have hB4 := below_call hB3 hB3.size hb4
 clear hmv c0 l0 c1 l1 hA3 hO3 hB3 hr hb4 h9
 have c1 := hr4.cells
 have l1 := hr4.lt
 have hi : Hid ((Tryz.prog.info? 40).map (·.size) = some (#[.int .i64 4, .int .i64 2, .int .i8 0] : Array Value).size) := Lib.hid (by kernel_rfl)
 have ho : Hid ((#[.int .i64 4, .int .i64 2, .int .i8 0] : Array Value).all (·.oneCell') = true) := Lib.hid (by simp [Value.oneCell'])
 go_wp2_with (first | ((refine wpList_storeAgg rfl 40 (.tmp 4) (.tmp 52) rfl (w.heap.size + 1) (#[.int .i64 4, .int .i64 2, .int .i8 0]) rfl rfl 40 _ hO4 hi.out rfl ho.out ?_); rintro w9 rfl) | fail)
 refine bodyPost_ret (results_ct (fn := Tryz.f71) Tryz.results71 rfl (setRow_hasO (cells := #[.int .i64 4, .int .i64 2, .int .i8 0]) hO4) (by kernel_rfl) (by kernel_rfl) rfl) rfl ?_
 exact ⟨rfl, setRow_below hB4 (by omega) hB4.size⟩
set_option maxRecDepth 100000 in
theorem move_any (pp : Option Addr) (n cc : Nat) (bl : Bool) (ca pa ha fu : Int) (w : World) : Calls Tryz.prog 26 #[.agg (posCs 8 8 pp n cc bl ca pa ha fu).toArray, .string s4] w fun e w' => e = .returned (.agg #[.int .i64 4, .int .i64 2, .int .i8 0]) ∧ RowKit.Below w.heap.size w w' := by
 obtain ⟨W1, hW1⟩ : ∃ W1, W1 = (w.alloc (.cells (posCs 8 8 pp n cc bl ca pa ha fu).toArray 26)).alloc (.cells #[.int .i64 0, .int .i64 0, .int .i8 0] 40) := ⟨_, rfl⟩
 have hB : RowKit.Below w.heap.size w W1 := by
  subst hW1
  exact (below_box w _).alloc (by simp) _
 have hA : HasO W1 w.heap.size (.cells (posCs 8 8 pp n cc bl ca pa ha fu).toArray 26 (0, 0)) := by
  subst hW1
  exact (HasO.new w _).alloc _
 have hO : HasO W1 (w.heap.size + 1) (.cells #[.int .i64 0, .int .i64 0, .int .i8 0] 40 (0, 0)) := by
  subst hW1
  exact HasO.new' _ _ (by simp)
 have c0 := hA.cells
 have l0 := hA.lt
 replace hW1 := Lib.hid hW1
 generalize hs4 : s4 = S4 at *
 have hmp := fun W => mvParse_any W
 rw [hs4] at hmp
 replace hs4 := Lib.hid hs4
 go_enter Tryz.func26, Tryz.ntmps26
 go_upto_region 1 with fail
 change Code.wp _ _ _ _ ((w.alloc (.cells (posCs 8 8 pp n cc bl ca pa ha fu).toArray 26)).alloc (.cells #[.int .i64 0, .int .i64 0, .int .i8 0] 40))
 rw [← hW1.out]
 go_wp2_with fail
 refine (hmp W1).mono ?_
 rintro e w3 ⟨rfl, hb3⟩
 have hO3 := hO.call hb3
 have hB3 := below_call hB hB.size hb3
 have hbx := below_box w3 (.cells #[.int .i64 4, .int .i64 2, .int .i8 0] 40)
 have hX := HasO.new w3 (.cells #[.int .i64 4, .int .i64 2, .int .i8 0] 40)
 have hO4 := hO3.call hbx
 have hB4 := below_call hB3 hB3.size hbx
 clear hmp c0 l0 hA hO hB hb3 hO3 hB3 hbx
 have c1 := hX.cells
 have l1 := hX.lt
 have hi : Hid ((Tryz.prog.info? 40).map (·.size) = some (#[.int .i64 4, .int .i64 2, .int .i8 0] : Array Value).size) := Lib.hid (by kernel_rfl)
 have ho : Hid ((#[.int .i64 4, .int .i64 2, .int .i8 0] : Array Value).all (·.oneCell') = true) := Lib.hid (by simp [Value.oneCell'])
 go_upto_region 2 with fail
 generalize w3.alloc (.cells #[.int .i64 4, .int .i64 2, .int .i8 0] 40) = w4 at *
 go_wp2_with (first | ((refine wpList_storeAgg rfl 40 (.tmp 4) (.tmp 14) rfl (w.heap.size + 1) (#[.int .i64 4, .int .i64 2, .int .i8 0]) rfl rfl 40 _ hO4 hi.out rfl ho.out ?_); rintro w9 rfl) | fail)
 refine bodyPost_ret (results_cell (fn := Tryz.f26) Tryz.results26 rfl (setRow_hasO (cells := #[.int .i64 4, .int .i64 2, .int .i8 0]) hO4) (by kernel_rfl)) rfl ?_
 exact ⟨rfl, setRow_below hB4 (by omega) hB4.size⟩
set_option maxRecDepth 100000 in
theorem kaL (T : Array Value) (h : T.size = 152) : T = #[ofA T 0, ofA T 1, ofA T 2, ofA T 3, ofA T 4, ofA T 5, ofA T 6, ofA T 7, ofA T 8, ofA T 9, ofA T 10, ofA T 11, ofA T 12, ofA T 13, ofA T 14, ofA T 15, ofA T 16, ofA T 17, ofA T 18, ofA T 19, ofA T 20, ofA T 21, ofA T 22, ofA T 23, ofA T 24, ofA T 25, ofA T 26, ofA T 27, ofA T 28, ofA T 29, ofA T 30, ofA T 31, ofA T 32, ofA T 33, ofA T 34, ofA T 35, ofA T 36, ofA T 37, ofA T 38, ofA T 39, ofA T 40, ofA T 41, ofA T 42, ofA T 43, ofA T 44, ofA T 45, ofA T 46, ofA T 47, ofA T 48, ofA T 49, ofA T 50, ofA T 51, ofA T 52, ofA T 53, ofA T 54, ofA T 55, ofA T 56, ofA T 57, ofA T 58, ofA T 59, ofA T 60, ofA T 61, ofA T 62, ofA T 63, ofA T 64, ofA T 65, ofA T 66, ofA T 67, ofA T 68, ofA T 69, ofA T 70, ofA T 71, ofA T 72, ofA T 73, ofA T 74, ofA T 75, ofA T 76, ofA T 77, ofA T 78, ofA T 79, ofA T 80, ofA T 81, ofA T 82, ofA T 83, ofA T 84, ofA T 85, ofA T 86, ofA T 87, ofA T 88, ofA T 89, ofA T 90, ofA T 91, ofA T 92, ofA T 93, ofA T 94, ofA T 95, ofA T 96, ofA T 97, ofA T 98, ofA T 99, ofA T 100, ofA T 101, ofA T 102, ofA T 103, ofA T 104, ofA T 105, ofA T 106, ofA T 107, ofA T 108, ofA T 109, ofA T 110, ofA T 111, ofA T 112, ofA T 113, ofA T 114, ofA T 115, ofA T 116, ofA T 117, ofA T 118, ofA T 119, ofA T 120, ofA T 121, ofA T 122, ofA T 123, ofA T 124, ofA T 125, ofA T 126, ofA T 127, ofA T 128, ofA T 129, ofA T 130, ofA T 131, ofA T 132, ofA T 133, ofA T 134, ofA T 135, ofA T 136, ofA T 137, ofA T 138, ofA T 139, ofA T 140, ofA T 141, ofA T 142, ofA T 143, ofA T 144, ofA T 145, ofA T 146, ofA T 147, ofA T 148, ofA T 149, ofA T 150, ofA T 151] := by
 have := arr_lit T
 rw [h] at this
 exact this
def kaF (q14 : Nat) (q15 : Nat) (X : Nat → Value) : Array Value := #[X 0, X 1, X 2, X 3, X 4, X 5, X 6, X 7, X 8, X 9, X 10, .int .i64 2, X 12, X 13, .pointer (some ⟨q14, 0, none⟩), .pointer (some ⟨q15, 0, none⟩), X 16, X 17, X 18, X 19, X 20, X 21, X 22, X 23, X 24, X 25, X 26, X 27, X 28, X 29, X 30, X 31, X 32, X 33, X 34, X 35, X 36, X 37, X 38, X 39, X 40, X 41, X 42, X 43, X 44, X 45, X 46, X 47, X 48, X 49, X 50, X 51, X 52, X 53, X 54, X 55, X 56, X 57, X 58, X 59, X 60, X 61, X 62, X 63, X 64, X 65, X 66, X 67, X 68, X 69, X 70, X 71, X 72, X 73, X 74, X 75, X 76, X 77, X 78, X 79, X 80, X 81, X 82, X 83, X 84, X 85, X 86, X 87, X 88, X 89, X 90, X 91, X 92, X 93, X 94, X 95, X 96, X 97, X 98, X 99, X 100, X 101, X 102, X 103, X 104, X 105, X 106, X 107, X 108, X 109, X 110, X 111, X 112, X 113, X 114, X 115, X 116, X 117, X 118, X 119, X 120, X 121, X 122, X 123, X 124, X 125, X 126, X 127, X 128, X 129, X 130, X 131, X 132, X 133, X 134, X 135, X 136, X 137, X 138, X 139, X 140, X 141, X 142, X 143, X 144, X 145, X 146, X 147, X 148, X 149, X 150, X 151]
def kaT (T : Array Value) (q14 : Nat) (q15 : Nat) : Prop := T.size = 152 ∧ ofA T 11 = .int .i64 2 ∧ ofA T 14 = .pointer (some ⟨q14, 0, none⟩) ∧ ofA T 15 = .pointer (some ⟨q15, 0, none⟩)
set_option maxRecDepth 100000 in
theorem kaT.fr {T : Array Value} {q14 : Nat} {q15 : Nat} (h : kaT T q14 q15) : ∃ X, T = kaF q14 q15 X := by
 obtain ⟨hs, h11, h14, h15⟩ := h
 have h := kaL T hs
 rw [h11, h14, h15] at h
 exact ⟨ofA T, h⟩
structure KnS (w : World) (q14 q15 : Nat) (p : Option Addr) (c : Nat) (ca : Int) (W : World) : Prop where
 hb : RowKit.Below w.heap.size w W
 hp : HasO W q14 (.cells (posCs 8 8 p kP5.xs.length c true 0 (-1) 4 9).toArray 26 (0, 0))
 hr : HasO W q15 (.cells (⟨⟨4, 2, 0⟩, 0, -1, ca, -1⟩ : Ret).cs.toArray 42 (0, 0))
 hx : Arr .i8 W p kP5.xs
theorem KnS.call {w : World} {q14 q15 : Nat} {p : Option Addr} {c : Nat} {ca : Int} {W W' : World} (h : KnS w q14 q15 p c ca W) (hb : RowKit.Below W.heap.size W W') : KnS w q14 q15 p c ca W' := ⟨below_call h.hb h.hb.size hb, h.hp.call hb, h.hr.call hb, h.hx.call hb⟩
theorem arr_far {w : World} {p : Option Addr} {xs : List Int} (h : Arr .i8 w p xs) {q i : Nat} {v : Value} (hq : ∀ b o, p = some ⟨b, o, none⟩ → b ≠ q) : Arr .i8 (w.setCell ⟨q, i, none⟩ v) p xs := by
 rcases h with h | ⟨b, o, rfl, hb, hc⟩
 ·exact .inl h
 ·have hne : b ≠ q := hq b o rfl
  have ha : Alt q (q + 1) w (w.setCell ⟨q, i, none⟩ v) := Alt.setCell ⟨Nat.le_refl _, Nat.lt_succ_self _⟩
  refine .inr ⟨b, o, rfl, Nat.lt_of_lt_of_le hb ha.size, fun j hj => ?_⟩
  rw [← hc j hj]
  exact World.cell?_of_block (w := w) (ha.block b hb (by omega))
set_option maxRecDepth 100000 in
theorem kn14 (q14 q15 : Nat) (p : Option Addr) (c : Nat) (hc : kP5.xs.length ≤ c) (w : World) (hg : GlobU w) (T : Array Value) (hT : kaT T q14 q15) (W : World) (hq : w.heap.size ≤ q15 ∧ q14 ≠ q15) (hap : ∀ b o, p = some ⟨b, o, none⟩ → b ≠ q15) (hS : KnS w q14 q15 p c 0 W)
  (cd : Code) (hcd : Tryz.f9.body.map (sufC 14) = some cd) : cd.wp Tryz.prog (bodyPost Tryz.prog Tryz.f9 fun e w' => e = .returned (.bool true) ∧ RowKit.Below w.heap.size w w') { tmps := T, defers := [] } W := by
 obtain rfl := Option.some.inj ((show Tryz.f9.body.map (sufC 14) = some _ from rfl).symm.trans hcd)
 clear hcd
 simp only [sufC]
 obtain ⟨X, rfl⟩ := hT.fr
 clear hT
 unfold kaF
 have hv5 := kv5
 have his : ∀ (k : Nat), k < 4 → ∀ W, GlobU W → Arr .i8 W p kP5.xs → Calls Tryz.prog 20 #[.agg (posCs 8 8 p kP5.xs.length c true 0 (-1) 4 9).toArray, .agg #[.int .i64 4, .int .i64 2, .int .i8 0, .int .i8 0, .int .i64 (-1), .int .u8 k, .int .i64 (-1)]] W fun e w' => e = .returned (.tuple #[.bool (decide (2 ≤ k)), .int .i64 0]) ∧ RowKit.Below W.heap.size W w' := fun k hk W hg hx => by
  have h := is20_good 8 8 kP5.xs true 0 (-1) 4 9 ⟨⟨4, 2, 0⟩, 0, -1, k, -1⟩ p c (by rw [show pvW ((8 : Nat) : Int) ((8 : Nat) : Int) kP5.xs true ((0 : Nat) : Int) (-1) 4 9 = true from hv5, Bool.true_and]; show mvB 8 8 ⟨4, 2, 0⟩ = true; decide +kernel) (by decide) (by show (0 : Int) ≤ (k : Int) ∧ (k : Int) < 256; omega) hc W hg hx
  rw [show mayW ⟨8, 8, kP5.xs, true, ((0 : Nat) : Int), -1, 4, 9⟩ ⟨⟨4, 2, 0⟩, 0, -1, k, -1⟩ = decide (2 ≤ k) from kn5 k hk] at h
  exact h
 clear hv5
 go_wp2_with fail
 go_loopg [16] 5 (fun q iv wr => ∃ (k : Nat) (ca : Int), q + k = 5 ∧ k ≤ 4 ∧ iv = .int .u8 k ∧ KnS w q14 q15 p c ca wr)
 case atStart => exact ⟨0, 0, rfl, Nat.zero_le _, rfl, hS⟩
 case round =>
  obtain ⟨k, ca, hq5, hk, rfl, hSr⟩ := hrel
  by_cases hlt : k < 4
  ·have hki : (k : Int) < 4 := by omega
   have r5 := hSr.hr.cells 5
   have f5 := hSr.hr.frozen 5
   have l5 := hSr.hr.lt
   have hk3 := his k hlt
   go_upto_region 32 with fail
   have hA : Alt q15 (q15 + 1) wr (wr.setCell ⟨q15, 5, none⟩ (.int .u8 k)) := Alt.setCell ⟨Nat.le_refl _, Nat.lt_succ_self _⟩
   have hr2 := hSr.hr.set_ 5 (.int .u8 k)
   rw [List.setIfInBounds_toArray] at hr2
   have hS2 : KnS w q14 q15 p c k (wr.setCell ⟨q15, 5, none⟩ (.int .u8 k)) := ⟨hA.below hSr.hb hq.1 hSr.hb.size, hA.hasO hSr.hp (by omega), hr2, arr_far hSr.hx hap⟩
   generalize wr.setCell ⟨q15, 5, none⟩ (.int .u8 k) = w2 at *
   clear r5 f5 l5 hSr hr2 hA
   have c1 := hS2.hp.cells
   have l1 := hS2.hp.lt
   have c2 : ∀ j, w2.cell? ⟨q15, j, none⟩ = (#[.int .i64 4, .int .i64 2, .int .i8 0, .int .i8 0, .int .i64 (-1), .int .u8 k, .int .i64 (-1)] : Array Value)[j]? := hS2.hr.cells
   have l2 := hS2.hr.lt
   have hk4 := hk3 w2 (hg.call hS2.hb) hS2.hx
   clear hk3
   go_wp2_with fail
   refine hk4.mono ?_
   rintro e w3 ⟨rfl, hb3⟩
   have hS3 := hS2.call hb3
   clear hk4 c1 l1 c2 l2 hS2 hb3
   by_cases h2 : 2 ≤ k
   ·have h2i : (k : Int) ≥ 2 := by omega
    go_wp2_with fail
    go_roundg (gk - 1)
    case measure => omega
    case rel => exact ⟨k + 1, k, by omega, by omega, by go_num, hS3⟩
   ·have h2i : ¬ (k : Int) ≥ 2 := by omega
    go_wp2_with fail
    go_roundg (gk - 1)
    case measure => omega
    case rel => exact ⟨k + 1, k, by omega, by omega, by go_num, hS3⟩
  ·obtain rfl : k = 4 := by omega
   go_wp2_with fail
   go_ret
   exact ⟨rfl, hSr.hb⟩
end Go.Proofs.YtefmplccbkmalaaGreatDoor
