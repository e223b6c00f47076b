import Derived.Test.YtddkhnnpeonbgaaGreatDoorH20
import Derived.BigRegion
import Derived.Laws.CopyOwn
import Derived.Lib.SlBytesConst
namespace Go.Proofs.YtddkhnnpeonbgaaGreatDoor
open Go.RowKit

def K33 : Men := ⟨3, 3, 0, 0, 0, 0, 0, 0, 0, 0, 0, 0⟩
theorem K33_valid : validB K33 = true := by decide
theorem K33_text : textL K33 = [51, 120, 51, 32, 75, 75] := by decide
theorem K33_parse : parseC [51, 120, 51, 32, 75, 75] = some K33 := by
 have := parse_text K33_valid
 rw [K33_text] at this; exact this
def Z162 : List Value := List.replicate 162 (.int .i16 0)
def zerosL (xs : List Int) : List Int := xs ++ List.replicate (162 - xs.length) 0
theorem zerosL_len {xs : List Int} (h : xs.length ≤ 162) : (zerosL xs).length = 162 := by simp [zerosL]; omega
theorem splice_zeros (xs : List Int) : splice Z162 0 (xs.map (.int .i16)) = (zerosL xs).map (Value.int .i16) := by
 unfold splice Z162 zerosL
 rw [List.take_zero, List.nil_append, List.map_append, List.map_replicate, Nat.zero_add, List.length_map, List.drop_replicate]
theorem mk162 (W : World) : (Instr.makeSlice 42 (.int .i64 162) (.int .i64 162)).run Tryz.prog W = .ok (.slice (some ⟨W.heap.size, 0, none⟩) 162 162) (W.alloc (.cells Z162.toArray 30)) := by
 kernel_rfl

section ops
variable {P : Program} {o : Oper} {a : Act} {w : World} {K : Act → World → Prop} {Q : Exit → Act → World → Prop} {t : Nat → Option Bool} {X : Prop}
theorem st_makeSlice (hg : o.guard = none) (ty : TypeId) (x y : Operand) (ho : o.op = .makeSlice ty x y) {v u r : Value} {w' : World} (hx : a.eval x = v) (hy : a.eval y = u) (hr : (Instr.makeSlice ty v u).run P w = .ok r w') (h : K (a.put o.dst r) w') : if Region.wanted o t = true then o.wp P a w K Q else X := by
 refine st_wp hg ?_
 unfold Oper.wp execOp
 simp only [ho, hx, hy, Sem.run_bind, hr, Result.andThen_ok, Sem.run_pure]
 exact h
theorem st_alloc (hg : o.guard = none) (ty : TypeId) (ho : o.op = .alloc ty) {r : Value} {w' : World} (hr : (Instr.alloc ty true (.tuple #[])).run P w = .ok r w') (h : K (a.put o.dst r) w') : if Region.wanted o t = true then o.wp P a w K Q else X := by
 refine st_wp hg ?_
 unfold Oper.wp execOp
 simp only [ho, Sem.run_bind, hr, Result.andThen_ok, Sem.run_pure]
 exact h
theorem st_build2 (hg : o.guard = none) (ty : TypeId) (i1 i2 : Nat) (x1 x2 : Operand) (ho : o.op = .build ty #[(i1, x1), (i2, x2)]) {v1 v2 : Value} (h1 : a.eval x1 = v1) (h2 : a.eval x2 = v2) {cs : Array Value}
  (hb : P.built ty [(i1, v1), (i2, v2)] = some cs) (h : K (a.put o.dst (.agg cs)) w) : if Region.wanted o t = true then o.wp P a w K Q else X := by
 refine st_wp hg ?_
 have e : (#[(i1, x1), (i2, x2)].map fun (i, x) => (i, a.eval x)).toList = [(i1, v1), (i2, v2)] := by simp [h1, h2]
 refine wp_build ty _ ho (by rw [e, hb]; rfl) ?_
 rw [e, hb]
 exact h
end ops
theorem alloc29 (W : World) : (Instr.alloc 44 true (.tuple #[])).run Tryz.prog W = .ok (.pointer (some ⟨W.heap.size, 0, none⟩)) (W.alloc (.cells (tabCs zeroMen none 0 0).toArray 44)) := by kernel_rfl
theorem built29 (q : Nat) : Tryz.prog.built 44 [(0, .agg K33.cs.toArray), (1, .slice (some ⟨q, 0, none⟩) 162 162)] = some (tabV K33 (.slice (some ⟨q, 0, none⟩) 162 162)).toArray := by kernel_rfl
theorem tabV_one (m : Men) {v : Value} (h : v.oneCell' = true) : (tabV m v).toArray.all (·.oneCell') = true := by
 cases v <;> simp_all [Value.oneCell']
theorem results_c1 {P : Program} {fn : Func} {p : Tmp} {ty : TypeId} (h : fn.results = #[.cell p ty]) {tmps : Array Value} {w : World} {g : Nat} {t : TypeId} {cs : Array Value}
  (hp : tmps.getD p undef = .pointer (some ⟨g, 0, none⟩)) (hg : HasO w g (.cells cs t (0, 0))) (hr : isRow P ty cs.size = true) : (results fn tmps).run P w = .ok (.agg cs) w := by
 have e1 : (loadVar ty ⟨g, 0, none⟩).run P w = .ok (.agg cs) w := by
  have := run_loadA (P := P) (w := w) (ty := ty) (g := g) (b := 0) cs.toList (by simpa using hr) (fun j v hv => by rw [Nat.zero_add, hg.cells j]; simpa using hv)
  simpa using this
 have hp' : tmps[p]?.getD undef = .pointer (some ⟨g, 0, none⟩) := by simpa using hp
 simp [results, h, hp', asAddr, e1]
def zerR (w : World) (q3 : Nat) (S : Nat → Bool) (f : Nat → Value) (W : World) : Prop :=
 (Below w.heap.size w W ∧ q3 < W.heap.size ∧ HasO W q3 (.cells K33.cs.toArray 41 (0, 0)) ∧ HasO W w.heap.size (.cells (tabCs zeroMen none 0 0).toArray 44 (0, 0))) ∧ (S 0 = true → f 0 = .agg K33.cs.toArray) ∧
 (S 1 = true → ∃ q, f 1 = .slice (some ⟨q, 0, none⟩) 162 162 ∧ HasO W q (.cells Z162.toArray 30 (0, 0)) ∧ w.heap.size < q) ∧ (S 2 = true → f 2 = .agg (tabV K33 (f 1)).toArray) ∧
 (S 3 = true → ∃ q5, f 3 = .pointer (some ⟨q5, 0, none⟩) ∧ q3 < q5 ∧ w.heap.size < q5 ∧ ∃ old, HasO W q5 (.cells old 44 (0, 0)) ∧ old.size = 13 ∧ (S 4 = true → old = (tabV K33 (f 1)).toArray))

set_option maxHeartbeats 1000000 in
set_option maxRecDepth 100000 in
theorem zeros_any (p : Option Addr) (c : Nat) (xs : List Int) (w : World) (hx : Arr .i16 w p xs) (hl : xs.length ≤ 162) :
  Calls Tryz.prog 21 #[.slice p xs.length c] w fun e w' => ∃ q, e = .returned (.agg (tabCs K33 (some ⟨q, 0, none⟩) 162 162).toArray) ∧ w'.ownsRow w.heap.size 30 1 (.slice (some ⟨q, 0, none⟩) 162 162) 162 ((zerosL xs).map (.int .i16)) ∧ Below w.heap.size w w' := by
 have hA : HasO (w.alloc (.cells (tabCs zeroMen none 0 0).toArray 44)) w.heap.size (.cells (tabCs zeroMen none 0 0).toArray 44 (0, 0)) := HasO.new _ _
 have hb := below_box w (.cells (tabCs zeroMen none 0 0).toArray 44)
 have hpv : parseR [51, 120, 51, 32, 75, 75] = .tuple #[.agg K33.cs.toArray, .bool true] := by unfold parseR; rw [K33_parse]
 replace hpv := Lib.hid hpv
 go_enter Tryz.func21, Tryz.ntmps21
 go_wp2_with fail
 show Calls _ 48 #[.string (str [51, 120, 51, 32, 75, 75])] (w.alloc (.cells (tabCs zeroMen none 0 0).toArray 44)) _
 refine (refParse_any [51, 120, 51, 32, 75, 75] _ (by simp)).mono ?_
 rintro e w1 ⟨rfl, hb1⟩
 rw [hpv.out]
 have hA1 := hA.call hb1
 have hb2 := below_call hb (by simp) hb1
 have hx1 := hx.call hb2
 have hlt := hA1.lt
 have hA2 := hA1.alloc (.cells K33.cs.toArray 41)
 have hb3 := hb2.alloc hb2.size (.cells K33.cs.toArray 41)
 have hx2 := hx1.call (below_box w1 (.cells K33.cs.toArray 41))
 have hm2 := HasO.new w1 (.cells K33.cs.toArray 41)
 clear hA hb hb1 hA1 hx1
 go_wp2_with fail
 show Code.wp _ _ _ _ (w1.alloc (.cells K33.cs.toArray 41))
 generalize w1.alloc (.cells K33.cs.toArray 41) = w2 at *
 refine wp_region_relL (by kernel_rfl) (by kernel_rfl) [some 10, some 11, some 12, some 5, none] (by rfl) (by rfl) (zerR w w1.heap.size) ?hcong ?h0 ?hstep ?hend
 case hcong =>
  intro S S' f W h hR
  unfold zerR at hR ⊢
  rw [← h 0 (by decide), ← h 1 (by decide), ← h 2 (by decide), ← h 3 (by decide), ← h 4 (by decide)]
  exact hR
 case h0 =>
  intro f
  exact ⟨⟨hb3.drew, hm2.lt, hm2, hA2⟩, (fun h => by cases h), (fun h => by cases h), (fun h => by cases h), (fun h => by cases h)⟩
 case hstep =>
  intro S j op f W ho hj hSj hpre hcl hR K hK
  have hj : j < 5 := hj
  obtain ⟨⟨c1, c2, c3, c4⟩, h1, h2, h3, h4⟩ := id hR
  have hwW : w.heap.size < W.heap.size := c4.lt
  rcases (by omega : j = 0 ∨ j = 1 ∨ j = 2 ∨ j = 3 ∨ j = 4) with rfl | rfl | rfl | rfl | rfl
  ·refine st_loadA (og ho rfl) 41 (.tmp 3) (oo ho rfl) (rd_out rfl rfl) K33.cs (by kernel_rfl) (fun j v hv => by rw [Nat.zero_add, c3.cells j]; simpa using hv) (hK _ _ ?_)
   exact ⟨⟨c1, c2, c3, c4⟩, fun _ => rfl, h2, h3, h4⟩
  ·refine st_makeSlice (og ho rfl) 42 (.const (.int .i64 162)) (.const (.int .i64 162)) (oo ho rfl) rfl rfl (mk162 W) (hK _ _ ?_)
   have hb' := below_box W (.cells Z162.toArray 30)
   have h2' : S 2 = false := by
    rcases h : S 2 with _ | _
    ·rfl
    ·have := hcl 2 _ h rfl ⟨1, .data⟩ (by simp) rfl
     rw [hSj] at this; cases this
   have h4' : S 4 = false := by
    rcases h : S 4 with _ | _
    ·rfl
    ·have := hcl 4 _ h rfl ⟨2, .data⟩ (by simp) rfl
     rw [h2'] at this; cases this
   refine ⟨⟨below_call c1 c1.size hb', by simp; omega, c3.call hb', c4.call hb'⟩, h1, fun _ => ⟨_, rfl, HasO.new _ _, hwW⟩, fun h => ?_, fun h => ?_⟩
   ·have h : S 2 = true := h
    rw [h2'] at h; cases h
   ·obtain ⟨q5, e1, e2, e3, old, e4, e5, _⟩ := h4 h
    exact ⟨q5, e1, e2, e3, old, e4.call hb', e5, fun h => by have h : S 4 = true := h; rw [h4'] at h; cases h⟩
  ·have hd0 := h1 (hpre ⟨0, .data⟩ (oa ho rfl) rfl)
   obtain ⟨q, hd1, hZ, hqq⟩ := h2 (hpre ⟨1, .data⟩ (oa ho rfl) rfl)
   refine st_build2 (og ho rfl) 44 0 1 (.tmp 10) (.tmp 11) (oo ho rfl) (ri 0 hd0) (ri 1 hd1) (built29 q) (hK _ _ ?_)
   exact ⟨⟨c1, c2, c3, c4⟩, h1, h2, fun _ => by show _ = Value.agg (tabV K33 (f 1)).toArray; rw [hd1]; rfl, h4⟩
  ·refine st_alloc (og ho rfl) 44 (oo ho rfl) (alloc29 W) (hK _ _ ?_)
   have hb' := below_box W (.cells (tabCs zeroMen none 0 0).toArray 44)
   have h4' : S 4 = false := by
    rcases h : S 4 with _ | _
    ·rfl
    ·have := hcl 4 _ h rfl ⟨3, .data⟩ (by simp) rfl
     rw [hSj] at this; cases this
   refine ⟨⟨below_call c1 c1.size hb', by simp; omega, c3.call hb', c4.call hb'⟩, h1, fun h => ?_, h3, fun _ => ⟨_, rfl, c2, hwW, _, HasO.new _ _, rfl, fun h => by have h : S 4 = true := h; rw [h4'] at h; cases h⟩⟩
   obtain ⟨q, e1, e2, e3⟩ := h2 h
   exact ⟨q, e1, e2.call hb', e3⟩
  ·have hd2 := h3 (hpre ⟨2, .data⟩ (oa ho rfl) rfl)
   obtain ⟨q5, hd3, hq1, hq2, old, hO, hsz, _⟩ := h4 (hpre ⟨3, .data⟩ (oa ho rfl) rfl)
   have h2t := hcl 2 _ (hpre ⟨2, .data⟩ (oa ho rfl) rfl) rfl ⟨1, .data⟩ (by simp) rfl
   obtain ⟨q, hd1, hZ, hqq⟩ := h2 h2t
   have hone : (tabV K33 (f 1)).toArray.all (·.oneCell') = true := tabV_one _ (by rw [hd1]; rfl)
   refine st_storeO (og ho rfl) 44 (.tmp 5) (.tmp 12) (oo ho rfl) (ri 3 hd3) (tabV K33 (f 1)).toArray old 44 (ri 2 hd2) hO (by kernel_rfl) hsz hone (hK _ _ ?_)
   refine ⟨⟨setRow_below c1 (by omega) c1.size, by rw [setRow_size]; exact c2, c3.setRow_far (by omega), c4.setRow_far (by omega)⟩, h1, fun _ => ⟨q, hd1, hZ.setRow_far (hZ.ne_ hO (by simp)), hqq⟩, h3, fun _ => ⟨q5, hd3, hq1, hq2, _, setRow_hasO hO, rfl, fun _ => rfl⟩⟩
 case hend =>
  intro S f W hS hR
  obtain ⟨⟨c1, c2, c3, c4⟩, h1, h2, h3, h4⟩ := hR
  obtain ⟨q, hd1, hZ, hqq⟩ := h2 (hS 1 (by decide))
  obtain ⟨q5, hd3, hq1, hq2, old, hO, hsz, hold⟩ := h4 (hS 3 (by decide))
  have hold := hold (hS 4 (by decide))
  subst hold
  rw [hd1] at hO
  have hxW := hx.call c1
  simp only [putL, Act.put, List.setIfInBounds_toArray, List.set_cons_succ, List.set_cons_zero, Nat.reduceAdd]
  rw [hd3]
  clear h1 h2 h3 h4 hS hb2 hb3 hx2 hm2 hA2
  have hT12 := hO.cells 12
  have hTl := hO.lt
  have hqne : q ≠ q5 := hZ.ne_ hO (by simp)
  have hown : ∀ W', HasO W' q (.cells ((zerosL xs).map (Value.int .i16)).toArray 30 (0, 0)) → W'.ownsRow w.heap.size 30 1 (.slice (some ⟨q, 0, none⟩) 162 162) 162 ((zerosL xs).map (.int .i16)) := by
   intro W' h
   have hl2 := zerosL_len hl
   exact ⟨by simp [hl2], .inr ⟨q, 162, _, rfl, by omega, h, Nat.le_refl _, by decide, by simp [hl2], by simp; rw [List.take_of_length_le (by simp [hl2])]⟩⟩
  by_cases h0 : xs = []
  ·subst h0
   have hcopy := run_copy_none (P := Tryz.prog) W 42 42 3 30 (some ⟨q, 0, none⟩) p 162 162 0 c Tryz.underlying42 (by kernel_rfl) (by rfl)
   have hZ' : HasO W q (.cells ((zerosL []).map (Value.int .i16)).toArray 30 (0, 0)) := by rw [← splice_zeros]; exact hZ
   go_wp2_with (first | (with_reducible refine wpList_loadO rfl 44 (.tmp 5) rfl q5 (tabV K33 (.slice (some ⟨q, 0, none⟩) 162 162)).toArray 44 rfl hO (by kernel_rfl) ?_) | (with_reducible refine wpList_storeAgg rfl 44 (.tmp 2) (.tmp 17) rfl w.heap.size (tabV K33 (.slice (some ⟨q, 0, none⟩) 162 162)).toArray rfl rfl 44 _ c4 (by kernel_rfl) rfl (tabV_one _ rfl) ?_))
   refine bodyPost_ret (results_c1 (fn := Tryz.f21) Tryz.results21 rfl (setRow_hasO c4) (by kernel_rfl)) rfl ?_
   exact ⟨q, rfl, hown _ (hZ'.setRow_far (by omega)), setRow_below c1 (Nat.le_refl _) c1.size⟩
  ·have hpos : 0 < xs.length := List.length_pos_iff.2 h0
   obtain ⟨gx, ox, rfl, hgx, hcx⟩ := hxW.at hpos
   have hZ2 : HasO (W.setRow q (Z162.toArray.toList.take 0 ++ ((xs.map (Value.int .i16)) ++ Z162.toArray.toList.drop (0 + (xs.map (Value.int .i16)).length))).toArray) q (.cells ((zerosL xs).map (Value.int .i16)).toArray 30 (0, 0)) := by
    rw [← splice_zeros]
    exact setRow_hasO hZ
   have hO2 := hO.setRow_far (g := q) (cells := (Z162.toArray.toList.take 0 ++ ((xs.map (Value.int .i16)) ++ Z162.toArray.toList.drop (0 + (xs.map (Value.int .i16)).length))).toArray) (fun e => hqne e.symm)
   have c42 := c4.setRow_far (g := q) (cells := (Z162.toArray.toList.take 0 ++ ((xs.map (Value.int .i16)) ++ Z162.toArray.toList.drop (0 + (xs.map (Value.int .i16)).length))).toArray) (by omega)
   have c12 := setRow_below (g := q) (cells := (Z162.toArray.toList.take 0 ++ ((xs.map (Value.int .i16)) ++ Z162.toArray.toList.drop (0 + (xs.map (Value.int .i16)).length))).toArray) c1 (by omega) c1.size
   have hsrc : ∀ j v, (xs.map (Value.int .i16))[j]? = some v → W.cell? ((⟨gx, ox, none⟩ : Addr).add j) = some v := by
    intro j v hv
    have hj : j < xs.length := by have := (List.getElem?_eq_some_iff.1 hv).1; simpa using this
    rw [Addr.add_lit, hcx j hj]
    simp [hj] at hv ⊢
    exact hv
   have hmin : (xs.map (Value.int .i16)).length = Nat.min xs.length 162 := by simp [Nat.min_eq_left hl]
   have hfit : 0 + (xs.map (Value.int .i16)).length ≤ Z162.toArray.size := by simp [Z162]; omega
   have h1c : ∀ v ∈ xs.map (Value.int .i16), v.oneCell' = true := by intro v hv; obtain ⟨x, _, rfl⟩ := List.mem_map.1 hv; rfl
   replace hmin := Lib.hid hmin
   go_wp2_with (first | (with_reducible refine wpList_loadO rfl 44 (.tmp 5) rfl q5 (tabV K33 (.slice (some ⟨q, 0, none⟩) 162 162)).toArray 44 rfl hO2 (by kernel_rfl) ?_) | (with_reducible refine wpList_storeAgg rfl 44 (.tmp 2) (.tmp 17) rfl w.heap.size (tabV K33 (.slice (some ⟨q, 0, none⟩) 162 162)).toArray rfl rfl 44 _ c42 (by kernel_rfl) rfl (tabV_one _ rfl) ?_) | (refine wpList_copy_own rfl (.tmp 14) (.tmp 15) 42 42 rfl 30 Tryz.underlying42 (by kernel_rfl) q 0 162 162 ⟨gx, ox, none⟩ xs.length c rfl rfl Z162.toArray 30 hZ (xs.map (Value.int .i16)) hmin.out hsrc hfit h1c ?_; generalize W.setRow q (Z162.toArray.toList.take 0 ++ ((xs.map (Value.int .i16)) ++ Z162.toArray.toList.drop (0 + (xs.map (Value.int .i16)).length))).toArray = W2 at *))
   refine bodyPost_ret (results_c1 (fn := Tryz.f21) Tryz.results21 rfl (setRow_hasO c42) (by kernel_rfl)) rfl ?_
   exact ⟨q, rfl, hown _ (hZ2.setRow_far (by omega)), setRow_below c12 (Nat.le_refl _) c12.size⟩
end Go.Proofs.YtddkhnnpeonbgaaGreatDoor
namespace Go.Proofs.YtddkhnnpeonbgaaGreatDoor
open Go.RowKit

def formA : List Int := [6, 51, 120, 51, 32, 75, 75, 0, 0, 0, 0, 0, 0, 0, 0, 0, 0, 0, 0, 0, 0, 0, 0, 0, 0]
def formB : List Int := [6, 51, 120, 51, 32, 75, 75, 2, 0, 0, 112, 0, 0, 0, 0, 0, 0, 0, 0, 0, 0, 0, 0, 0, 0, 0, 0, 0, 0, 0, 0, 0, 0]
theorem ok_A : tabOk K33 (zerosL []) = true := by decide +kernel
theorem ok_B : tabOk K33 (zerosL [1, 3]) = true := by decide +kernel
theorem pack_A : packL K33 (zerosL []) = formA := by decide +kernel
theorem pack_B : packL K33 (zerosL [1, 3]) = formB := by decide +kernel
theorem get_0 : getV formB 0 = (1, 0) := by decide +kernel
theorem get_1 : getV formB 1 = (3, 0) := by decide +kernel
theorem get_2 : getV formB 2 = (0, 0) := by decide +kernel
theorem get_162 : getV formB 162 = (0, 3) := by decide +kernel
theorem tab_nil : tabB [] = none := by decide +kernel
theorem tab_7 : tabB [6, 51, 120, 51, 32, 75, 75] = none := by decide +kernel
theorem bytes_B : isBytes formB := by unfold isBytes formB; decide
theorem bytes_7 : isBytes [6, 51, 120, 51, 32, 75, 75] := by unfold isBytes; decide

theorem arr_sub {k : IntKind} {W : World} {g o : Nat} {xs : List Int} (h : Arr k W (some ⟨g, o, none⟩) xs) (n : Nat) : ∀ j, j < (xs.take n).length → W.cell? ⟨g, o + j, none⟩ = some (.int k ((xs.take n)[j]?.getD 0)) := by
 intro j hj
 have hj2 : j < xs.length := by simp at hj; omega
 obtain ⟨g', o', ea, _, hc⟩ := h.at hj2
 injection ea with ea
 injection ea with ea1 ea2
 subst ea1; subst ea2
 rw [hc j hj2, List.getElem?_take_of_lt (by simp at hj; omega)]
theorem convA {W : World} {g o c : Nat} (h : Arr .u8 W (some ⟨g, o, none⟩) formA) : (convert 22 9 (.slice (some ⟨g, o, none⟩) 10 c)).run Tryz.prog W = .ok (.string { data := #[6, 51, 120, 51, 32, 75, 75, 0, 0, 0] }) W := by
 exact conv_at (n := 10) (c := c) (formA.take 10) (arr_sub h 10) rfl
theorem convB {W : World} {g o c : Nat} (h : Arr .u8 W (some ⟨g, o, none⟩) formB) : (convert 22 9 (.slice (some ⟨g, o, none⟩) 18 c)).run Tryz.prog W = .ok (.string { data := #[6, 51, 120, 51, 32, 75, 75, 2, 0, 0, 112, 0, 0, 0, 0, 0, 0, 0] }) W := by
 exact conv_at (n := 18) (c := c) (formB.take 18) (arr_sub h 18) rfl
theorem form_at {W : World} {base : Nat} {m : Men} {es fm : List Int} {v : Value} (h : PackR base m es v W) (hok : tabOk m es = true) (hf : packL m es = fm) (h0 : 0 < fm.length) :
  ∃ g o c, v = .slice (some ⟨g, o, none⟩) fm.length c ∧ fm.length ≤ c ∧ Arr .u8 W (some ⟨g, o, none⟩) fm ∧ base ≤ g := by
 have hown := h.1 hok
 rw [hf] at hown
 obtain ⟨p, c, hv, hc, hA⟩ := own_arr hown
 obtain ⟨g, o, rfl, _, _⟩ := hA.at h0
 exact ⟨g, o, c, hv, hc, hA, (hown.lt g (by rw [hv]; rfl)).1⟩

set_option maxHeartbeats 2000000 in
set_option maxRecDepth 100000 in
theorem known_any (w : World) (hm : MaxOk w) : Calls Tryz.prog 5 #[] w fun e w' => e = .returned (.bool true) ∧ Below w.heap.size w w' := by
 have hms : 1 < w.heap.size := by obtain ⟨_, _, h⟩ := hm; exact h
 go_enter Tryz.func5, Tryz.ntmps5
 go_wp2_with fail
 refine (zeros_any none 0 [] w (.inl rfl) (by simp)).mono ?_
 rintro e w1 ⟨q1, rfl, hown1, hb1⟩
 rw [show (162 : Nat) = (zerosL []).length from rfl] at hown1
 obtain ⟨_, _, ev, _, hA1⟩ := own_arr hown1
 injection ev with ev
 subst ev
 go_wp2_with fail
 refine (Pack_any K33 (some ⟨q1, 0, none⟩) 162 (zerosL []) _ hA1 (by decide) (by decide)).mono ?_
 rintro e w2 ⟨⟨v, rfl, hPR⟩, hb2⟩
 obtain ⟨ga, oa, ca, rfl, hca, hAa, _⟩ := form_at hPR ok_A pack_A (by decide)
 rw [ok_A]
 simp only [okErr]
 have hb2' := below_call hb1 hb1.size hb2
 have hcv := convA (c := ca) hAa
 have hca' : (25 : Int) ≤ ca := by have : formA.length = 25 := rfl; omega
 have hlen : formA.length = 25 := rfl
 rw [hlen]
 clear hown1 hA1 hPR hb1 hb2 hlen
 go_wp2_with fail
 have hb3 := hb2'.alloc hb2'.size (.cells #[.int .i16 1, .int .i16 3] 30)
 have hS3 : Arr .i16 (w2.alloc (.cells #[.int .i16 1, .int .i16 3] 30)) (some ⟨w2.heap.size, 0, none⟩) [1, 3] := by
  refine .inr ⟨w2.heap.size, 0, rfl, by simp, fun j hj => ?_⟩
  have := (HasO.new w2 (.cells #[.int .i16 1, .int .i16 3] 30)).cells (0 + j)
  rw [this, Nat.zero_add]
  rcases (by simp at hj; omega : j = 0 ∨ j = 1) with rfl | rfl <;> rfl
 generalize w2.alloc (.cells #[.int .i16 1, .int .i16 3] 30) = w3 at *
 obtain ⟨q2, hq2⟩ : ∃ x, x = w2.heap.size := ⟨_, rfl⟩
 rw [← hq2] at hS3 ⊢
 clear hcv hAa hca hca' hb2' hq2
 refine (zeros_any (some ⟨q2, 0, none⟩) 2 [1, 3] w3 hS3 (by simp)).mono ?_
 rintro e w4 ⟨q3, rfl, hown4, hb4⟩
 rw [show (162 : Nat) = (zerosL [1, 3]).length from rfl] at hown4
 obtain ⟨_, _, ev, _, hA4⟩ := own_arr hown4
 injection ev with ev
 subst ev
 have hb4' := below_call hb3 hb3.size hb4
 go_wp2_with fail
 refine (Pack_any K33 (some ⟨q3, 0, none⟩) 162 (zerosL [1, 3]) _ hA4 (by decide) (by decide)).mono ?_
 rintro e w5 ⟨⟨v, rfl, hPR⟩, hb5⟩
 obtain ⟨gb, ob, cb, rfl, hcb, hAb, _⟩ := form_at hPR ok_B pack_B (by decide)
 rw [ok_B]
 simp only [okErr]
 have hb5' := below_call hb4' hb4'.size hb5
 have hcv := convB (c := cb) hAb
 have hcb' : (33 : Int) ≤ cb := by have : formB.length = 33 := rfl; omega
 have hlen : formB.length = 33 := rfl
 have hm5 := hm.call hb5' hms
 rw [hlen]
 rw [hlen] at hcb
 clear hown4 hA4 hPR hb3 hb4 hb5 hb4' hS3
 have hG0 := gets_any (some ⟨gb, ob, none⟩) cb formB 0 1 w5 hAb bytes_B (by decide) hcb hm5
 rw [hlen, get_0] at hG0
 go_wp2_with fail
 refine hG0.mono ?_
 rintro e w6 ⟨rfl, hb6⟩
 have hAb6 := hAb.call hb6
 have hb6' := below_call hb5' hb5'.size hb6
 have hm6 := hm.call hb6' hms
 have hG1 := gets_any (some ⟨gb, ob, none⟩) cb formB 1 3 w6 hAb6 bytes_B (by decide) hcb hm6
 rw [hlen, get_1] at hG1
 clear hAb hcv hG0 hb6 hb5' hm5
 go_wp2_with fail
 refine hG1.mono ?_
 rintro e w7 ⟨rfl, hb7⟩
 have hAb7 := hAb6.call hb7
 have hb7' := below_call hb6' hb6'.size hb7
 have hm7 := hm.call hb7' hms
 have hG2 := gets_any (some ⟨gb, ob, none⟩) cb formB 2 0 w7 hAb7 bytes_B (by decide) hcb hm7
 rw [hlen, get_2] at hG2
 clear hAb6 hG1 hb7 hb6' hm6
 go_wp2_with fail
 refine hG2.mono ?_
 rintro e w8 ⟨rfl, hb8⟩
 have hAb8 := hAb7.call hb8
 have hb8' := below_call hb7' hb7'.size hb8
 have hm8 := hm.call hb8' hms
 have hG3 := Get_any (some ⟨gb, ob, none⟩) cb formB 162 w8 hAb8 bytes_B (by decide) hcb hm8
 rw [hlen, get_162] at hG3
 clear hAb7 hG2 hb8 hb7' hm7
 go_wp2_with fail
 refine hG3.mono ?_
 rintro e w9 ⟨rfl, hb9⟩
 have hb9' := below_call hb8' hb8'.size hb9
 have hm9 := hm.call hb9' hms
 clear hG3 hAb8 hb9 hb8' hm8
 go_wp2_with fail
 refine (Unpack_any none 0 [] w9 (.inl rfl) (fun x hx => by cases hx) (by simp) (by simp) hm9).mono ?_
 rintro e w10 ⟨hb10, ⟨_, rfl⟩ | ⟨m', es', p', c', e', _⟩⟩
 rotate_left
 ·rw [tab_nil] at e'; cases e'
 have hb10' := below_call hb9' hb9'.size hb10
 clear hb10 hb9' hm9
 simp only [Bool.false_eq_true, if_false]
 have hcc : ∀ (T : Array Value) (ty : TypeId), (convert 22 22 (.slice (some ⟨w10.heap.size + 1, 0, none⟩) 7 7)).run Tryz.prog ((w10.alloc (.cells T ty)).alloc (.cells #[.int .u8 6, .int .u8 51, .int .u8 120, .int .u8 51, .int .u8 32, .int .u8 75, .int .u8 75] 5)) = .ok (.slice (some ⟨w10.heap.size + 1, 0, none⟩) 7 7) ((w10.alloc (.cells T ty)).alloc (.cells #[.int .u8 6, .int .u8 51, .int .u8 120, .int .u8 51, .int .u8 32, .int .u8 75, .int .u8 75] 5 (7, 8))) := fun T ty => by
  have := Lib.run_convert_bytes_const (P := Tryz.prog) (w10.alloc (.cells T ty)) 22 5 #[.int .u8 6, .int .u8 51, .int .u8 120, .int .u8 51, .int .u8 32, .int .u8 75, .int .u8 75] 7 7 Tryz.underlying22 Tryz.underlying5
  simp only [World.size_alloc] at this
  exact this
 have hbX := (hb10'.alloc hb10'.size (.cells (tabCs zeroMen none 0 0).toArray 44)).alloc (hb10'.alloc hb10'.size (.cells (tabCs zeroMen none 0 0).toArray 44)).size (.cells #[.int .u8 6, .int .u8 51, .int .u8 120, .int .u8 51, .int .u8 32, .int .u8 75, .int .u8 75] 5 (7, 8))
 have hSX : HasO ((w10.alloc (.cells (tabCs zeroMen none 0 0).toArray 44)).alloc (.cells #[.int .u8 6, .int .u8 51, .int .u8 120, .int .u8 51, .int .u8 32, .int .u8 75, .int .u8 75] 5 (7, 8))) (w10.heap.size + 1) (.cells #[.int .u8 6, .int .u8 51, .int .u8 120, .int .u8 51, .int .u8 32, .int .u8 75, .int .u8 75] 5 (7, 8)) := HasO.new' _ _ (by simp)
 go_wp2_with fail
 show Calls _ 12 _ ((w10.alloc (.cells (tabCs zeroMen none 0 0).toArray 44)).alloc (.cells #[.int .u8 6, .int .u8 51, .int .u8 120, .int .u8 51, .int .u8 32, .int .u8 75, .int .u8 75] 5 (7, 8))) _
 generalize (w10.alloc (.cells (tabCs zeroMen none 0 0).toArray 44)).alloc (.cells #[.int .u8 6, .int .u8 51, .int .u8 120, .int .u8 51, .int .u8 32, .int .u8 75, .int .u8 75] 5 (7, 8)) = wX at *
 obtain ⟨qX, hqX⟩ : ∃ x, x = w10.heap.size + 1 := ⟨_, rfl⟩
 rw [← hqX] at hSX ⊢
 clear hqX hcc
 have hAX : Arr .u8 wX (some ⟨qX, 0, none⟩) [6, 51, 120, 51, 32, 75, 75] := by
  refine .inr ⟨qX, 0, rfl, hSX.lt, fun j hj => ?_⟩
  rw [cell_of_row _ _ (0 + j) _ _ _ hSX, Nat.zero_add]
  rcases (by simp at hj; omega : j = 0 ∨ j = 1 ∨ j = 2 ∨ j = 3 ∨ j = 4 ∨ j = 5 ∨ j = 6) with rfl | rfl | rfl | rfl | rfl | rfl | rfl <;> rfl
 refine (Unpack_any (some ⟨qX, 0, none⟩) 7 [6, 51, 120, 51, 32, 75, 75] wX hAX bytes_7 (by simp) (by simp) (hm.call hbX hms)).mono ?_
 rintro e w11 ⟨hb11, ⟨_, rfl⟩ | ⟨m', es', p', c', e', _⟩⟩
 rotate_left
 ·rw [tab_7] at e'; cases e'
 have hb11' := (below_call hbX hbX.size hb11).alloc (below_call hbX hbX.size hb11).size (.cells (tabCs zeroMen none 0 0).toArray 44)
 clear hb11 hbX hAX hSX
 simp only [Bool.false_eq_true, if_false]
 go_wp2_with fail
 go_ret
 exact ⟨rfl, hb11'⟩
end Go.Proofs.YtddkhnnpeonbgaaGreatDoor
