import Derived.Test.YtefmplccbkmalaaGreatDoorF27
set_option maxHeartbeats 12800000
namespace Go.Proofs.YtefmplccbkmalaaGreatDoor
open Go.RowKit Go.Sort Go.BigFrame

set_option maxRecDepth 100000 in
theorem bfL (T : Array Value) (h : T.size = 131) : T = #[ofA T 0, ofA T 1, ofA T 2, ofA T 3, ofA T 4, ofA T 5, ofA T 6, ofA T 7, ofA T 8, ofA T 9, ofA T 10, ofA T 11, ofA T 12, ofA T 13, ofA T 14, ofA T 15, ofA T 16, ofA T 17, ofA T 18, ofA T 19, ofA T 20, ofA T 21, ofA T 22, ofA T 23, ofA T 24, ofA T 25, ofA T 26, ofA T 27, ofA T 28, ofA T 29, ofA T 30, ofA T 31, ofA T 32, ofA T 33, ofA T 34, ofA T 35, ofA T 36, ofA T 37, ofA T 38, ofA T 39, ofA T 40, ofA T 41, ofA T 42, ofA T 43, ofA T 44, ofA T 45, ofA T 46, ofA T 47, ofA T 48, ofA T 49, ofA T 50, ofA T 51, ofA T 52, ofA T 53, ofA T 54, ofA T 55, ofA T 56, ofA T 57, ofA T 58, ofA T 59, ofA T 60, ofA T 61, ofA T 62, ofA T 63, ofA T 64, ofA T 65, ofA T 66, ofA T 67, ofA T 68, ofA T 69, ofA T 70, ofA T 71, ofA T 72, ofA T 73, ofA T 74, ofA T 75, ofA T 76, ofA T 77, ofA T 78, ofA T 79, ofA T 80, ofA T 81, ofA T 82, ofA T 83, ofA T 84, ofA T 85, ofA T 86, ofA T 87, ofA T 88, ofA T 89, ofA T 90, ofA T 91, ofA T 92, ofA T 93, ofA T 94, ofA T 95, ofA T 96, ofA T 97, ofA T 98, ofA T 99, ofA T 100, ofA T 101, ofA T 102, ofA T 103, ofA T 104, ofA T 105, ofA T 106, ofA T 107, ofA T 108, ofA T 109, ofA T 110, ofA T 111, ofA T 112, ofA T 113, ofA T 114, ofA T 115, ofA T 116, ofA T 117, ofA T 118, ofA T 119, ofA T 120, ofA T 121, ofA T 122, ofA T 123, ofA T 124, ofA T 125, ofA T 126, ofA T 127, ofA T 128, ofA T 129, ofA T 130] := by
 have := arr_lit T
 rw [h] at this
 exact this
def bfF (q0 q1 q2 q5 : Nat) (sd : Bool) (own : Int) (X : Nat → Value) : Array Value := #[X 0, X 1, .pointer (some ⟨q0, 0, none⟩), .pointer (some ⟨q1, 0, none⟩), .pointer (some ⟨q2, 0, none⟩), .pointer (some ⟨q5, 0, none⟩), .bool sd, .int .i8 own, X 8, X 9, X 10, X 11, X 12, X 13, X 14, X 15, X 16, X 17, X 18, X 19, X 20, X 21, X 22, X 23, X 24, X 25, X 26, X 27, X 28, X 29, X 30, X 31, X 32, X 33, X 34, X 35, X 36, X 37, X 38, X 39, X 40, X 41, X 42, X 43, X 44, X 45, X 46, X 47, X 48, X 49, X 50, X 51, X 52, X 53, X 54, X 55, X 56, X 57, X 58, X 59, X 60, X 61, X 62, X 63, X 64, X 65, X 66, X 67, X 68, X 69, X 70, X 71, X 72, X 73, X 74, X 75, X 76, X 77, X 78, X 79, X 80, X 81, X 82, X 83, X 84, X 85, X 86, X 87, X 88, X 89, X 90, X 91, X 92, X 93, X 94, X 95, X 96, X 97, X 98, X 99, X 100, X 101, X 102, X 103, X 104, X 105, X 106, X 107, X 108, X 109, X 110, X 111, X 112, X 113, X 114, X 115, X 116, X 117, X 118, X 119, X 120, X 121, X 122, X 123, X 124, X 125, X 126, X 127, X 128, X 129, X 130]
def bfT (T : Array Value) (q0 q1 q2 q5 : Nat) (sd : Bool) (own : Int) : Prop := T.size = 131 ∧ ofA T 2 = .pointer (some ⟨q0, 0, none⟩) ∧ ofA T 3 = .pointer (some ⟨q1, 0, none⟩) ∧ ofA T 4 = .pointer (some ⟨q2, 0, none⟩) ∧ ofA T 5 = .pointer (some ⟨q5, 0, none⟩) ∧ ofA T 6 = .bool sd ∧ ofA T 7 = .int .i8 own
set_option maxRecDepth 100000 in
theorem bfT.fr {T : Array Value} {q0 q1 q2 q5 : Nat} {sd : Bool} {own : Int} (h : bfT T q0 q1 q2 q5 sd own) : ∃ X, T = bfF q0 q1 q2 q5 sd own X := by
 obtain ⟨hs, h2, h3, h4, h5, h6, h7⟩ := h
 have h := bfL T hs
 rw [h2, h3, h4, h5, h6, h7] at h
 exact ⟨ofA T, h⟩

def BfQ (w : World) (q0 q1 q2 qa q5 : Nat) : Prop := w.heap.size ≤ q0 ∧ q0 < q1 ∧ q1 < q2 ∧ q2 < qa ∧ qa < q5
structure BfS (w : World) (P : Pos) (pp : Option Addr) (cc : Nat) (r : Ret) (q0 q1 q2 q5 qa cap : Nat) (ys : List Int) (row : List Value) (W : World) : Prop where
 b : RowKit.Below w.heap.size w W
 p : HasO W q0 (.cells (posCs P.F P.R pp P.xs.length cc P.bl P.ca P.pa P.ha P.fu).toArray 26 (0, 0))
 m : HasO W q1 (.cells r.cs.toArray 42 (0, 0))
 o : HasO W q2 (.cells zeroPos.toArray 26 (0, 0))
 y : OArr W qa cap ys
 t : HasO W q5 (.cells row.toArray 26 (0, 0))
section
variable {w : World} {P : Pos} {pp : Option Addr} {cc : Nat} {r : Ret} {q0 q1 q2 q5 qa cap : Nat} {ys : List Int} {row : List Value} {W W' : World}
theorem BfS.call (h : BfS w P pp cc r q0 q1 q2 q5 qa cap ys row W) (hb : RowKit.Below W.heap.size W W') : BfS w P pp cc r q0 q1 q2 q5 qa cap ys row W' :=
 ⟨below_call h.b h.b.size hb, h.p.call hb, h.m.call hb, h.o.call hb, h.y.call hb, h.t.call hb⟩
theorem BfS.set5 (hq : BfQ w q0 q1 q2 qa q5) (h : BfS w P pp cc r q0 q1 q2 q5 qa cap ys row W) (i : Nat) (v : Value) : BfS w P pp cc r q0 q1 q2 q5 qa cap ys (row.set i v) (W.setCell ⟨q5, i, none⟩ v) := by
 unfold BfQ at hq
 have ht := h.t.set_ i v
 rw [List.setIfInBounds_toArray] at ht
 exact ⟨h.b.setCell (by show w.heap.size ≤ q5; omega) v, h.p.far (by show q0 ≠ q5; omega) v, h.m.far (by show q1 ≠ q5; omega) v, h.o.far (by show q2 ≠ q5; omega) v, h.y.far (by show qa ≠ q5; omega) v, ht⟩
theorem BfS.setA (hq : BfQ w q0 q1 q2 qa q5) (h : BfS w P pp cc r q0 q1 q2 q5 qa cap ys row W) (i : Nat) (v : Int) : BfS w P pp cc r q0 q1 q2 q5 qa cap (ys.set i v) row (W.setCell ⟨qa, i, none⟩ (.int .i8 v)) := by
 unfold BfQ at hq
 exact ⟨h.b.setCell (by show w.heap.size ≤ qa; omega) _, h.p.far (by show q0 ≠ qa; omega) _, h.m.far (by show q1 ≠ qa; omega) _, h.o.far (by show q2 ≠ qa; omega) _, h.y.set i v, h.t.far (by show q5 ≠ qa; omega) _⟩
end
set_option maxRecDepth 100000 in
theorem bfS3 (w : World) (F R : Nat) (xs : List Int) (bl : Bool) (can : Nat) (pa ha fu : Int) (pp : Option Addr) (cc : Nat) (r : Ret) (q0 q1 q2 q5 qa cap : Nat) (sd : Bool) (own : Int) (T : Array Value) (hT : bfT T q0 q1 q2 q5 sd own) (ys : List Int) (Rs : Ending → World → Prop) (CA PA HA : Int) (hfu : -10000 ≤ fu ∧ fu ≤ 10000)
  (W : World) (hQ : BfQ w q0 q1 q2 qa q5) (hS : BfS w ⟨F, R, xs, bl, can, pa, ha, fu⟩ pp cc r q0 q1 q2 q5 qa cap ys (posCs F R (some ⟨qa, 0, none⟩) xs.length cap sd CA PA HA fu) W)
  (hok : ∀ w', RowKit.Below w.heap.size w w' → OArr w' qa cap ys → Rs (.returned (.agg (posCs F R (some ⟨qa, 0, none⟩) xs.length cap sd CA PA HA (if sd then fu - 1 else fu)).toArray)) w')
  (cd : Code) (hcd : Tryz.f110.body.map (sufC 10) = some cd) : cd.wp Tryz.prog (bodyPost Tryz.prog Tryz.f110 Rs) { tmps := T, defers := [] } W := by
 obtain rfl := Option.some.inj ((show Tryz.f110.body.map (sufC 10) = some _ from rfl).symm.trans hcd)
 clear hcd
 simp only [sufC]
 obtain ⟨X, rfl⟩ := hT.fr
 clear hT
 unfold bfF
 cases sd
 ·simp only [Bool.false_eq_true, if_false] at hok
  have hO := hS.t
  have hZ := hS.o
  have hi : Hid ((Tryz.prog.info? 26).map (·.size) = some (posCs F R (some ⟨qa, 0, none⟩) xs.length cap false CA PA HA fu).toArray.size) := Lib.hid (by kernel_rfl)
  have ho : Hid ((posCs F R (some ⟨qa, 0, none⟩) xs.length cap false CA PA HA fu).toArray.all (·.oneCell') = true) := Lib.hid (by simp [Value.oneCell'])
  go_wp2_with (first | (refine wpList_loadO rfl 26 (.tmp 5) rfl q5 _ 26 rfl hO (by kernel_rfl) ?_) | ((refine wpList_storeAgg rfl 26 (.tmp 4) (.tmp 130) rfl q2 _ rfl rfl 26 _ hZ hi.out rfl ho.out ?_); rintro w3 rfl) | fail)
  refine bodyPost_ret (results_cell (fn := Tryz.f110) Tryz.results110 rfl (setRow_hasO (cells := (posCs F R (some ⟨qa, 0, none⟩) xs.length cap false CA PA HA fu).toArray) hZ) (by kernel_rfl)) rfl (hok _ (setRow_below hS.b (by unfold BfQ at hQ; omega) hS.b.size) (hS.y.farR (by unfold BfQ at hQ; omega) _))
 ·simp only [if_true] at hok
  have o1 := hS.t.cells 7
  have f1 := hS.t.frozen 7
  have l1 := hS.t.lt
  go_upto_region 19 with fail
  have hS2 : BfS w ⟨F, R, xs, bl, can, pa, ha, fu⟩ pp cc r q0 q1 q2 q5 qa cap ys (posCs F R (some ⟨qa, 0, none⟩) xs.length cap true CA PA HA (fu - 1)) (W.setCell ⟨q5, 7, none⟩ (.int .i64 (fu - 1))) := hS.set5 hQ 7 (.int .i64 (fu - 1))
  generalize W.setCell ⟨q5, 7, none⟩ (.int .i64 (fu - 1)) = W2 at *
  clear o1 f1 l1 hS
  have hO := hS2.t
  have hZ := hS2.o
  have hi : Hid ((Tryz.prog.info? 26).map (·.size) = some (posCs F R (some ⟨qa, 0, none⟩) xs.length cap true CA PA HA (fu - 1)).toArray.size) := Lib.hid (by kernel_rfl)
  have ho : Hid ((posCs F R (some ⟨qa, 0, none⟩) xs.length cap true CA PA HA (fu - 1)).toArray.all (·.oneCell') = true) := Lib.hid (by simp [Value.oneCell'])
  go_wp2_with (first | (refine wpList_loadO rfl 26 (.tmp 5) rfl q5 _ 26 rfl hO (by kernel_rfl) ?_) | ((refine wpList_storeAgg rfl 26 (.tmp 4) (.tmp 130) rfl q2 _ rfl rfl 26 _ hZ hi.out rfl ho.out ?_); rintro w3 rfl) | fail)
  refine bodyPost_ret (results_cell (fn := Tryz.f110) Tryz.results110 rfl (setRow_hasO (cells := (posCs F R (some ⟨qa, 0, none⟩) xs.length cap true CA PA HA (fu - 1)).toArray) hZ) (by kernel_rfl)) rfl (hok _ (setRow_below hS2.b (by unfold BfQ at hQ; omega) hS2.b.size) (hS2.y.farR (by unfold BfQ at hQ; omega) _))
set_option maxRecDepth 100000 in
theorem bfS2b (w : World) (F R : Nat) (xs : List Int) (bl : Bool) (can : Nat) (pa ha fu : Int) (pp : Option Addr) (cc : Nat) (r : Ret) (q0 q1 q2 q5 qa cap : Nat) (sd : Bool) (own : Int) (T : Array Value) (hT : bfT T q0 q1 q2 q5 sd own) (ys : List Int) (Rs : Ending → World → Prop) (hha : 0 ≤ ha ∧ ha ≤ 10000) (hfu : -10000 ≤ fu ∧ fu ≤ 10000)
  (W : World) (hQ : BfQ w q0 q1 q2 qa q5) (hS : BfS w ⟨F, R, xs, bl, can, pa, ha, fu⟩ pp cc r q0 q1 q2 q5 qa cap ys (posCs F R (some ⟨qa, 0, none⟩) xs.length cap bl can pa ha fu) W)
  (hok : ∀ w', RowKit.Below w.heap.size w w' → OArr w' qa cap ys → Rs (.returned (.agg (posCs F R (some ⟨qa, 0, none⟩) xs.length cap sd r.ca r.pa (max 0 (ha - 1)) (if sd then fu - 1 else fu)).toArray)) w')
  (cd : Code) (hcd : Tryz.f110.body.map (sufC 8) = some cd) : cd.wp Tryz.prog (bodyPost Tryz.prog Tryz.f110 Rs) { tmps := T, defers := [] } W := by
 obtain rfl := Option.some.inj ((show Tryz.f110.body.map (sufC 8) = some _ from rfl).symm.trans hcd)
 clear hcd
 simp only [sufC]
 obtain ⟨X, rfl⟩ := hT.fr
 clear hT
 unfold bfF
 go_upto_region 15 with fail
 rename_i hk
 replace hk := Lib.hid hk
 dsimp only
 obtain ⟨Wk, hWk⟩ : ∃ Wk : Nat → World, Wk = fun k => match k with | 0 => W | 1 => W.setCell ⟨q5, 3, none⟩ (.bool sd) | 2 => (W.setCell ⟨q5, 3, none⟩ (.bool sd)).setCell ⟨q5, 4, none⟩ (.int .u8 r.ca) | _ => ((W.setCell ⟨q5, 3, none⟩ (.bool sd)).setCell ⟨q5, 4, none⟩ (.int .u8 r.ca)).setCell ⟨q5, 5, none⟩ (.int .i64 r.pa) := ⟨_, rfl⟩
 have hW0 : Wk 0 = W := by subst hWk; rfl
 have hW1 : Wk (0 + 1) = (Wk 0).setCell ⟨q5, 3, none⟩ (.bool sd) := by subst hWk; rfl
 have hW2 : Wk (1 + 1) = (Wk 1).setCell ⟨q5, 4, none⟩ (.int .u8 r.ca) := by subst hWk; rfl
 have hW3 : Wk (2 + 1) = (Wk 2).setCell ⟨q5, 5, none⟩ (.int .i64 r.pa) := by subst hWk; rfl
 have hS1 := hS.set5 hQ 3 (.bool sd)
 have hS2 := hS1.set5 hQ 4 (.int .u8 r.ca)
 have hS3 := hS2.set5 hQ 5 (.int .i64 r.pa)
 have m1 := row_grk (Wk := Wk) (q := q1) (fun k => by
  subst hWk
  rcases k with _ | _ | _ | k
  ·exact hS.m
  ·exact hS1.m
  ·exact hS2.m
  ·exact hS3.m)
 have m1' : ∀ k d os j, (grow (redrawn (Wk k) d) os).cell? ⟨q1, j, none⟩ = (#[.int .i64 r.mv.fr, .int .i64 r.mv.tg, .int .i8 r.mv.pr, .int .i8 r.cp, .int .i64 r.at_, .int .u8 r.ca, .int .i64 r.pa] : Array Value)[j]? := m1
 have hSk : BfS w ⟨F, R, xs, bl, can, pa, ha, fu⟩ pp cc r q0 q1 q2 q5 qa cap ys (posCs F R (some ⟨qa, 0, none⟩) xs.length cap sd r.ca r.pa ha fu) (Wk [6, 8, 10].length) := by subst hWk; exact hS3
 have c0 : (Wk 0).cell? ⟨q5, 3, none⟩ = some (.bool bl) := by rw [hW0]; exact hS.t.cells 3
 have g0 : (Wk 0).frozen? ⟨q5, 3, none⟩ = false := by rw [hW0]; exact hS.t.frozen 3
 have c1 : (Wk 1).cell? ⟨q5, 4, none⟩ = some (.int .u8 can) := by subst hWk; exact hS1.t.cells 4
 have g1 : (Wk 1).frozen? ⟨q5, 4, none⟩ = false := by subst hWk; exact hS1.t.frozen 4
 have c2 : (Wk 2).cell? ⟨q5, 5, none⟩ = some (.int .i64 pa) := by subst hWk; exact hS2.t.cells 5
 have g2 : (Wk 2).frozen? ⟨q5, 5, none⟩ = false := by subst hWk; exact hS2.t.frozen 5
 clear hWk m1 hS1 hS2 hS3
 replace hW1 := Lib.hid hW1
 replace hW2 := Lib.hid hW2
 replace hW3 := Lib.hid hW3
 refine wp_region_turn [6, 8, 10] [(0, 0), (0, 1), (0, 1), (0, 2), (0, 2), (0, 0), (9, 9), (1, 1), (9, 9), (2, 2)] Wk (by kernel_rfl) (by kernel_rfl) hW0 ?_
 replace hW0 := Lib.hid hW0
 refine wpT_q 0 rfl rfl ?_
 go_big_quiet_step (fail)
 refine wpQuiet_nil ?_
 refine wpT_f rfl rfl ?_
 go_big_quiet_step (fail)
 refine wpQuiet_nil ?_
 refine wpT_f rfl rfl ?_
 go_big_quiet_step (fail)
 refine wpQuiet_nil ?_
 refine wpT_f rfl rfl ?_
 go_big_quiet_step (fail)
 refine wpQuiet_nil ?_
 refine wpT_f rfl rfl ?_
 go_big_quiet_step (fail)
 refine wpQuiet_nil ?_
 refine wpT_q 0 rfl rfl ?_
 go_big_quiet_step (fail)
 refine wpQuiet_nil ?_
 refine wpT_s 0 rfl rfl 4 (.tmp 117) (.tmp 112) rfl rfl rfl (by kernel_rfl) rfl c0 g0 hW1.out rfl ?_
 refine wpT_q 1 rfl rfl ?_
 go_big_quiet_step (fail)
 refine wpQuiet_nil ?_
 refine wpT_s 1 rfl rfl 5 (.tmp 118) (.tmp 114) rfl rfl rfl (by kernel_rfl) rfl c1 g1 hW2.out rfl ?_
 refine wpT_q 2 rfl rfl ?_
 go_big_quiet_step (fail)
 refine wpQuiet_nil ?_
 refine wpT_s 2 rfl rfl 3 (.tmp 119) (.tmp 116) rfl rfl rfl (by kernel_rfl) rfl c2 g2 hW3.out rfl ?_
 refine wpT_nil ?_
 intro W6 hb6
 have hS6 := hSk.call hb6
 clear m1' c0 c1 c2 g0 g1 g2
 have p0 : ∀ j, W6.cell? ⟨q0, j, none⟩ = (posCs F R pp xs.length cc bl can pa ha fu).toArray[j]? := hS6.p.cells
 have l0 := hS6.p.lt
 have o1 := hS6.t.cells 6
 have f1 := hS6.t.frozen 6
 have l1 := hS6.t.lt
 refine hk.out _ _ ?_
 clear hb6 hSk
 go_upto_region 16 with fail
 rename_i hk2
 replace hk2 := Lib.hid hk2
 go_wp2_with fail
 have hS7 : BfS w ⟨F, R, xs, bl, can, pa, ha, fu⟩ pp cc r q0 q1 q2 q5 qa cap ys (posCs F R (some ⟨qa, 0, none⟩) xs.length cap sd r.ca r.pa (max 0 (ha - 1)) fu) (W6.setCell ⟨q5, 6, none⟩ (.int .i64 (max 0 (ha - 1)))) := hS6.set5 hQ 6 (.int .i64 (max 0 (ha - 1)))
 generalize W6.setCell ⟨q5, 6, none⟩ (.int .i64 (max 0 (ha - 1))) = W7 at *
 refine hk2.out _ _ ?_
 refine bfS3 w F R xs bl can pa ha fu pp cc r q0 q1 q2 q5 qa cap sd own _ ?_ ys Rs _ _ _ hfu W7 hQ hS7 hok _ ?_
 ·exact ⟨rfl, rfl, rfl, rfl, rfl, rfl, rfl⟩
 ·exact rfl
set_option maxRecDepth 100000 in
theorem bfS2 (w : World) (F R : Nat) (xs : List Int) (bl : Bool) (can : Nat) (pa ha fu : Int) (pp : Option Addr) (cc : Nat) (r : Ret) (q0 q1 q2 q5 qa cap : Nat) (sd : Bool) (own : Int) (T : Array Value) (hT : bfT T q0 q1 q2 q5 sd own) (ys : List Int) (Rs : Ending → World → Prop) (hha : 0 ≤ ha ∧ ha ≤ 10000) (hfu : -10000 ≤ fu ∧ fu ≤ 10000) (hly : ys.length = xs.length)
  (W : World) (hQ : BfQ w q0 q1 q2 qa q5) (hS : BfS w ⟨F, R, xs, bl, can, pa, ha, fu⟩ pp cc r q0 q1 q2 q5 qa cap ys (posCs F R (some ⟨qa, 0, none⟩) xs.length cap bl can pa ha fu) W)
  (hok : ∀ w', RowKit.Below w.heap.size w w' → OArr w' qa cap (if 0 ≤ r.at_ ∧ r.at_ < ys.length then ys.set r.at_.toNat r.cp else ys) → Rs (.returned (.agg (posCs F R (some ⟨qa, 0, none⟩) xs.length cap sd r.ca r.pa (max 0 (ha - 1)) (if sd then fu - 1 else fu)).toArray)) w')
  (cd : Code) (hcd : Tryz.f110.body.map (sufC 7) = some cd) : cd.wp Tryz.prog (bodyPost Tryz.prog Tryz.f110 Rs) { tmps := T, defers := [] } W := by
 obtain rfl := Option.some.inj ((show Tryz.f110.body.map (sufC 7) = some _ from rfl).symm.trans hcd)
 clear hcd
 simp only [sufC]
 obtain ⟨X, rfl⟩ := hT.fr
 clear hT
 unfold bfF
 have p1 : ∀ j, W.cell? ⟨q1, j, none⟩ = (#[.int .i64 r.mv.fr, .int .i64 r.mv.tg, .int .i8 r.mv.pr, .int .i8 r.cp, .int .i64 r.at_, .int .u8 r.ca, .int .i64 r.pa] : Array Value)[j]? := hS.m.cells
 have l1 := hS.m.lt
 have p5 : ∀ j, W.cell? ⟨q5, j, none⟩ = (posCs F R (some ⟨qa, 0, none⟩) xs.length cap bl can pa ha fu).toArray[j]? := hS.t.cells
 have l5 := hS.t.lt
 have lq := hS.y.lt
 obtain ⟨at_, hat⟩ : ∃ t, t = r.at_ := ⟨_, rfl⟩
 obtain ⟨cp, hcp⟩ : ∃ t, t = r.cp := ⟨_, rfl⟩
 rw [← hat, ← hcp] at p1
 have hcond : ∀ v : List Int, v = (if 0 ≤ r.at_ ∧ r.at_ < ys.length then ys.set r.at_.toNat r.cp else ys) → ∀ w', RowKit.Below w.heap.size w w' → OArr w' qa cap v → Rs (.returned (.agg (posCs F R (some ⟨qa, 0, none⟩) xs.length cap sd r.ca r.pa (max 0 (ha - 1)) (if sd then fu - 1 else fu)).toArray)) w' := fun v hv w' h1 h2 => hok w' h1 (by rw [← hv]; exact h2)
 rw [← hat, ← hcp, hly] at hcond
 clear hok
 replace hly := Lib.hid hly
 replace hat := Lib.hid hat
 replace hcp := Lib.hid hcp
 go_upto_region 13 with fail
 rename_i k hk k2 hk2
 replace hk := Lib.hid hk
 have hno : ¬ (0 ≤ at_ ∧ at_ < xs.length) → ∀ T' : Array Value, bfT T' q0 q1 q2 q5 sd own → k { tmps := T', defers := [] } W := fun hc T' hT' => by
  refine hk.out _ _ ?_
  exact bfS2b w F R xs bl can pa ha fu pp cc r q0 q1 q2 q5 qa cap sd own T' hT' ys Rs hha hfu W hQ hS (hcond ys (by rw [if_neg hc])) _ rfl
 by_cases h0 : 0 ≤ at_
 ·obtain ⟨K, rfl⟩ : ∃ K : Nat, at_ = K := ⟨at_.toNat, by omega⟩
  by_cases hK : K < xs.length
  ·have hii : (K : Int) < xs.length := by omega
   have hv := hS.y.cell (j := K) (by have := hly.out; omega)
   have hf2 := hS.y.frozen K
   go_wp2_with fail
   have hS2 : BfS w ⟨F, R, xs, bl, can, pa, ha, fu⟩ pp cc r q0 q1 q2 q5 qa cap (ys.set K cp) (posCs F R (some ⟨qa, 0, none⟩) xs.length cap bl can pa ha fu) (W.setCell ⟨qa, K, none⟩ (.int .i8 cp)) := hS.setA hQ K cp
   generalize W.setCell ⟨qa, K, none⟩ (.int .i8 cp) = W2 at *
   refine hk.out _ _ ?_
   refine bfS2b w F R xs bl can pa ha fu pp cc r q0 q1 q2 q5 qa cap sd own _ ?_ (ys.set K cp) Rs hha hfu W2 hQ hS2 (hcond _ (by rw [if_pos ⟨by omega, by omega⟩, Int.toNat_natCast])) _ ?_
   ·exact ⟨rfl, rfl, rfl, rfl, rfl, rfl, rfl⟩
   ·exact rfl
  ·have hii : ¬ ((K : Int) < xs.length) := by omega
   go_wp2_with fail
   exact hno (by omega) _ ⟨rfl, rfl, rfl, rfl, rfl, rfl, rfl⟩
 ·go_wp2_with fail
  exact hno (by omega) _ ⟨rfl, rfl, rfl, rfl, rfl, rfl, rfl⟩
def bckX (F R : Nat) (own : Int) (sd : Bool) (fr tg : Int) (x : List Int) (c : Cas) : List Int := if F = 8 ∧ R = 8 ∧ own = pcI 6 sd ∧ c.bl = sd ∧ (c.fr : Int) = fr ∧ (c.tg : Int) = tg then (x.set c.co (x[c.cr]?.getD 0)).set c.cr 0 else x
theorem bckX_len (F R : Nat) (own : Int) (sd : Bool) (fr tg : Int) (x : List Int) (c : Cas) : (bckX F R own sd fr tg x c).length = x.length := by
 unfold bckX; split <;> simp
theorem fold_len (F R : Nat) (own : Int) (sd : Bool) (fr tg : Int) : ∀ (l : List Cas) (x : List Int), (l.foldl (bckX F R own sd fr tg) x).length = x.length
 | [], _ => rfl
 | c :: l, x => by rw [List.foldl_cons, fold_len F R own sd fr tg l, bckX_len]
theorem size8_eql (F R : Nat) (w : World) : (binOp .eql 23 (.agg #[.int .i64 F, .int .i64 R]) (.agg #[.int .i64 8, .int .i64 8])).run Tryz.prog w = .ok (.bool (((F : Int) == 8) && ((R : Int) == 8))) w := by
 simp [go_sem]
 by_cases h1 : (F : Int) = 8 <;> by_cases h2 : (R : Int) = 8 <;> simp [h1, h2]
theorem ld1 (w : World) (h : GlobU w) : (loadVar 23 ⟨1, 0, none⟩).run Tryz.prog w = .ok (.agg #[.int .i64 8, .int .i64 8]) w :=
 run_loadA [.int .i64 8, .int .i64 8] (by kernel_rfl) (fun j v e => by
  rw [Nat.zero_add]
  rcases j with _ | _ | j
  ·injection e with e; rw [← e]; exact h.2.2.2.1
  ·injection e with e; rw [← e]; exact h.2.2.2.2
  ·cases e)
set_option maxRecDepth 100000 in
theorem bfS1 (w : World) (F R : Nat) (xs : List Int) (bl : Bool) (can : Nat) (pa ha fu : Int) (pp : Option Addr) (cc : Nat) (r : Ret) (q0 q1 q2 q5 qa cap : Nat) (sd : Bool) (own : Int) (T : Array Value) (hT : bfT T q0 q1 q2 q5 sd own) (ys : List Int) (Rs : Ending → World → Prop) (hG : GlobU w) (hlx : F = 8 → R = 8 → 64 ≤ xs.length) (hha : 0 ≤ ha ∧ ha ≤ 10000) (hfu : -10000 ≤ fu ∧ fu ≤ 10000) (hly : ys.length = xs.length)
  (W : World) (hQ : BfQ w q0 q1 q2 qa q5) (hS : BfS w ⟨F, R, xs, bl, can, pa, ha, fu⟩ pp cc r q0 q1 q2 q5 qa cap ys (posCs F R (some ⟨qa, 0, none⟩) xs.length cap bl can pa ha fu) W) (Z : List Int) (hZ : Z = casL.foldl (bckX F R own sd r.mv.fr r.mv.tg) ys)
  (hok : ∀ w', RowKit.Below w.heap.size w w' → OArr w' qa cap (if 0 ≤ r.at_ ∧ r.at_ < Z.length then Z.set r.at_.toNat r.cp else Z) → Rs (.returned (.agg (posCs F R (some ⟨qa, 0, none⟩) xs.length cap sd r.ca r.pa (max 0 (ha - 1)) (if sd then fu - 1 else fu)).toArray)) w')
  (cd : Code) (hcd : Tryz.f110.body.map (sufC 6) = some cd) : cd.wp Tryz.prog (bodyPost Tryz.prog Tryz.f110 Rs) { tmps := T, defers := [] } W := by
 obtain rfl := Option.some.inj ((show Tryz.f110.body.map (sufC 6) = some _ from rfl).symm.trans hcd)
 clear hcd
 simp only [sufC]
 obtain ⟨X, rfl⟩ := hT.fr
 clear hT
 unfold bfF
 have hld := ld0 W (hG.call hS.b)
 have hix := ix0
 have hfl : ∀ c l x, (c :: l).foldl (bckX F R own sd r.mv.fr r.mv.tg) x = l.foldl (bckX F R own sd r.mv.fr r.mv.tg) (bckX F R own sd r.mv.fr r.mv.tg x c) := fun c l x => rfl
 have hzl : Z.length = xs.length := by rw [hZ, fold_len, hly]
 have hst : ∀ x (c : Cas), bckX F R own sd r.mv.fr r.mv.tg x c = if F = 8 ∧ R = 8 ∧ own = pcI 6 sd ∧ c.bl = sd ∧ (c.fr : Int) = r.mv.fr ∧ (c.tg : Int) = r.mv.tg then (x.set c.co (x[c.cr]?.getD 0)).set c.cr 0 else x := fun _ _ => rfl
 have hbl := bckX_len F R own sd r.mv.fr r.mv.tg
 generalize bckX F R own sd r.mv.fr r.mv.tg = G at *
 generalize casV.toArray = cv at *
 replace hly := Lib.hid hly
 replace hzl := Lib.hid hzl
 replace hZ := Lib.hid hZ.symm
 go_upto_region 7 with fail
 rename_i k hk k2 hk2
 replace hk := Lib.hid hk
 dsimp only
 go_wp2_with (with_reducible refine wpList_loadG rfl 132 (.global 0) rfl rfl hld ?_)
 go_loopg [42] 5 (fun q iv wr => ∃ (i : Nat) (zs : List Int), q + i = 5 ∧ i ≤ 4 ∧ iv = .int .i64 i ∧ Hid ((casL.drop i).foldl G zs = Z) ∧ Hid (zs.length = xs.length) ∧ BfS w ⟨F, R, xs, bl, can, pa, ha, fu⟩ pp cc r q0 q1 q2 q5 qa cap zs (posCs F R (some ⟨qa, 0, none⟩) xs.length cap bl can pa ha fu) wr)
 case atStart => exact ⟨0, ys, rfl, Nat.zero_le _, rfl, Lib.hid (by rw [← hZ.out]; rfl), hly, hS⟩
 case round =>
  obtain ⟨i, zs, hq, hi, rfl, hcv, hlz, hSr⟩ := hrel
  by_cases hlt : i < 4
  ·have hii : (i : Int) < 4 := by omega
   obtain ⟨c, hc, _, hix2⟩ := hix i hlt
   obtain ⟨k1, k2', k3, k4, k5, k6, k7, k8⟩ := cas_at hc
   have hnx := hcv.out
   rw [cas_drop hc, hfl, hst] at hnx
   clear hix hfl hS hcv hly hZ hld
   have hb3 := below_box wr (.cells c.cs.toArray 131)
   have hC := HasO.new wr (.cells c.cs.toArray 131)
   have hS3 := hSr.call hb3
   have hqc : q5 < wr.heap.size := hSr.t.lt
   go_upto_region 10 with fail
   change Code.wp _ _ _ _ (wr.alloc (.cells c.cs.toArray 131))
   generalize wr.alloc (.cells c.cs.toArray 131) = w3 at *
   generalize wr.heap.size = qc at *
   clear hb3 hSr
   have hl1 := ld1 w3 (hG.call hS3.b)
   have h8 := size8_eql F R
   have hsk : (((F : Int) == 8) && ((R : Int) == 8)) = false ∨ (own == pcI 6 sd) = false ∨ (c.bl == sd) = false ∨ ((c.fr : Int) == r.mv.fr) = false ∨ ((c.tg : Int) == r.mv.tg) = false → Hid ((casL.drop (i + 1)).foldl G zs = Z) := fun h => Lib.hid (by
    rw [if_neg] at hnx
    ·exact hnx
    ·rintro ⟨h1, h2, h3, h4, h5, h6⟩
     simp [h1, h2, h3, h4, h5, h6] at h)
   have hht : (((F : Int) == 8) && ((R : Int) == 8)) = true → (own == pcI 6 sd) = true → (c.bl == sd) = true → ((c.fr : Int) == r.mv.fr) = true → ((c.tg : Int) == r.mv.tg) = true → (F = 8 ∧ R = 8) ∧ Hid ((casL.drop (i + 1)).foldl G ((zs.set c.co (zs[c.cr]?.getD 0)).set c.cr 0) = Z) := fun h1 h2 h3 h4 h5 => by
    simp only [Bool.and_eq_true, beq_iff_eq] at h1 h2 h3 h4 h5
    refine ⟨⟨by omega, by omega⟩, Lib.hid ?_⟩
    rw [if_pos ⟨by omega, by omega, h2, h3, h4, h5⟩] at hnx
    exact hnx
   clear hnx
   have p0 : ∀ j, w3.cell? ⟨q0, j, none⟩ = (posCs F R pp xs.length cc bl can pa ha fu).toArray[j]? := hS3.p.cells
   have l0 := hS3.p.lt
   have p1 : ∀ j, w3.cell? ⟨q1, j, none⟩ = (#[.int .i64 r.mv.fr, .int .i64 r.mv.tg, .int .i8 r.mv.pr, .int .i8 r.cp, .int .i64 r.at_, .int .u8 r.ca, .int .i64 r.pa] : Array Value)[j]? := hS3.m.cells
   have l1 := hS3.m.lt
   have pc := hC.cells
   have lc := hC.lt
   generalize (((F : Int) == 8) && ((R : Int) == 8)) = z1 at *
   cases z1
   ·have hcv := hsk (.inl rfl)
    clear hsk hht
    go_wp2_with (with_reducible refine wpList_loadG rfl 23 (.global 1) rfl rfl hl1 ?_)
    go_roundg (gk - 1)
    case measure => omega
    case rel => exact ⟨i + 1, zs, by omega, by omega, by go_num, hcv, hlz, hS3⟩
   ·replace hht := Lib.hid (hht rfl)
    replace hsk : (own == pcI 6 sd) = false ∨ (c.bl == sd) = false ∨ ((c.fr : Int) == r.mv.fr) = false ∨ ((c.tg : Int) == r.mv.tg) = false → Hid ((casL.drop (i + 1)).foldl G zs = Z) := fun h => hsk (.inr h)
    replace hsk := Lib.hid hsk
    go_wp2_with (with_reducible refine wpList_loadG rfl 23 (.global 1) rfl rfl hl1 ?_)
    refine (of92_any 6 sd (by decide) _).mono ?_
    rintro e W5 ⟨rfl, rfl⟩
    clear hl1 h8
    rcases z2 : (own == pcI 6 sd) with _ | _
    ·have hcv := hsk.out (by simp [z2])
     clear hsk hht
     go_wp2_with fail
     go_roundg (gk - 1)
     case measure => omega
     case rel => exact ⟨i + 1, zs, by omega, by omega, by go_num, hcv, hlz, hS3⟩
    ·rcases z3 : (c.bl == sd) with _ | _
     ·have hcv := hsk.out (by simp [z3])
      clear hsk hht
      go_wp2_with fail
      go_roundg (gk - 1)
      case measure => omega
      case rel => exact ⟨i + 1, zs, by omega, by omega, by go_num, hcv, hlz, hS3⟩
     ·rcases z4 : ((c.fr : Int) == r.mv.fr) with _ | _
      ·have hcv := hsk.out (by simp [z4])
       clear hsk hht
       go_wp2_with fail
       go_roundg (gk - 1)
       case measure => omega
       case rel => exact ⟨i + 1, zs, by omega, by omega, by go_num, hcv, hlz, hS3⟩
      ·rcases z5 : ((c.tg : Int) == r.mv.tg) with _ | _
       ·have hcv := hsk.out (by simp [z5])
        clear hsk hht
        go_wp2_with fail
        go_roundg (gk - 1)
        case measure => omega
        case rel => exact ⟨i + 1, zs, by omega, by omega, by go_num, hcv, hlz, hS3⟩
       ·obtain ⟨hFR, hcv⟩ := hht.out z2 z3 z4 z5
        clear hsk hht
        go_upto_region 11 with fail
        obtain ⟨rfl, rfl⟩ := hFR
        have hlx := hlx rfl rfl
        have hi1 : (c.co : Int) < xs.length := by omega
        have hi2 : (c.cr : Int) < xs.length := by omega
        clear pc lc p0 l0 p1 l1
        have hv := hS3.y.cell (j := c.cr) (by have := hlz.out; omega)
        have hv2 := hS3.y.cell (j := c.co) (by have := hlz.out; omega)
        generalize zs[c.cr]?.getD 0 = v at *
        have hf2 := hS3.y.frozen c.co
        obtain ⟨Wk, hWk⟩ : ∃ Wk : Nat → World, Wk = fun k => match k with | 0 => w3 | 1 => w3.setCell ⟨qa, c.co, none⟩ (.int .i8 v) | _ => (w3.setCell ⟨qa, c.co, none⟩ (.int .i8 v)).setCell ⟨qa, c.cr, none⟩ (.int .i8 0) := ⟨_, rfl⟩
        have hW0 : Wk 0 = w3 := by subst hWk; rfl
        have hW1 : Wk (0 + 1) = (Wk 0).setCell ⟨qa, c.co, none⟩ (.int .i8 v) := by subst hWk; rfl
        have hW2 : Wk (1 + 1) = (Wk 1).setCell ⟨qa, c.cr, none⟩ (.int .i8 0) := by subst hWk; rfl
        have hT1 := hS3.setA hQ c.co v
        have hT2 := hT1.setA hQ c.cr 0
        have hqq : qc ≠ qa := by unfold BfQ at hQ; omega
        have m2 := row_grk (Wk := Wk) (q := q5) (fun k => by
         subst hWk
         rcases k with _ | _ | k
         ·exact hS3.t
         ·exact hT1.t
         ·exact hT2.t)
        have m3 := row_grk (Wk := Wk) (q := qc) (fun k => by
         subst hWk
         rcases k with _ | _ | k
         ·exact hC
         ·exact hC.far (p := ⟨qa, c.co, none⟩) hqq _
         ·exact (hC.far (p := ⟨qa, c.co, none⟩) hqq _).far (p := ⟨qa, c.cr, none⟩) hqq _)
        have m3' : ∀ k d os j, (grow (redrawn (Wk k) d) os).cell? ⟨qc, j, none⟩ = c.cs.toArray[j]? := m3
        have hSk : BfS w ⟨8, 8, xs, bl, can, pa, ha, fu⟩ pp cc r q0 q1 q2 q5 qa cap ((zs.set c.co v).set c.cr 0) (posCs 8 8 (some ⟨qa, 0, none⟩) xs.length cap bl can pa ha fu) (Wk [15, 17].length) := by subst hWk; exact hT2
        have c15 : (Wk 0).cell? ⟨qa, c.co, none⟩ = some (.int .i8 (zs[c.co]?.getD 0)) := by rw [hW0]; exact hv2
        have g15 : (Wk 0).frozen? ⟨qa, c.co, none⟩ = false := by rw [hW0]; exact hf2
        have hy1 : OArr (Wk 1) qa cap (zs.set c.co v) := by subst hWk; exact hT1.y
        have c17 := hy1.cell (j := c.cr) (by rw [List.length_set]; have := hlz.out; omega)
        have g17 := hy1.frozen c.cr
        have n1 := cell_regrown (w := Wk 0) (a := ⟨qa, c.cr, none⟩) (by rw [hW0]; exact hv)
        clear hWk m3 hv hf2 hT1 hT2
        replace hW1 := Lib.hid hW1
        replace hW2 := Lib.hid hW2
        refine wp_region_turn [15, 17] [(0, 0), (0, 0), (0, 0), (0, 0), (0, 1), (0, 1), (0, 1), (0, 1), (0, 0), (0, 0), (0, 0), (0, 0), (0, 0), (0, 0), (0, 0), (9, 9), (1, 1)] Wk (by kernel_rfl) (by kernel_rfl) hW0 ?_
        replace hW0 := Lib.hid hW0
        iterate 4 (refine wpT_q 0 rfl rfl ?_; go_big_quiet_step (fail); refine wpQuiet_nil ?_)
        iterate 4 (refine wpT_f rfl rfl ?_; go_big_quiet_step (fail); refine wpQuiet_nil ?_)
        iterate 7 (refine wpT_q 0 rfl rfl ?_; go_big_quiet_step (fail); refine wpQuiet_nil ?_)
        refine wpT_s 0 rfl rfl 38 (.tmp 91) (.tmp 90) rfl rfl rfl (by kernel_rfl) rfl c15 g15 hW1.out rfl ?_
        refine wpT_q 1 rfl rfl ?_
        go_big_quiet_step (fail)
        refine wpQuiet_nil ?_
        refine wpT_s 1 rfl rfl 38 (.tmp 92) (.const (.int .i8 0)) rfl rfl rfl (by kernel_rfl) rfl c17 g17 hW2.out rfl ?_
        refine wpT_nil ?_
        intro W6 hb6
        have hS6 := hSk.call hb6
        clear m2 m3'
        go_wp2_with fail
        go_roundg (gk - 1)
        case measure => omega
        case rel => exact ⟨i + 1, _, by omega, by omega, by go_num, hcv, Lib.hid (by rw [List.length_set, List.length_set]; exact hlz.out), hS6⟩
  ·obtain rfl : i = 4 := by omega
   have hzz : zs = Z := hcv.out
   subst hzz
   go_wp2_with fail
   refine hk.out _ _ ?_
   refine bfS2 w F R xs bl can pa ha fu pp cc r q0 q1 q2 q5 qa cap sd own _ ?_ zs Rs hha hfu hzl.out wr hQ hSr hok _ ?_
   ·exact ⟨rfl, rfl, rfl, rfl, rfl, rfl, rfl⟩
   ·exact rfl
set_option maxRecDepth 100000 in
theorem bfS0 (w : World) (F R : Nat) (xs : List Int) (bl : Bool) (can : Nat) (pa ha fu : Int) (pp : Option Addr) (cc : Nat) (r : Ret) (q0 q1 q2 q5 qa cap : Nat) (sd : Bool) (own : Int) (T : Array Value) (hT : bfT T q0 q1 q2 q5 sd own) (Rs : Ending → World → Prop) (a b : Nat) (hra : r.mv.fr = a) (hrb : r.mv.tg = b) (hla : a < xs.length) (hlb : b < xs.length) (hG : GlobU w) (hlx : F = 8 → R = 8 → 64 ≤ xs.length) (hha : 0 ≤ ha ∧ ha ≤ 10000) (hfu : -10000 ≤ fu ∧ fu ≤ 10000)
  (W : World) (hQ : BfQ w q0 q1 q2 qa q5) (hS : BfS w ⟨F, R, xs, bl, can, pa, ha, fu⟩ pp cc r q0 q1 q2 q5 qa cap xs (posCs F R (some ⟨qa, 0, none⟩) xs.length cap bl can pa ha fu) W) (Z : List Int) (hZ : Z = casL.foldl (bckX F R own sd r.mv.fr r.mv.tg) ((xs.set b 0).set a own))
  (hok : ∀ w', RowKit.Below w.heap.size w w' → OArr w' qa cap (if 0 ≤ r.at_ ∧ r.at_ < Z.length then Z.set r.at_.toNat r.cp else Z) → Rs (.returned (.agg (posCs F R (some ⟨qa, 0, none⟩) xs.length cap sd r.ca r.pa (max 0 (ha - 1)) (if sd then fu - 1 else fu)).toArray)) w')
  (cd : Code) (hcd : Tryz.f110.body.map (sufC 5) = some cd) : cd.wp Tryz.prog (bodyPost Tryz.prog Tryz.f110 Rs) { tmps := T, defers := [] } W := by
 obtain rfl := Option.some.inj ((show Tryz.f110.body.map (sufC 5) = some _ from rfl).symm.trans hcd)
 clear hcd
 simp only [sufC]
 obtain ⟨X, rfl⟩ := hT.fr
 clear hT
 unfold bfF
 have hi1 : (a : Int) < xs.length := by omega
 have hi2 : (b : Int) < xs.length := by omega
 have hv := hS.y.cell (j := b) hlb
 have hf2 := hS.y.frozen b
 obtain ⟨Wk, hWk⟩ : ∃ Wk : Nat → World, Wk = fun k => match k with | 0 => W | 1 => W.setCell ⟨qa, b, none⟩ (.int .i8 0) | _ => (W.setCell ⟨qa, b, none⟩ (.int .i8 0)).setCell ⟨qa, a, none⟩ (.int .i8 own) := ⟨_, rfl⟩
 have hW0 : Wk 0 = W := by subst hWk; rfl
 have hW1 : Wk (0 + 1) = (Wk 0).setCell ⟨qa, b, none⟩ (.int .i8 0) := by subst hWk; rfl
 have hW2 : Wk (1 + 1) = (Wk 1).setCell ⟨qa, a, none⟩ (.int .i8 own) := by subst hWk; rfl
 have hT1 := hS.setA hQ b 0
 have hT2 := hT1.setA hQ a own
 have m2 := row_grk (Wk := Wk) (q := q5) (fun k => by
  subst hWk
  rcases k with _ | _ | k
  ·exact hS.t
  ·exact hT1.t
  ·exact hT2.t)
 have m3 := row_grk (Wk := Wk) (q := q1) (fun k => by
  subst hWk
  rcases k with _ | _ | k
  ·exact hS.m
  ·exact hT1.m
  ·exact hT2.m)
 have m3' : ∀ k d os j, (grow (redrawn (Wk k) d) os).cell? ⟨q1, j, none⟩ = (#[.int .i64 r.mv.fr, .int .i64 r.mv.tg, .int .i8 r.mv.pr, .int .i8 r.cp, .int .i64 r.at_, .int .u8 r.ca, .int .i64 r.pa] : Array Value)[j]? := m3
 rw [hra, hrb] at m3'
 have hSk : BfS w ⟨F, R, xs, bl, can, pa, ha, fu⟩ pp cc r q0 q1 q2 q5 qa cap ((xs.set b 0).set a own) (posCs F R (some ⟨qa, 0, none⟩) xs.length cap bl can pa ha fu) (Wk [12, 14].length) := by subst hWk; exact hT2
 have c15 : (Wk 0).cell? ⟨qa, b, none⟩ = some (.int .i8 (xs[b]?.getD 0)) := by rw [hW0]; exact hv
 have g15 : (Wk 0).frozen? ⟨qa, b, none⟩ = false := by rw [hW0]; exact hf2
 have hy1 : OArr (Wk 1) qa cap (xs.set b 0) := by subst hWk; exact hT1.y
 have c17 := hy1.cell (j := a) (by rw [List.length_set]; omega)
 have g17 := hy1.frozen a
 clear hWk m3 hv hf2 hT1 hT2
 replace hW1 := Lib.hid hW1
 replace hW2 := Lib.hid hW2
 go_upto_region 6 with fail
 rename_i k hk
 replace hk := Lib.hid hk
 dsimp only
 refine wp_region_turn [12, 14] [(0, 0), (0, 0), (0, 0), (0, 0), (0, 0), (0, 1), (0, 1), (0, 1), (0, 1), (0, 1), (0, 1), (0, 0), (9, 9), (1, 1)] Wk (by kernel_rfl) (by kernel_rfl) hW0 ?_
 replace hW0 := Lib.hid hW0
 iterate 5 (refine wpT_q 0 rfl rfl ?_; go_big_quiet_step (fail); refine wpQuiet_nil ?_)
 iterate 6 (refine wpT_f rfl rfl ?_; go_big_quiet_step (fail); refine wpQuiet_nil ?_)
 refine wpT_q 0 rfl rfl ?_
 go_big_quiet_step (fail)
 refine wpQuiet_nil ?_
 refine wpT_s 0 rfl rfl 38 (.tmp 39) (.const (.int .i8 0)) rfl rfl rfl (by kernel_rfl) rfl c15 g15 hW1.out rfl ?_
 refine wpT_q 1 rfl rfl ?_
 go_big_quiet_step (fail)
 refine wpQuiet_nil ?_
 refine wpT_s 1 rfl rfl 38 (.tmp 40) (.tmp 38) rfl rfl rfl (by kernel_rfl) rfl c17 g17 hW2.out rfl ?_
 refine wpT_nil ?_
 intro W6 hb6
 have hS6 := hSk.call hb6
 clear m2 m3'
 refine hk.out _ _ ?_
 refine bfS1 w F R xs bl can pa ha fu pp cc r q0 q1 q2 q5 qa cap sd own _ ?_ _ Rs hG hlx hha hfu (by rw [List.length_set, List.length_set]) W6 hQ hS6 Z hZ hok _ ?_
 ·exact ⟨rfl, rfl, rfl, rfl, rfl, rfl, rfl⟩
 ·exact rfl
def BeforeR (P : Pos) (r : Ret) (w : World) (e : Ending) (w' : World) : Prop := ∃ q cap, e = .returned (.agg (posCs (befW P r).F (befW P r).R (some ⟨q, 0, none⟩) (befW P r).xs.length cap (befW P r).bl (befW P r).ca (befW P r).pa (befW P r).ha (befW P r).fu).toArray) ∧ RowKit.Below w.heap.size w w' ∧ w.heap.size ≤ q ∧ OArr w' q cap (befW P r).xs
theorem bef_eq (F R : Nat) (xs : List Int) (bl : Bool) (can : Nat) (pa ha fu : Int) (r : Ret) (a b : Nat) (hra : r.mv.fr = a) (hrb : r.mv.tg = b) (own : Int) (ho : own = if r.mv.pr ≠ 0 then pcI 1 (!bl) else xs[b]?.getD 0) (Z : List Int) (hZ : Z = casL.foldl (bckX F R own (!bl) r.mv.fr r.mv.tg) ((xs.set b 0).set a own)) :
  befW ⟨F, R, xs, bl, can, pa, ha, fu⟩ r = ⟨F, R, (if 0 ≤ r.at_ ∧ r.at_ < Z.length then Z.set r.at_.toNat r.cp else Z), !bl, r.ca, r.pa, max 0 (ha - 1), if !bl then fu - 1 else fu⟩ := by
 subst hZ ho
 unfold befW Pos.at_
 simp only [hra, hrb, Int.toNat_natCast]
 rfl
set_option maxRecDepth 100000 in
theorem before_any (F R : Nat) (xs : List Int) (bl : Bool) (can : Nat) (pa ha fu : Int) (r : Ret) (pp : Option Addr) (cc : Nat) (a b : Nat) (hra : r.mv.fr = a) (hrb : r.mv.tg = b) (hla : a < xs.length) (hlb : b < xs.length) (hl64 : xs.length ≤ 64) (h6 : ∀ x ∈ xs, -6 ≤ x ∧ x ≤ 6) (hlx : F = 8 → R = 8 → 64 ≤ xs.length) (hha : 0 ≤ ha ∧ ha ≤ 10000) (hfu : -10000 ≤ fu ∧ fu ≤ 10000)
  (w : World) (hg : GlobU w) (hx : Arr .i8 w pp xs) : Calls Tryz.prog 110 #[.agg (posCs F R pp xs.length cc bl can pa ha fu).toArray, .agg r.cs.toArray] w (BeforeR ⟨F, R, xs, bl, can, pa, ha, fu⟩ r w) := by
 obtain ⟨g, o, rfl, _⟩ := arr_at hx hla
 obtain ⟨W1, hW1⟩ : ∃ W1, W1 = ((w.alloc (.cells (posCs F R (some ⟨g, o, none⟩) xs.length cc bl can pa ha fu).toArray 26)).alloc (.cells r.cs.toArray 42)).alloc (.cells zeroPos.toArray 26) := ⟨_, rfl⟩
 have hB : RowKit.Below w.heap.size w W1 := by
  subst hW1
  exact (((below_box w _).alloc (by simp) _).alloc (by simp <;> omega) _)
 have hP : HasO W1 w.heap.size (.cells (posCs F R (some ⟨g, o, none⟩) xs.length cc bl can pa ha fu).toArray 26 (0, 0)) := by
  subst hW1
  exact ((HasO.new w _).alloc _).alloc _
 have hM : HasO W1 (w.heap.size + 1) (.cells r.cs.toArray 42 (0, 0)) := by
  subst hW1
  exact (HasO.new' _ _ (by simp)).alloc _
 have hO : HasO W1 (w.heap.size + 1 + 1) (.cells zeroPos.toArray 26 (0, 0)) := by
  subst hW1
  exact HasO.new' _ _ (by simp)
 have hcp := copy_any F R can pa ha fu bl g o cc xs W1 (hx.call hB) (by omega) (by omega)
 have c0 := hP.cells
 have l0 := hP.lt
 have lo := hO.lt
 replace hW1 := Lib.hid hW1
 replace hra := Lib.hid hra
 replace hrb := Lib.hid hrb
 go_enter Tryz.func110, Tryz.ntmps110
 go_upto_region 1 with fail
 change Code.wp Tryz.prog _ _ _ (((w.alloc (.cells (posCs F R (some ⟨g, o, none⟩) xs.length cc bl can pa ha fu).toArray 26)).alloc (.cells r.cs.toArray 42)).alloc (.cells zeroPos.toArray 26))
 rw [← hW1.out]
 go_wp2_with fail
 refine hcp.mono ?_
 rintro e W2 ⟨qa, cap, rfl, hb2, hqa, hY⟩
 have hP2 := hP.call hb2
 have hM2 := hM.call hb2
 have hO2 := hO.call hb2
 have hB2 := below_call hB hB.size hb2
 clear c0 l0 hP hM hO hB hb2 hcp
 have hZ := HasO.new W2 (.cells zeroPos.toArray 26)
 have hi : Hid ((Tryz.prog.info? 26).map (·.size) = some (posCs F R (some ⟨qa, 0, none⟩) xs.length cap bl can pa ha fu).toArray.size) := Lib.hid (by kernel_rfl)
 have ho : Hid ((posCs F R (some ⟨qa, 0, none⟩) xs.length cap bl can pa ha fu).toArray.all (·.oneCell') = true) := Lib.hid (by simp [Value.oneCell'])
 have lq := hY.lt
 go_upto_region 2 with (first | ((refine wpList_storeAgg rfl 26 (.tmp 5) (.tmp 11) rfl W2.heap.size (posCs F R (some ⟨qa, 0, none⟩) xs.length cap bl can pa ha fu).toArray rfl rfl 26 _ hZ hi.out rfl ho.out ?_); rintro w3 rfl) | fail)
 have hP5 := (hP2.alloc (.cells zeroPos.toArray 26)).setRow_far (g := W2.heap.size) (cells := (posCs F R (some ⟨qa, 0, none⟩) xs.length cap bl can pa ha fu).toArray) (by have := hP2.lt; omega)
 have hM5 := (hM2.alloc (.cells zeroPos.toArray 26)).setRow_far (g := W2.heap.size) (cells := (posCs F R (some ⟨qa, 0, none⟩) xs.length cap bl can pa ha fu).toArray) (by have := hM2.lt; omega)
 have hO5 := (hO2.alloc (.cells zeroPos.toArray 26)).setRow_far (g := W2.heap.size) (cells := (posCs F R (some ⟨qa, 0, none⟩) xs.length cap bl can pa ha fu).toArray) (by have := hO2.lt; omega)
 have hY5 := (hY.call (below_box W2 (.cells zeroPos.toArray 26))).farR (g := W2.heap.size) (by omega) (posCs F R (some ⟨qa, 0, none⟩) xs.length cap bl can pa ha fu).toArray
 have hT5 := setRow_hasO (cells := (posCs F R (some ⟨qa, 0, none⟩) xs.length cap bl can pa ha fu).toArray) hZ
 have hBa := hB2.alloc (by have := hP2.lt; omega) (.cells zeroPos.toArray 26)
 have hB5 := setRow_below (cells := (posCs F R (some ⟨qa, 0, none⟩) xs.length cap bl can pa ha fu).toArray) hBa (g := W2.heap.size) (by have := hP2.lt; omega) hBa.size
 change Code.wp Tryz.prog _ _ _ ((W2.alloc (.cells zeroPos.toArray 26)).setRow W2.heap.size (posCs F R (some ⟨qa, 0, none⟩) xs.length cap bl can pa ha fu).toArray)
 generalize (W2.alloc (.cells zeroPos.toArray 26)).setRow W2.heap.size (posCs F R (some ⟨qa, 0, none⟩) xs.length cap bl can pa ha fu).toArray = W5 at *
 clear hZ hBa hi ho hP2 hM2 hO2 hY hB2
 generalize W2.heap.size = q5 at *
 have hQ : BfQ w w.heap.size (w.heap.size + 1) (w.heap.size + 1 + 1) qa q5 := ⟨Nat.le_refl _, by omega, by omega, by omega, by omega⟩
 have hS : BfS w ⟨F, R, xs, bl, can, pa, ha, fu⟩ (some ⟨g, o, none⟩) cc r w.heap.size (w.heap.size + 1) (w.heap.size + 1 + 1) q5 qa cap xs (posCs F R (some ⟨qa, 0, none⟩) xs.length cap bl can pa ha fu) W5 := ⟨hB5, hP5, hM5, hO5, hY5, hT5⟩
 have hend := fun own ho Z hZ => bef_eq F R xs bl can pa ha fu r a b hra.out hrb.out own ho Z hZ
 have p0 : ∀ j, W5.cell? ⟨w.heap.size, j, none⟩ = (posCs F R (some ⟨g, o, none⟩) xs.length cc bl can pa ha fu).toArray[j]? := hS.p.cells
 have l0 := hS.p.lt
 have p1 : ∀ j, W5.cell? ⟨w.heap.size + 1, j, none⟩ = (#[.int .i64 r.mv.fr, .int .i64 r.mv.tg, .int .i8 r.mv.pr, .int .i8 r.cp, .int .i64 r.at_, .int .u8 r.ca, .int .i64 r.pa] : Array Value)[j]? := hS.m.cells
 have l1 := hS.m.lt
 rw [hrb.out] at p1
 obtain ⟨g', o', e3, hb5⟩ := arr_at (hx.call hS.b) (j := b) hlb
 injection e3 with e3
 injection e3 with e3 e4
 subst e3 e4
 have hib : (b : Int) < xs.length := by omega
 have hbnd : -6 ≤ xs[b]?.getD 0 ∧ xs[b]?.getD 0 ≤ 6 := by rw [List.getElem?_eq_getElem hlb]; exact h6 _ (List.getElem_mem hlb)
 generalize hzb : xs[b]?.getD 0 = y at *
 replace hzb := Lib.hid hzb
 replace hend := Lib.hid hend
 generalize hpr : r.mv.pr = pr at *
 replace hpr := Lib.hid hpr
 clear hP5 hM5 hO5 hY5 hT5 hB5
 go_upto_region 4 with fail
 rename_i k hk k2 hk2
 replace hk := Lib.hid hk
 have hlen : ∀ own : Int, (if 0 ≤ r.at_ ∧ r.at_ < ((casL.foldl (bckX F R own (!bl) r.mv.fr r.mv.tg) ((xs.set b 0).set a own)).length : Int) then (casL.foldl (bckX F R own (!bl) r.mv.fr r.mv.tg) ((xs.set b 0).set a own)).set r.at_.toNat r.cp else casL.foldl (bckX F R own (!bl) r.mv.fr r.mv.tg) ((xs.set b 0).set a own)).length = xs.length := fun own => by
  split <;> simp [fold_len]
 replace hlen := fun own => Lib.hid (hlen own)
 rcases z : (pr != 0) with _ | _
 ·have hpo : y = if pr ≠ 0 then pcI 1 (!bl) else y := by rw [if_neg (by simpa using z)]
  replace hpo := Lib.hid hpo
  go_wp2_with fail
  refine hk.out _ _ ?_
  refine bfS0 w F R xs bl can pa ha fu _ cc r w.heap.size (w.heap.size + 1) (w.heap.size + 1 + 1) q5 qa cap (!bl) (y) _ ?_ _ a b hra.out hrb.out hla hlb hg hlx hha hfu W5 hQ hS _ rfl (fun w' hb hY => ?_) _ ?_
  ·exact ⟨rfl, rfl, rfl, rfl, rfl, rfl, rfl⟩
  ·have h1 := hend.out (y) hpo.out _ rfl
   have h2 := (hlen (y)).out
   unfold BeforeR
   rw [h1]
   refine ⟨qa, cap, ?_, hb, by unfold BfQ at hQ; omega, hY⟩
   rw [h2]
  ·exact rfl
 ·have hpo : pcI 1 (!bl) = if pr ≠ 0 then pcI 1 (!bl) else y := by rw [if_pos (by simpa using z)]
  replace hpo := Lib.hid hpo
  go_wp2_with fail
  refine (of92_any 1 (!bl) (by decide) _).mono ?_
  rintro e W6 ⟨rfl, rfl⟩
  go_wp2_with fail
  refine hk.out _ _ ?_
  refine bfS0 w F R xs bl can pa ha fu _ cc r w.heap.size (w.heap.size + 1) (w.heap.size + 1 + 1) q5 qa cap (!bl) (pcI 1 (!bl)) _ ?_ _ a b hra.out hrb.out hla hlb hg hlx hha hfu W5 hQ hS _ rfl (fun w' hb hY => ?_) _ ?_
  ·exact ⟨rfl, rfl, rfl, rfl, rfl, rfl, rfl⟩
  ·have h1 := hend.out (pcI 1 (!bl)) hpo.out _ rfl
   have h2 := (hlen (pcI 1 (!bl))).out
   unfold BeforeR
   rw [h1]
   refine ⟨qa, cap, ?_, hb, by unfold BfQ at hQ; omega, hY⟩
   rw [h2]
  ·exact rfl
end Go.Proofs.YtefmplccbkmalaaGreatDoor
