import Derived.Test.YtefmplccbkmalaaGreatDoorF24
set_option maxHeartbeats 12800000
namespace Go.Proofs.YtefmplccbkmalaaGreatDoor
open Go.RowKit Go.Sort Go.BigFrame

structure MkS (w : World) (P : Pos) (pp : Option Addr) (cc : Nat) (m : Mv) (q0 q1 q2 q3 q4 qw qa cap : Nat) (wy : List Value) (ys : List Int) (row und : List Value) (W : World) : Prop where
 b : RowKit.Below w.heap.size w W
 p : HasO W q0 (.cells (posCs P.F P.R pp P.xs.length cc P.bl P.ca P.pa P.ha P.fu).toArray 26 (0, 0))
 m : HasO W q1 (.cells m.cs.toArray 40 (0, 0))
 e : HasO W q4 (.cells #[.int .i64 0] 31 (0, 0))
 w : HasO W qw (.cells wy.toArray 104 (0, 0))
 o : HasO W q2 (.cells row.toArray 26 (0, 0))
 y : OArr W qa cap ys
 u : HasO W q3 (.cells und.toArray 54 (0, 0))
section
variable {w : World} {P : Pos} {pp : Option Addr} {cc : Nat} {m : Mv} {q0 q1 q2 q3 q4 qw qa cap : Nat} {wy : List Value} {ys : List Int} {row und : List Value} {W W' : World}
theorem MkS.call (h : MkS w P pp cc m q0 q1 q2 q3 q4 qw qa cap wy ys row und W) (hb : RowKit.Below W.heap.size W W') : MkS w P pp cc m q0 q1 q2 q3 q4 qw qa cap wy ys row und W' :=
 ⟨below_call h.b h.b.size hb, h.p.call hb, h.m.call hb, h.e.call hb, h.w.call hb, h.o.call hb, h.y.call hb, h.u.call hb⟩
theorem MkS.set2 (hq : MkQ w q0 q1 q2 q3 q4 qw) (hqa : qw < qa) (h : MkS w P pp cc m q0 q1 q2 q3 q4 qw qa cap wy ys row und W) (i : Nat) (v : Value) : MkS w P pp cc m q0 q1 q2 q3 q4 qw qa cap wy ys (row.set i v) und (W.setCell ⟨q2, i, none⟩ v) := by
 unfold MkQ at hq
 have ho := h.o.set_ i v
 rw [List.setIfInBounds_toArray] at ho
 exact ⟨h.b.setCell (by show w.heap.size ≤ q2; omega) v, h.p.far (by show q0 ≠ q2; omega) v, h.m.far (by show q1 ≠ q2; omega) v, h.e.far (by show q4 ≠ q2; omega) v, h.w.far (by show qw ≠ q2; omega) v, ho, h.y.far (by show qa ≠ q2; omega) v, h.u.far (by show q3 ≠ q2; omega) v⟩
theorem MkS.set3 (hq : MkQ w q0 q1 q2 q3 q4 qw) (hqa : qw < qa) (h : MkS w P pp cc m q0 q1 q2 q3 q4 qw qa cap wy ys row und W) (i : Nat) (v : Value) : MkS w P pp cc m q0 q1 q2 q3 q4 qw qa cap wy ys row (und.set i v) (W.setCell ⟨q3, i, none⟩ v) := by
 unfold MkQ at hq
 have hu := h.u.set_ i v
 rw [List.setIfInBounds_toArray] at hu
 exact ⟨h.b.setCell (by show w.heap.size ≤ q3; omega) v, h.p.far (by show q0 ≠ q3; omega) v, h.m.far (by show q1 ≠ q3; omega) v, h.e.far (by show q4 ≠ q3; omega) v, h.w.far (by show qw ≠ q3; omega) v, h.o.far (by show q2 ≠ q3; omega) v, h.y.far (by show qa ≠ q3; omega) v, hu⟩
theorem MkS.setA (hq : MkQ w q0 q1 q2 q3 q4 qw) (hqa : qw < qa) (h : MkS w P pp cc m q0 q1 q2 q3 q4 qw qa cap wy ys row und W) (i : Nat) (v : Int) : MkS w P pp cc m q0 q1 q2 q3 q4 qw qa cap wy (ys.set i v) row und (W.setCell ⟨qa, i, none⟩ (.int .i8 v)) := by
 unfold MkQ at hq
 exact ⟨h.b.setCell (by show w.heap.size ≤ qa; omega) _, h.p.far (by show q0 ≠ qa; omega) _, h.m.far (by show q1 ≠ qa; omega) _, h.e.far (by show q4 ≠ qa; omega) _, h.w.far (by show qw ≠ qa; omega) _, h.o.far (by show q2 ≠ qa; omega) _, h.y.set i v, h.u.far (by show q3 ≠ qa; omega) _⟩
end
set_option maxRecDepth 100000 in
theorem mkS4c (w : World) (F R : Nat) (xs : List Int) (bl : Bool) (can : Nat) (pa ha fu : Int) (pp : Option Addr) (cc : Nat) (a b : Nat) (pr : Int) (q0 q1 q2 q3 q4 qw qa cap : Nat) (x : Int) (cb : Bool) (wy : List Value) (T : Array Value) (hT : MkT T q0 q1 q2 q3 q4 x qw cb) (ys : List Int) (u : Und) (Rs : Ending → World → Prop)
  (hfu : 0 ≤ fu ∧ fu ≤ 10000) (CA : Nat) (PA HA : Int)
  (W : World) (hQ : MkQ w q0 q1 q2 q3 q4 qw) (hqa : qw < qa) (hS : MkS w ⟨F, R, xs, bl, can, pa, ha, fu⟩ pp cc ⟨a, b, pr⟩ q0 q1 q2 q3 q4 qw qa cap wy ys (posCs F R (some ⟨qa, 0, none⟩) ys.length cap bl CA PA HA fu) u.cs W)
  (hnext : ∀ cd, Tryz.f23.body.map (sufC 23) = some cd → ∀ T' W', MkT T' q0 q1 q2 q3 q4 x qw cb →
   MkS w ⟨F, R, xs, bl, can, pa, ha, fu⟩ pp cc ⟨a, b, pr⟩ q0 q1 q2 q3 q4 qw qa cap wy ys (posCs F R (some ⟨qa, 0, none⟩) ys.length cap (!bl) CA PA HA (if bl then fu + 1 else fu)) u.cs W' →
   cd.wp Tryz.prog (bodyPostD Tryz.prog Tryz.f23 Rs) { tmps := T', defers := mkDs q4 q2 q3 } W')
  (cd : Code) (hcd : Tryz.f23.body.map (sufC 21) = some cd) : cd.wp Tryz.prog (bodyPostD Tryz.prog Tryz.f23 Rs) { tmps := T, defers := mkDs q4 q2 q3 } W := by
 obtain rfl := Option.some.inj ((show Tryz.f23.body.map (sufC 21) = some _ from rfl).symm.trans hcd)
 clear hcd
 simp only [sufC]
 obtain ⟨X, rfl⟩ := hT.fr
 clear hT
 unfold mkF
 have p1 : ∀ j, W.cell? ⟨q0, j, none⟩ = (posCs F R pp xs.length cc bl can pa ha fu).toArray[j]? := hS.p.cells
 have l2 := hS.p.lt
 have o1 := hS.o.cells 7
 have f1 := hS.o.frozen 7
 have l1 := hS.o.lt
 cases bl
 ·go_upto_region 35 with fail
  rename_i hk
  replace hk := Lib.hid hk
  clear o1 f1 l1
  have o1 := hS.o.cells 3
  have f1 := hS.o.frozen 3
  have l1 := hS.o.lt
  go_wp2_with fail
  have hS3 : MkS w ⟨F, R, xs, false, can, pa, ha, fu⟩ pp cc ⟨a, b, pr⟩ q0 q1 q2 q3 q4 qw qa cap wy ys (posCs F R (some ⟨qa, 0, none⟩) ys.length cap true CA PA HA fu) u.cs (W.setCell ⟨q2, 3, none⟩ (.bool true)) := hS.set2 hQ hqa 3 (.bool true)
  generalize W.setCell ⟨q2, 3, none⟩ (.bool true) = W3 at *
  refine hk.out _ _ ?_
  refine hnext _ rfl _ _ ?_ hS3
  exact ⟨rfl, rfl, rfl, rfl, rfl, rfl, rfl, rfl, rfl⟩
 ·go_upto_region 35 with fail
  rename_i hk
  replace hk := Lib.hid hk
  have hS2 : MkS w ⟨F, R, xs, true, can, pa, ha, fu⟩ pp cc ⟨a, b, pr⟩ q0 q1 q2 q3 q4 qw qa cap wy ys (posCs F R (some ⟨qa, 0, none⟩) ys.length cap true CA PA HA (fu + 1)) u.cs (W.setCell ⟨q2, 7, none⟩ (.int .i64 (fu + 1))) := hS.set2 hQ hqa 7 (.int .i64 (fu + 1))
  generalize W.setCell ⟨q2, 7, none⟩ (.int .i64 (fu + 1)) = W2 at *
  clear o1 f1 l1 p1 l2
  have p1 : ∀ j, W2.cell? ⟨q0, j, none⟩ = (posCs F R pp xs.length cc true can pa ha fu).toArray[j]? := hS2.p.cells
  have l2 := hS2.p.lt
  have o1 := hS2.o.cells 3
  have f1 := hS2.o.frozen 3
  have l1 := hS2.o.lt
  go_wp2_with fail
  have hS3 : MkS w ⟨F, R, xs, true, can, pa, ha, fu⟩ pp cc ⟨a, b, pr⟩ q0 q1 q2 q3 q4 qw qa cap wy ys (posCs F R (some ⟨qa, 0, none⟩) ys.length cap false CA PA HA (fu + 1)) u.cs (W2.setCell ⟨q2, 3, none⟩ (.bool false)) := hS2.set2 hQ hqa 3 (.bool false)
  generalize W2.setCell ⟨q2, 3, none⟩ (.bool false) = W3 at *
  refine hk.out _ _ ?_
  refine hnext _ rfl _ _ ?_ hS3
  exact ⟨rfl, rfl, rfl, rfl, rfl, rfl, rfl, rfl, rfl⟩
set_option maxRecDepth 100000 in
theorem mkS4b (w : World) (F R : Nat) (xs : List Int) (bl : Bool) (can : Nat) (pa ha fu : Int) (pp : Option Addr) (cc : Nat) (a b : Nat) (pr : Int) (q0 q1 q2 q3 q4 qw qa cap : Nat) (x : Int) (cb : Bool) (wy : List Value) (T : Array Value) (hT : MkT T q0 q1 q2 q3 q4 x qw cb) (ys : List Int) (u : Und) (Rs : Ending → World → Prop)
  (hx : -6 ≤ x ∧ x ≤ 6) (hha : 0 ≤ ha ∧ ha ≤ 10000) (hfu : 0 ≤ fu ∧ fu ≤ 10000) (CA : Nat) (PA : Int)
  (W : World) (hQ : MkQ w q0 q1 q2 q3 q4 qw) (hqa : qw < qa) (hS : MkS w ⟨F, R, xs, bl, can, pa, ha, fu⟩ pp cc ⟨a, b, pr⟩ q0 q1 q2 q3 q4 qw qa cap wy ys (posCs F R (some ⟨qa, 0, none⟩) ys.length cap bl CA PA ha fu) u.cs W)
  (hnext : ∀ cd, Tryz.f23.body.map (sufC 23) = some cd → ∀ T' W', MkT T' q0 q1 q2 q3 q4 x qw cb →
   MkS w ⟨F, R, xs, bl, can, pa, ha, fu⟩ pp cc ⟨a, b, pr⟩ q0 q1 q2 q3 q4 qw qa cap wy ys (posCs F R (some ⟨qa, 0, none⟩) ys.length cap (!bl) CA PA (if kindI x = 1 ∨ u.cp ≠ 0 then 0 else ha + 1) (if bl then fu + 1 else fu)) u.cs W' →
   cd.wp Tryz.prog (bodyPostD Tryz.prog Tryz.f23 Rs) { tmps := T', defers := mkDs q4 q2 q3 } W')
  (cd : Code) (hcd : Tryz.f23.body.map (sufC 19) = some cd) : cd.wp Tryz.prog (bodyPostD Tryz.prog Tryz.f23 Rs) { tmps := T, defers := mkDs q4 q2 q3 } W := by
 obtain rfl := Option.some.inj ((show Tryz.f23.body.map (sufC 19) = some _ from rfl).symm.trans hcd)
 clear hcd
 simp only [sufC]
 obtain ⟨X, rfl⟩ := hT.fr
 clear hT
 unfold mkF
 have hk := fun W => kind64_any x (by omega) W
 have o1 := hS.o.cells 6
 have f1 := hS.o.frozen 6
 have l1 := hS.o.lt
 go_upto_region 31 with fail
 have hS2 : MkS w ⟨F, R, xs, bl, can, pa, ha, fu⟩ pp cc ⟨a, b, pr⟩ q0 q1 q2 q3 q4 qw qa cap wy ys (posCs F R (some ⟨qa, 0, none⟩) ys.length cap bl CA PA (ha + 1) fu) u.cs (W.setCell ⟨q2, 6, none⟩ (.int .i64 (ha + 1))) := hS.set2 hQ hqa 6 (.int .i64 (ha + 1))
 generalize W.setCell ⟨q2, 6, none⟩ (.int .i64 (ha + 1)) = W2 at *
 clear o1 f1 l1 hS
 rename_i k33 hk33 k32 hk32
 replace hk33 := Lib.hid hk33
 have u1 := hS2.u.cells 3
 have ul := hS2.u.lt
 have o1 := hS2.o.cells 6
 have f1 := hS2.o.frozen 6
 have l1 := hS2.o.lt
 go_wp2_with fail
 refine (hk _).mono ?_
 rintro e W3 ⟨rfl, rfl⟩
 rcases z1 : (kindI x == 1) with _ | _
 ·rcases z2 : (u.cp != 0) with _ | _
  ·have hif : (if kindI x = 1 ∨ u.cp ≠ 0 then 0 else ha + 1) = (ha + 1) := if_neg (by simp at z1 z2; simp [z1, z2])
   rw [hif] at hnext
   clear hif
   go_wp2_with fail
   refine hk33.out _ _ ?_
   refine mkS4c w F R xs bl can pa ha fu pp cc a b pr q0 q1 q2 q3 q4 qw qa cap x cb wy _ ?_ ys u Rs hfu CA PA (ha + 1) W2 hQ hqa hS2 hnext _ ?_
   ·exact ⟨rfl, rfl, rfl, rfl, rfl, rfl, rfl, rfl, rfl⟩
   ·exact rfl
  ·have hif : (if kindI x = 1 ∨ u.cp ≠ 0 then 0 else ha + 1) = 0 := if_pos (by simp at z2; simp [z2])
   rw [hif] at hnext
   clear hif
   go_wp2_with fail
   have hS3 : MkS w ⟨F, R, xs, bl, can, pa, ha, fu⟩ pp cc ⟨a, b, pr⟩ q0 q1 q2 q3 q4 qw qa cap wy ys (posCs F R (some ⟨qa, 0, none⟩) ys.length cap bl CA PA 0 fu) u.cs (W2.setCell ⟨q2, 6, none⟩ (.int .i64 0)) := hS2.set2 hQ hqa 6 (.int .i64 0)
   generalize W2.setCell ⟨q2, 6, none⟩ (.int .i64 0) = W3 at *
   refine hk33.out _ _ ?_
   refine mkS4c w F R xs bl can pa ha fu pp cc a b pr q0 q1 q2 q3 q4 qw qa cap x cb wy _ ?_ ys u Rs hfu CA PA 0 W3 hQ hqa hS3 hnext _ ?_
   ·exact ⟨rfl, rfl, rfl, rfl, rfl, rfl, rfl, rfl, rfl⟩
   ·exact rfl
 ·have hif : (if kindI x = 1 ∨ u.cp ≠ 0 then 0 else ha + 1) = 0 := if_pos (by simp at z1; simp [z1])
  rw [hif] at hnext
  clear hif
  go_wp2_with fail
  have hS3 : MkS w ⟨F, R, xs, bl, can, pa, ha, fu⟩ pp cc ⟨a, b, pr⟩ q0 q1 q2 q3 q4 qw qa cap wy ys (posCs F R (some ⟨qa, 0, none⟩) ys.length cap bl CA PA 0 fu) u.cs (W2.setCell ⟨q2, 6, none⟩ (.int .i64 0)) := hS2.set2 hQ hqa 6 (.int .i64 0)
  generalize W2.setCell ⟨q2, 6, none⟩ (.int .i64 0) = W3 at *
  refine hk33.out _ _ ?_
  refine mkS4c w F R xs bl can pa ha fu pp cc a b pr q0 q1 q2 q3 q4 qw qa cap x cb wy _ ?_ ys u Rs hfu CA PA 0 W3 hQ hqa hS3 hnext _ ?_
  ·exact ⟨rfl, rfl, rfl, rfl, rfl, rfl, rfl, rfl, rfl⟩
  ·exact rfl
set_option maxRecDepth 100000 in
theorem mkS4 (w : World) (F R : Nat) (xs : List Int) (bl : Bool) (can : Nat) (pa ha fu : Int) (pp : Option Addr) (cc : Nat) (a b : Nat) (pr : Int) (q0 q1 q2 q3 q4 qw qa cap : Nat) (x : Int) (cb : Bool) (wy : List Value) (T : Array Value) (hT : MkT T q0 q1 q2 q3 q4 x qw cb) (ys : List Int) (u : Und) (Rs : Ending → World → Prop)
  (hF : 3 ≤ F ∧ F ≤ 8) (ha64 : a < 64) (hb64 : b < 64) (hx : -6 ≤ x ∧ x ≤ 6) (hca : can < 256) (hha : 0 ≤ ha ∧ ha ≤ 10000) (hfu : 0 ≤ fu ∧ fu ≤ 10000)
  (W : World) (hG : GlobU w) (hQ : MkQ w q0 q1 q2 q3 q4 qw) (hqa : qw < qa) (hS : MkS w ⟨F, R, xs, bl, can, pa, ha, fu⟩ pp cc ⟨a, b, pr⟩ q0 q1 q2 q3 q4 qw qa cap wy ys (posCs F R (some ⟨qa, 0, none⟩) ys.length cap bl can pa ha fu) u.cs W)
  (hnext : ∀ cd, Tryz.f23.body.map (sufC 23) = some cd → ∀ T' W', MkT T' q0 q1 q2 q3 q4 x qw cb →
   MkS w ⟨F, R, xs, bl, can, pa, ha, fu⟩ pp cc ⟨a, b, pr⟩ q0 q1 q2 q3 q4 qw qa cap wy ys (posCs F R (some ⟨qa, 0, none⟩) ys.length cap (!bl) (clrN can (lostW a ||| lostW b) : Nat) (if kindI x = 1 ∧ ((b : Int) - a = 2 * F ∨ (b : Int) - a = -(2 * F)) then (a : Int) + ((b : Int) - a) / 2 else -1) (if kindI x = 1 ∨ u.cp ≠ 0 then 0 else ha + 1) (if bl then fu + 1 else fu)) u.cs W' →
   cd.wp Tryz.prog (bodyPostD Tryz.prog Tryz.f23 Rs) { tmps := T', defers := mkDs q4 q2 q3 } W')
  (cd : Code) (hcd : Tryz.f23.body.map (sufC 16) = some cd) : cd.wp Tryz.prog (bodyPostD Tryz.prog Tryz.f23 Rs) { tmps := T, defers := mkDs q4 q2 q3 } W := by
 obtain rfl := Option.some.inj ((show Tryz.f23.body.map (sufC 16) = some _ from rfl).symm.trans hcd)
 clear hcd
 simp only [sufC]
 obtain ⟨X, rfl⟩ := hT.fr
 clear hT
 unfold mkF
 have hk := fun W => kind64_any x (by omega) W
 have t1 := call_gr (w := W) (fun W' h => lost66_any a W' ((hG.call hS.b).call h))
 have t2 := call_gr (w := W) (fun W' h => lost66_any b W' ((hG.call hS.b).call h))
 have b1 : lostW a < 256 := orK_lt _ _
 have b2 : lostW b < 256 := orK_lt _ _
 have b3 : lostW a ||| lostW b < 256 := Nat.or_lt_two_pow (n := 8) b1 b2
 have hcl : clrN can (lostW a ||| lostW b) = can &&& (255 - (lostW a ||| lostW b)) := rfl
 generalize clrN can (lostW a ||| lostW b) = CA at *
 generalize lostW a = L1 at *
 generalize lostW b = L2 at *
 have m2 := row_gr hS.o
 have m1 : ∀ d os j, (grow (redrawn W d) os).cell? ⟨q1, j, none⟩ = (#[.int .i64 (a : Int), .int .i64 (b : Int), .int .i8 pr] : Array Value)[j]? := row_gr hS.m
 go_upto_region 25 with fail
 refine wp_region_tail 11 (by kernel_rfl) (by kernel_rfl) ?_
 simp only [List.take_succ_cons, List.take_zero, List.drop_succ_cons, List.drop_zero]
 repeat (go_big_quiet_step (first | with_reducible exact t1 _ _ | with_reducible exact t2 _ _))
 refine wpQuiet_nil ?_
 intro W2 hb2
 have hS2 := hS.call hb2
 clear hS m1 m2 t1 t2 hb2
 have e1 := u8_andNot_nat can (L1 ||| L2) hca b3
 rw [← hcl] at e1
 have ev : bits .andNot .u8 (can : Int) (bits .or .u8 (L1 : Int) (L2 : Int)) = (CA : Int) := by rw [u8_or_nat L1 L2 b1 b2, e1]
 clear e1 hcl
 have o1 := hS2.o.cells 4
 have f1 := hS2.o.frozen 4
 have l1 := hS2.o.lt
 go_upto_region 26 with fail
 have hS3 : MkS w ⟨F, R, xs, bl, can, pa, ha, fu⟩ pp cc ⟨a, b, pr⟩ q0 q1 q2 q3 q4 qw qa cap wy ys (posCs F R (some ⟨qa, 0, none⟩) ys.length cap bl CA pa ha fu) u.cs (W2.setCell ⟨q2, 4, none⟩ (.int .u8 (CA : Nat))) := hS2.set2 hQ hqa 4 (.int .u8 (CA : Nat))
 generalize W2.setCell ⟨q2, 4, none⟩ (.int .u8 (CA : Nat)) = W3 at *
 clear o1 f1 l1 ev hS2 b1 b2 b3
 have o1 := hS3.o.cells 5
 have f1 := hS3.o.frozen 5
 have l1 := hS3.o.lt
 go_upto_region 27 with fail
 have hS4 : MkS w ⟨F, R, xs, bl, can, pa, ha, fu⟩ pp cc ⟨a, b, pr⟩ q0 q1 q2 q3 q4 qw qa cap wy ys (posCs F R (some ⟨qa, 0, none⟩) ys.length cap bl CA (-1) ha fu) u.cs (W3.setCell ⟨q2, 5, none⟩ (.int .i64 (-1))) := hS3.set2 hQ hqa 5 (.int .i64 (-1))
 generalize W3.setCell ⟨q2, 5, none⟩ (.int .i64 (-1)) = W4 at *
 clear o1 f1 l1 hS3
 have p1 : ∀ j, W4.cell? ⟨q1, j, none⟩ = (#[.int .i64 (a : Int), .int .i64 (b : Int), .int .i8 pr] : Array Value)[j]? := hS4.m.cells
 have l1 := hS4.m.lt
 have p2 : ∀ j, W4.cell? ⟨q0, j, none⟩ = (posCs F R pp xs.length cc bl can pa ha fu).toArray[j]? := hS4.p.cells
 have l2 := hS4.p.lt
 rename_i k19 hk19 k28 hk28
 replace hk19 := Lib.hid hk19
 have o1o := hS4.o.cells 5
 have f1o := hS4.o.frozen 5
 have l1o := hS4.o.lt
 go_wp2_with fail
 refine (hk _).mono ?_
 rintro e W5 ⟨rfl, rfl⟩
 rcases z1 : (kindI x == 1) with _ | _
 ·have hif : (if kindI x = 1 ∧ ((b : Int) - a = 2 * F ∨ (b : Int) - a = -(2 * F)) then (a : Int) + ((b : Int) - a) / 2 else -1) = -1 := if_neg (by simp at z1; simp [z1])
  rw [hif] at hnext
  clear hif
  go_wp2_with fail
  refine hk19.out _ _ ?_
  refine mkS4b w F R xs bl can pa ha fu pp cc a b pr q0 q1 q2 q3 q4 qw qa cap x cb wy _ ?_ ys u Rs hx hha hfu CA (-1) W4 hQ hqa hS4 hnext _ ?_
  ·exact ⟨rfl, rfl, rfl, rfl, rfl, rfl, rfl, rfl, rfl⟩
  ·exact rfl
 ·rcases z2 : (((b : Int) - a) == 2 * F) with _ | _
  ·rcases z3 : (((b : Int) - a) == -2 * F) with _ | _
   ·have hif : (if kindI x = 1 ∧ ((b : Int) - a = 2 * F ∨ (b : Int) - a = -(2 * F)) then (a : Int) + ((b : Int) - a) / 2 else -1) = -1 := if_neg (by simp at z2 z3; rintro ⟨_, h | h⟩ <;> omega)
    rw [hif] at hnext
    clear hif
    go_wp2_with fail
    refine hk19.out _ _ ?_
    refine mkS4b w F R xs bl can pa ha fu pp cc a b pr q0 q1 q2 q3 q4 qw qa cap x cb wy _ ?_ ys u Rs hx hha hfu CA (-1) W4 hQ hqa hS4 hnext _ ?_
    ·exact ⟨rfl, rfl, rfl, rfl, rfl, rfl, rfl, rfl, rfl⟩
    ·exact rfl
   ·have hif : (if kindI x = 1 ∧ ((b : Int) - a = 2 * F ∨ (b : Int) - a = -(2 * F)) then (a : Int) + ((b : Int) - a) / 2 else -1) = (a : Int) + ((b : Int) - a) / 2 := if_pos (by simp at z1 z3; exact ⟨z1, .inr (by omega)⟩)
    rw [hif] at hnext
    clear hif
    have ev : Hid (wrap64 ((a : Int) + ((b : Int) - a).tdiv 2) = (a : Int) + ((b : Int) - a) / 2) := Lib.hid (by
     have h1 : (b : Int) - a = 2 * (-(F : Int)) := by simp at z3; omega
     rw [h1, Int.mul_tdiv_cancel_left _ (by decide : (2 : Int) ≠ 0)]
     rw [IntWalk.wrap64_in _ (by omega)]; omega)
    go_wp2_with fail
    rw [ev.out]
    have hS5 : MkS w ⟨F, R, xs, bl, can, pa, ha, fu⟩ pp cc ⟨a, b, pr⟩ q0 q1 q2 q3 q4 qw qa cap wy ys (posCs F R (some ⟨qa, 0, none⟩) ys.length cap bl CA ((a : Int) + ((b : Int) - a) / 2) ha fu) u.cs (W4.setCell ⟨q2, 5, none⟩ (.int .i64 ((a : Int) + ((b : Int) - a) / 2))) := hS4.set2 hQ hqa 5 (.int .i64 ((a : Int) + ((b : Int) - a) / 2))
    generalize W4.setCell ⟨q2, 5, none⟩ (.int .i64 ((a : Int) + ((b : Int) - a) / 2)) = W5 at *
    refine hk19.out _ _ ?_
    refine mkS4b w F R xs bl can pa ha fu pp cc a b pr q0 q1 q2 q3 q4 qw qa cap x cb wy _ ?_ ys u Rs hx hha hfu CA ((a : Int) + ((b : Int) - a) / 2) W5 hQ hqa hS5 hnext _ ?_
    ·exact ⟨rfl, rfl, rfl, rfl, rfl, rfl, rfl, rfl, rfl⟩
    ·exact rfl
  ·have hif : (if kindI x = 1 ∧ ((b : Int) - a = 2 * F ∨ (b : Int) - a = -(2 * F)) then (a : Int) + ((b : Int) - a) / 2 else -1) = (a : Int) + ((b : Int) - a) / 2 := if_pos (by simp at z1 z2; exact ⟨z1, .inl z2⟩)
   rw [hif] at hnext
   clear hif
   have ev : Hid (wrap64 ((a : Int) + ((b : Int) - a).tdiv 2) = (a : Int) + ((b : Int) - a) / 2) := Lib.hid (by
    have h1 : (b : Int) - a = 2 * (F : Int) := by simpa using z2
    rw [h1, Int.mul_tdiv_cancel_left _ (by decide : (2 : Int) ≠ 0)]
    rw [IntWalk.wrap64_in _ (by omega)]; omega)
   go_wp2_with fail
   rw [ev.out]
   have hS5 : MkS w ⟨F, R, xs, bl, can, pa, ha, fu⟩ pp cc ⟨a, b, pr⟩ q0 q1 q2 q3 q4 qw qa cap wy ys (posCs F R (some ⟨qa, 0, none⟩) ys.length cap bl CA ((a : Int) + ((b : Int) - a) / 2) ha fu) u.cs (W4.setCell ⟨q2, 5, none⟩ (.int .i64 ((a : Int) + ((b : Int) - a) / 2))) := hS4.set2 hQ hqa 5 (.int .i64 ((a : Int) + ((b : Int) - a) / 2))
   generalize W4.setCell ⟨q2, 5, none⟩ (.int .i64 ((a : Int) + ((b : Int) - a) / 2)) = W5 at *
   refine hk19.out _ _ ?_
   refine mkS4b w F R xs bl can pa ha fu pp cc a b pr q0 q1 q2 q3 q4 qw qa cap x cb wy _ ?_ ys u Rs hx hha hfu CA ((a : Int) + ((b : Int) - a) / 2) W5 hQ hqa hS5 hnext _ ?_
   ·exact ⟨rfl, rfl, rfl, rfl, rfl, rfl, rfl, rfl, rfl⟩
   ·exact rfl
def casX (wo : Option Cas) (ys : List Int) : List Int := match wo with | some c => (ys.set c.cr (ys[c.co]?.getD 0)).set c.co 0 | none => ys
set_option maxRecDepth 100000 in
theorem mkS3c (w : World) (F R : Nat) (xs : List Int) (bl : Bool) (can : Nat) (pa ha fu : Int) (pp : Option Addr) (cc : Nat) (a b : Nat) (pr : Int) (q0 q1 q2 q3 q4 qw qa cap : Nat) (x : Int) (cb : Bool) (wy : List Value) (T : Array Value) (hT : MkT T q0 q1 q2 q3 q4 x qw cb) (ys : List Int) (u : Und) (Rs : Ending → World → Prop)
  (hly : ys.length = xs.length) (hlb : b < xs.length) (hpr : pr = 0 ∨ (2 ≤ pr ∧ pr ≤ 5)) (wo : Option Cas) (hwy : wy = casCs wo) (hwo : cb = true → ∃ c, wo = some c ∧ c.cr < xs.length ∧ c.co < xs.length)
  (W : World) (hQ : MkQ w q0 q1 q2 q3 q4 qw) (hqa : qw < qa) (hS : MkS w ⟨F, R, xs, bl, can, pa, ha, fu⟩ pp cc ⟨a, b, pr⟩ q0 q1 q2 q3 q4 qw qa cap wy ys (posCs F R (some ⟨qa, 0, none⟩) xs.length cap bl can pa ha fu) u.cs W)
  (hnext : ∀ cd, Tryz.f23.body.map (sufC 16) = some cd → ∀ T' W', MkT T' q0 q1 q2 q3 q4 x qw cb →
   MkS w ⟨F, R, xs, bl, can, pa, ha, fu⟩ pp cc ⟨a, b, pr⟩ q0 q1 q2 q3 q4 qw qa cap wy (if pr ≠ 0 then ys.set b (if bl then -pr else pr) else if cb then casX wo ys else ys) (posCs F R (some ⟨qa, 0, none⟩) xs.length cap bl can pa ha fu) u.cs W' →
   cd.wp Tryz.prog (bodyPostD Tryz.prog Tryz.f23 Rs) { tmps := T', defers := mkDs q4 q2 q3 } W')
  (cd : Code) (hcd : Tryz.f23.body.map (sufC 15) = some cd) : cd.wp Tryz.prog (bodyPostD Tryz.prog Tryz.f23 Rs) { tmps := T, defers := mkDs q4 q2 q3 } W := by
 obtain rfl := Option.some.inj ((show Tryz.f23.body.map (sufC 15) = some _ from rfl).symm.trans hcd)
 clear hcd
 simp only [sufC]
 obtain ⟨X, rfl⟩ := hT.fr
 clear hT
 unfold mkF
 have p1 : ∀ j, W.cell? ⟨q1, j, none⟩ = (#[.int .i64 (a : Int), .int .i64 (b : Int), .int .i8 pr] : Array Value)[j]? := hS.m.cells
 have l1 := hS.m.lt
 have p0 : ∀ j, W.cell? ⟨q0, j, none⟩ = (posCs F R pp xs.length cc bl can pa ha fu).toArray[j]? := hS.p.cells
 have l0 := hS.p.lt
 have p2 := hS.o.cells
 have l2 := hS.o.lt
 have lq := hS.y.lt
 have hyb := hS.y.cell (j := b) (by omega)
 have hyf := hS.y.frozen b
 have hii : (b : Int) < xs.length := by omega
 replace hly := Lib.hid hly
 go_upto_region 19 with fail
 rename_i k16 hk16 k20 hk20
 replace hk16 := Lib.hid hk16
 rcases zpr : (pr != 0) with _ | _
 ·have zp : pr = 0 := by simpa using zpr
  rw [if_neg (by simp [zp])] at hnext
  rcases cb with _ | _
  ·rw [if_neg (by simp)] at hnext
   go_wp2_with fail
   refine hk16.out _ _ ?_
   refine hnext _ rfl _ _ ?_ hS
   exact ⟨rfl, rfl, rfl, rfl, rfl, rfl, rfl, rfl, rfl⟩
  ·obtain ⟨c, rfl, hc1, hc2⟩ := hwo rfl
   simp only [if_true, casX] at hnext
   subst hwy
   have hi1 : (c.cr : Int) < xs.length := by omega
   have hi2 : (c.co : Int) < xs.length := by omega
   go_upto_region 24 with fail
   have hv := hS.y.cell (j := c.co) (by have := hly.out; omega)
   have hv2 := hS.y.cell (j := c.cr) (by have := hly.out; omega)
   generalize ys[c.co]?.getD 0 = v at *
   have hf2 := hS.y.frozen c.cr
   obtain ⟨Wk, hWk⟩ : ∃ Wk : Nat → World, Wk = fun k => match k with | 0 => W | 1 => W.setCell ⟨qa, c.cr, none⟩ (.int .i8 v) | _ => (W.setCell ⟨qa, c.cr, none⟩ (.int .i8 v)).setCell ⟨qa, c.co, none⟩ (.int .i8 0) := ⟨_, rfl⟩
   have hW0 : Wk 0 = W := by subst hWk; rfl
   have hW1 : Wk (0 + 1) = (Wk 0).setCell ⟨qa, c.cr, none⟩ (.int .i8 v) := by subst hWk; rfl
   have hW2 : Wk (1 + 1) = (Wk 1).setCell ⟨qa, c.co, none⟩ (.int .i8 0) := by subst hWk; rfl
   have hS1 := hS.setA hQ hqa c.cr v
   have hS2 := hS1.setA hQ hqa c.co 0
   have m2 := row_grk (Wk := Wk) (q := q2) (fun k => by
    subst hWk
    rcases k with _ | _ | k
    ·exact hS.o
    ·exact hS1.o
    ·exact hS2.o)
   have m3 := row_grk (Wk := Wk) (q := qw) (fun k => by
    subst hWk
    rcases k with _ | _ | k
    ·exact hS.w
    ·exact hS1.w
    ·exact hS2.w)
   have m3' : ∀ k d os j, (grow (redrawn (Wk k) d) os).cell? ⟨qw, j, none⟩ = c.cs.toArray[j]? := m3
   have hSk : MkS w ⟨F, R, xs, bl, can, pa, ha, fu⟩ pp cc ⟨a, b, pr⟩ q0 q1 q2 q3 q4 qw qa cap (casCs (some c)) ((ys.set c.cr v).set c.co 0) (posCs F R (some ⟨qa, 0, none⟩) xs.length cap bl can pa ha fu) u.cs (Wk [15, 17].length) := by subst hWk; exact hS2
   have c15 : (Wk 0).cell? ⟨qa, c.cr, none⟩ = some (.int .i8 (ys[c.cr]?.getD 0)) := by rw [hW0]; exact hv2
   have g15 : (Wk 0).frozen? ⟨qa, c.cr, none⟩ = false := by rw [hW0]; exact hf2
   have hy1 : OArr (Wk 1) qa cap (ys.set c.cr v) := by subst hWk; exact hS1.y
   have c17 := hy1.cell (j := c.co) (by rw [List.length_set]; have := hly.out; omega)
   have g17 := hy1.frozen c.co
   have n1 := cell_regrown (w := Wk 0) (a := ⟨qa, c.co, none⟩) (by rw [hW0]; exact hv)
   clear hWk m3 hyb hyf hii p1 p0 p2 l0 l1 l2 hv hf2 hS1 hS2
   replace hW1 := Lib.hid hW1
   replace hW2 := Lib.hid hW2
   refine wp_region_turn [15, 17] [(0, 0), (0, 0), (0, 0), (0, 0), (0, 1), (0, 1), (0, 1), (0, 1), (0, 0), (0, 0), (0, 0), (0, 0), (0, 0), (0, 0), (0, 0), (9, 9), (1, 1)] Wk (by kernel_rfl) (by kernel_rfl) hW0 ?_
   replace hW0 := Lib.hid hW0
   iterate 4 (refine wpT_q 0 rfl rfl ?_; go_big_quiet_step (fail); refine wpQuiet_nil ?_)
   iterate 4 (refine wpT_f rfl rfl ?_; go_big_quiet_step (fail); refine wpQuiet_nil ?_)
   iterate 7 (refine wpT_q 0 rfl rfl ?_; go_big_quiet_step (fail); refine wpQuiet_nil ?_)
   refine wpT_s 0 rfl rfl 38 (.tmp 195) (.tmp 194) rfl rfl rfl (by kernel_rfl) rfl c15 g15 hW1.out rfl ?_
   refine wpT_q 1 rfl rfl ?_
   go_big_quiet_step (fail)
   refine wpQuiet_nil ?_
   refine wpT_s 1 rfl rfl 38 (.tmp 196) (.const (.int .i8 0)) rfl rfl rfl (by kernel_rfl) rfl c17 g17 hW2.out rfl ?_
   refine wpT_nil ?_
   intro W6 hb6
   have hS6 := hSk.call hb6
   clear m2 m3'
   go_wp2_with fail
   refine hk16.out _ _ ?_
   refine hnext _ rfl _ _ ?_ hS6
   exact ⟨rfl, rfl, rfl, rfl, rfl, rfl, rfl, rfl, rfl⟩
 ·have zp : pr ≠ 0 := by simpa using zpr
  rw [if_pos zp] at hnext
  have nw : IntKind.i8.wrap (-pr) = -pr := i8_in (by omega) (by omega)
  cases bl
  ·simp only [Bool.false_eq_true, if_false] at hnext
   go_wp2_with fail
   have hS2 : MkS w ⟨F, R, xs, false, can, pa, ha, fu⟩ pp cc ⟨a, b, pr⟩ q0 q1 q2 q3 q4 qw qa cap wy (ys.set b pr) (posCs F R (some ⟨qa, 0, none⟩) xs.length cap false can pa ha fu) u.cs (W.setCell ⟨qa, b, none⟩ (.int .i8 (pr))) := hS.setA hQ hqa b (pr)
   generalize W.setCell ⟨qa, b, none⟩ (.int .i8 (pr)) = W2 at *
   refine hk16.out _ _ ?_
   refine hnext _ rfl _ _ ?_ hS2
   exact ⟨rfl, rfl, rfl, rfl, rfl, rfl, rfl, rfl, rfl⟩
  ·simp only [if_true] at hnext
   go_wp2_with fail
   have hS2 : MkS w ⟨F, R, xs, true, can, pa, ha, fu⟩ pp cc ⟨a, b, pr⟩ q0 q1 q2 q3 q4 qw qa cap wy (ys.set b (-pr)) (posCs F R (some ⟨qa, 0, none⟩) xs.length cap true can pa ha fu) u.cs (W.setCell ⟨qa, b, none⟩ (.int .i8 (-pr))) := hS.setA hQ hqa b (-pr)
   generalize W.setCell ⟨qa, b, none⟩ (.int .i8 (-pr)) = W2 at *
   refine hk16.out _ _ ?_
   refine hnext _ rfl _ _ ?_ hS2
   exact ⟨rfl, rfl, rfl, rfl, rfl, rfl, rfl, rfl, rfl⟩
set_option maxRecDepth 100000 in
theorem mkS3d (w : World) (F R : Nat) (xs : List Int) (bl : Bool) (can : Nat) (pa ha fu : Int) (pp : Option Addr) (cc : Nat) (a b : Nat) (pr : Int) (q0 q1 q2 q3 q4 qw qa cap : Nat) (x : Int) (cb : Bool) (wy : List Value) (T : Array Value) (hT : MkT T q0 q1 q2 q3 q4 x qw cb) (ys : List Int) (u : Und) (Rs : Ending → World → Prop)
  (hly : ys.length = xs.length) (hla : a < xs.length) (hlb : b < xs.length)
  (W : World) (hQ : MkQ w q0 q1 q2 q3 q4 qw) (hqa : qw < qa) (hS : MkS w ⟨F, R, xs, bl, can, pa, ha, fu⟩ pp cc ⟨a, b, pr⟩ q0 q1 q2 q3 q4 qw qa cap wy ys (posCs F R (some ⟨qa, 0, none⟩) xs.length cap bl can pa ha fu) u.cs W)
  (hnext : ∀ cd, Tryz.f23.body.map (sufC 15) = some cd → ∀ T' W', MkT T' q0 q1 q2 q3 q4 x qw cb →
   MkS w ⟨F, R, xs, bl, can, pa, ha, fu⟩ pp cc ⟨a, b, pr⟩ q0 q1 q2 q3 q4 qw qa cap wy ((ys.set a 0).set b x) (posCs F R (some ⟨qa, 0, none⟩) xs.length cap bl can pa ha fu) u.cs W' →
   cd.wp Tryz.prog (bodyPostD Tryz.prog Tryz.f23 Rs) { tmps := T', defers := mkDs q4 q2 q3 } W')
  (cd : Code) (hcd : Tryz.f23.body.map (sufC 14) = some cd) : cd.wp Tryz.prog (bodyPostD Tryz.prog Tryz.f23 Rs) { tmps := T, defers := mkDs q4 q2 q3 } W := by
 obtain rfl := Option.some.inj ((show Tryz.f23.body.map (sufC 14) = some _ from rfl).symm.trans hcd)
 clear hcd
 simp only [sufC]
 obtain ⟨X, rfl⟩ := hT.fr
 clear hT
 unfold mkF
 have p1 : ∀ j, W.cell? ⟨q1, j, none⟩ = (#[.int .i64 (a : Int), .int .i64 (b : Int), .int .i8 pr] : Array Value)[j]? := hS.m.cells
 have hi1 : (a : Int) < xs.length := by omega
 have hi2 : (b : Int) < xs.length := by omega
 have hv := hS.y.cell (j := a) (by omega)
 have hf2 := hS.y.frozen a
 obtain ⟨Wk, hWk⟩ : ∃ Wk : Nat → World, Wk = fun k => match k with | 0 => W | 1 => W.setCell ⟨qa, a, none⟩ (.int .i8 0) | _ => (W.setCell ⟨qa, a, none⟩ (.int .i8 0)).setCell ⟨qa, b, none⟩ (.int .i8 x) := ⟨_, rfl⟩
 have hW0 : Wk 0 = W := by subst hWk; rfl
 have hW1 : Wk (0 + 1) = (Wk 0).setCell ⟨qa, a, none⟩ (.int .i8 0) := by subst hWk; rfl
 have hW2 : Wk (1 + 1) = (Wk 1).setCell ⟨qa, b, none⟩ (.int .i8 x) := by subst hWk; rfl
 have hS1 := hS.setA hQ hqa a 0
 have hS2 := hS1.setA hQ hqa b x
 have m2 := row_grk (Wk := Wk) (q := q2) (fun k => by
  subst hWk
  rcases k with _ | _ | k
  ·exact hS.o
  ·exact hS1.o
  ·exact hS2.o)
 have m3 := row_grk (Wk := Wk) (q := q1) (fun k => by
  subst hWk
  rcases k with _ | _ | k
  ·exact hS.m
  ·exact hS1.m
  ·exact hS2.m)
 have m3' : ∀ k d os j, (grow (redrawn (Wk k) d) os).cell? ⟨q1, j, none⟩ = (#[.int .i64 (a : Int), .int .i64 (b : Int), .int .i8 pr] : Array Value)[j]? := m3
 have hSk : MkS w ⟨F, R, xs, bl, can, pa, ha, fu⟩ pp cc ⟨a, b, pr⟩ q0 q1 q2 q3 q4 qw qa cap wy ((ys.set a 0).set b x) (posCs F R (some ⟨qa, 0, none⟩) xs.length cap bl can pa ha fu) u.cs (Wk [10, 12].length) := by subst hWk; exact hS2
 have c15 : (Wk 0).cell? ⟨qa, a, none⟩ = some (.int .i8 (ys[a]?.getD 0)) := by rw [hW0]; exact hv
 have g15 : (Wk 0).frozen? ⟨qa, a, none⟩ = false := by rw [hW0]; exact hf2
 have hy1 : OArr (Wk 1) qa cap (ys.set a 0) := by subst hWk; exact hS1.y
 have c17 := hy1.cell (j := b) (by rw [List.length_set]; omega)
 have g17 := hy1.frozen b
 clear hWk m3 p1 hv hf2 hS1 hS2
 replace hly := Lib.hid hly
 replace hW1 := Lib.hid hW1
 replace hW2 := Lib.hid hW2
 go_upto_region 18 with fail
 rename_i k15 hk15
 replace hk15 := Lib.hid hk15
 dsimp only
 refine wp_region_turn [10, 12] [(0, 0), (0, 0), (0, 0), (0, 0), (0, 1), (0, 1), (0, 1), (0, 1), (0, 1), (0, 0), (9, 9), (1, 1)] Wk (by kernel_rfl) (by kernel_rfl) hW0 ?_
 replace hW0 := Lib.hid hW0
 iterate 4 (refine wpT_q 0 rfl rfl ?_; go_big_quiet_step (fail); refine wpQuiet_nil ?_)
 iterate 5 (refine wpT_f rfl rfl ?_; go_big_quiet_step (fail); refine wpQuiet_nil ?_)
 refine wpT_q 0 rfl rfl ?_
 go_big_quiet_step (fail)
 refine wpQuiet_nil ?_
 refine wpT_s 0 rfl rfl 38 (.tmp 150) (.const (.int .i8 0)) rfl rfl rfl (by kernel_rfl) rfl c15 g15 hW1.out rfl ?_
 refine wpT_q 1 rfl rfl ?_
 go_big_quiet_step (fail)
 refine wpQuiet_nil ?_
 refine wpT_s 1 rfl rfl 38 (.tmp 151) (.tmp 149) rfl rfl rfl (by kernel_rfl) rfl c17 g17 hW2.out rfl ?_
 refine wpT_nil ?_
 intro W6 hb6
 have hS6 := hSk.call hb6
 clear m2 m3'
 go_wp2_with fail
 refine hk15.out _ _ ?_
 refine hnext _ rfl _ _ ?_ hS6
 exact ⟨rfl, rfl, rfl, rfl, rfl, rfl, rfl, rfl, rfl⟩
set_option maxRecDepth 100000 in
theorem mkS3b (w : World) (F R : Nat) (xs : List Int) (bl : Bool) (can : Nat) (pa ha fu : Int) (pp : Option Addr) (cc : Nat) (a b : Nat) (pr : Int) (q0 q1 q2 q3 q4 qw qa cap : Nat) (x : Int) (cb : Bool) (wy : List Value) (T : Array Value) (hT : MkT T q0 q1 q2 q3 q4 x qw cb) (ys : List Int) (u : Und) (Rs : Ending → World → Prop)
  (hly : ys.length = xs.length) (hla : a < xs.length) (hlb : b < xs.length) (hat : u.at_ = -1 ∨ ∃ k : Nat, u.at_ = k ∧ k < xs.length)
  (W : World) (hQ : MkQ w q0 q1 q2 q3 q4 qw) (hqa : qw < qa) (hS : MkS w ⟨F, R, xs, bl, can, pa, ha, fu⟩ pp cc ⟨a, b, pr⟩ q0 q1 q2 q3 q4 qw qa cap wy ys (posCs F R (some ⟨qa, 0, none⟩) xs.length cap bl can pa ha fu) u.cs W)
  (hnext : ∀ cd, Tryz.f23.body.map (sufC 15) = some cd → ∀ T' W', MkT T' q0 q1 q2 q3 q4 x qw cb →
   MkS w ⟨F, R, xs, bl, can, pa, ha, fu⟩ pp cc ⟨a, b, pr⟩ q0 q1 q2 q3 q4 qw qa cap wy (((if 0 ≤ u.at_ then ys.set u.at_.toNat 0 else ys).set a 0).set b x) (posCs F R (some ⟨qa, 0, none⟩) xs.length cap bl can pa ha fu) u.cs W' →
   cd.wp Tryz.prog (bodyPostD Tryz.prog Tryz.f23 Rs) { tmps := T', defers := mkDs q4 q2 q3 } W')
  (cd : Code) (hcd : Tryz.f23.body.map (sufC 13) = some cd) : cd.wp Tryz.prog (bodyPostD Tryz.prog Tryz.f23 Rs) { tmps := T, defers := mkDs q4 q2 q3 } W := by
 obtain rfl := Option.some.inj ((show Tryz.f23.body.map (sufC 13) = some _ from rfl).symm.trans hcd)
 clear hcd
 simp only [sufC]
 obtain ⟨X, rfl⟩ := hT.fr
 clear hT
 unfold mkF
 have p1 : ∀ j, W.cell? ⟨q3, j, none⟩ = (#[.int .i64 u.mv.fr, .int .i64 u.mv.tg, .int .i8 u.mv.pr, .int .i8 u.cp, .int .i64 u.at_, .int .u8 u.ca, .int .i64 u.pa, .int .i64 u.ha, .int .i64 u.fu] : Array Value)[j]? := hS.u.cells
 have l1 := hS.u.lt
 have p2 := hS.o.cells
 have l2 := hS.o.lt
 have lq := hS.y.lt
 go_upto_region 16 with fail
 rename_i k14 hk14 k17 hk17
 replace hk14 := Lib.hid hk14
 obtain ⟨t, ht⟩ : ∃ t, t = u.at_ := ⟨_, rfl⟩
 rw [← ht] at p1 hat hnext
 replace ht := Lib.hid ht
 rcases hat with rfl | ⟨k, rfl, hk⟩
 ·rw [if_neg (by omega)] at hnext
  replace hly := Lib.hid hly
  go_wp2_with fail
  refine hk14.out _ _ ?_
  refine mkS3d w F R xs bl can pa ha fu pp cc a b pr q0 q1 q2 q3 q4 qw qa cap x cb wy _ ?_ ys u Rs hly.out hla hlb W hQ hqa hS hnext _ ?_
  ·exact ⟨rfl, rfl, rfl, rfl, rfl, rfl, rfl, rfl, rfl⟩
  ·exact rfl
 ·rw [if_pos (by omega), Int.toNat_natCast] at hnext
  have hkk : (k : Int) < xs.length := by omega
  have hv := hS.y.cell (j := k) (by omega)
  have hf2 := hS.y.frozen k
  replace hly := Lib.hid hly
  go_wp2_with fail
  have hS2 : MkS w ⟨F, R, xs, bl, can, pa, ha, fu⟩ pp cc ⟨a, b, pr⟩ q0 q1 q2 q3 q4 qw qa cap wy (ys.set k 0) (posCs F R (some ⟨qa, 0, none⟩) xs.length cap bl can pa ha fu) u.cs (W.setCell ⟨qa, k, none⟩ (.int .i8 (0))) := hS.setA hQ hqa k (0)
  generalize W.setCell ⟨qa, k, none⟩ (.int .i8 (0)) = W2 at *
  refine hk14.out _ _ ?_
  refine mkS3d w F R xs bl can pa ha fu pp cc a b pr q0 q1 q2 q3 q4 qw qa cap x cb wy _ ?_ (ys.set k 0) u Rs (by rw [List.length_set]; exact hly.out) hla hlb W2 hQ hqa hS2 hnext _ ?_
  ·exact ⟨rfl, rfl, rfl, rfl, rfl, rfl, rfl, rfl, rfl⟩
  ·exact rfl
end Go.Proofs.YtefmplccbkmalaaGreatDoor
