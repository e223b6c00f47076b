import Derived.Test.YtefmplccbkmalaaGreatDoorF25
set_option maxHeartbeats 12800000
namespace Go.Proofs.YtefmplccbkmalaaGreatDoor
open Go.RowKit Go.Sort Go.BigFrame

structure MkZ (w : World) (P : Pos) (pp : Option Addr) (cc : Nat) (m : Mv) (q0 q1 q2 q3 q4 qw : Nat) (wy : List Value) (row und : List Value) (W : World) : Prop where
 b : RowKit.Below w.heap.size w W
 p : HasO W q0 (.cells (posCs P.F P.R pp P.xs.length cc P.bl P.ca P.pa P.ha P.fu).toArray 26 (0, 0))
 m : HasO W q1 (.cells m.cs.toArray 40 (0, 0))
 e : HasO W q4 (.cells #[.int .i64 0] 31 (0, 0))
 w : HasO W qw (.cells wy.toArray 104 (0, 0))
 o : HasO W q2 (.cells row.toArray 26 (0, 0))
 u : HasO W q3 (.cells und.toArray 54 (0, 0))
section
variable {w : World} {P : Pos} {pp : Option Addr} {cc : Nat} {m : Mv} {q0 q1 q2 q3 q4 qw qa cap : Nat} {wy : List Value} {ys : List Int} {row row' und und' : List Value} {W W' : World}
theorem MkZ.call (h : MkZ w P pp cc m q0 q1 q2 q3 q4 qw wy row und W) (hb : RowKit.Below W.heap.size W W') : MkZ w P pp cc m q0 q1 q2 q3 q4 qw wy row und W' :=
 ⟨below_call h.b h.b.size hb, h.p.call hb, h.m.call hb, h.e.call hb, h.w.call hb, h.o.call hb, h.u.call hb⟩
theorem MkZ.set3 (hq : MkQ w q0 q1 q2 q3 q4 qw) (h : MkZ w P pp cc m q0 q1 q2 q3 q4 qw wy row und W) (i : Nat) (v : Value) : MkZ w P pp cc m q0 q1 q2 q3 q4 qw wy row (und.set i v) (W.setCell ⟨q3, i, none⟩ v) := by
 unfold MkQ at hq
 have hu := h.u.set_ i v
 rw [List.setIfInBounds_toArray] at hu
 exact ⟨h.b.setCell (by show w.heap.size ≤ q3; omega) v, h.p.far (by show q0 ≠ q3; omega) v, h.m.far (by show q1 ≠ q3; omega) v, h.e.far (by show q4 ≠ q3; omega) v, h.w.far (by show qw ≠ q3; omega) v, h.o.far (by show q2 ≠ q3; omega) v, hu⟩
theorem MkZ.row3 (hq : MkQ w q0 q1 q2 q3 q4 qw) (h : MkZ w P pp cc m q0 q1 q2 q3 q4 qw wy row und W) : MkZ w P pp cc m q0 q1 q2 q3 q4 qw wy row und' (W.setRow q3 und'.toArray) := by
 unfold MkQ at hq
 exact ⟨setRow_below h.b (by omega) h.b.size, h.p.setRow_far (by omega), h.m.setRow_far (by omega), h.e.setRow_far (by omega), h.w.setRow_far (by omega), h.o.setRow_far (by omega), setRow_hasO h.u⟩
theorem MkZ.row2 (hq : MkQ w q0 q1 q2 q3 q4 qw) (hqa : qw < qa) (h : MkZ w P pp cc m q0 q1 q2 q3 q4 qw wy row und W) (hy : OArr W qa cap ys) : MkS w P pp cc m q0 q1 q2 q3 q4 qw qa cap wy ys row' und (W.setRow q2 row'.toArray) := by
 unfold MkQ at hq
 exact ⟨setRow_below h.b (by omega) h.b.size, h.p.setRow_far (by omega), h.m.setRow_far (by omega), h.e.setRow_far (by omega), h.w.setRow_far (by omega), setRow_hasO h.o, hy.farR (by omega) _, h.u.setRow_far (by omega)⟩
end
set_option maxRecDepth 100000 in
theorem mkS3a (w : World) (F R : Nat) (xs : List Int) (bl : Bool) (can : Nat) (pa ha fu : Int) (pp : Option Addr) (cc : Nat) (a b : Nat) (pr : Int) (q0 q1 q2 q3 q4 qw : Nat) (x : Int) (cb : Bool) (wy : List Value) (T : Array Value) (hT : MkT T q0 q1 q2 q3 q4 x qw cb) (Rs : Ending → World → Prop) (u : Und)
  (hl0 : 0 < xs.length) (hl64 : xs.length ≤ 64) (hxs : Arr .i8 w pp xs)
  (W : World) (hQ : MkQ w q0 q1 q2 q3 q4 qw) (hS : MkZ w ⟨F, R, xs, bl, can, pa, ha, fu⟩ pp cc ⟨a, b, pr⟩ q0 q1 q2 q3 q4 qw wy zeroPos u.cs W)
  (hnext : ∀ cd, Tryz.f23.body.map (sufC 13) = some cd → ∀ T' W' qa cap, qw < qa → MkT T' q0 q1 q2 q3 q4 x qw cb →
   MkS w ⟨F, R, xs, bl, can, pa, ha, fu⟩ pp cc ⟨a, b, pr⟩ q0 q1 q2 q3 q4 qw qa cap wy xs (posCs F R (some ⟨qa, 0, none⟩) xs.length cap bl can pa ha fu) u.cs W' →
   cd.wp Tryz.prog (bodyPostD Tryz.prog Tryz.f23 Rs) { tmps := T', defers := mkDs q4 q2 q3 } W')
  (cd : Code) (hcd : Tryz.f23.body.map (sufC 12) = some cd) : cd.wp Tryz.prog (bodyPostD Tryz.prog Tryz.f23 Rs) { tmps := T, defers := mkDs q4 q2 q3 } W := by
 obtain rfl := Option.some.inj ((show Tryz.f23.body.map (sufC 12) = some _ from rfl).symm.trans hcd)
 clear hcd
 simp only [sufC]
 obtain ⟨X, rfl⟩ := hT.fr
 clear hT
 unfold mkF
 obtain ⟨g, o, rfl, _⟩ := arr_at (hxs.call hS.b) hl0
 have hxW := hxs.call hS.b
 have hcp := copy_any F R can pa ha fu bl g o cc xs W hxW hl0 (by omega)
 have hp : HasO W q0 (.cells (posCs F R (some ⟨g, o, none⟩) xs.length cc bl can pa ha fu).toArray 26 (0, 0)) := hS.p
 have p1 := hp.cells
 have l1 := hp.lt
 have hqw := hS.w.lt
 go_upto_region 15 with fail
 rename_i hk
 replace hk := Lib.hid hk
 go_wp2_with fail
 refine hcp.mono ?_
 rintro e W2 ⟨qa, cap, rfl, hb2, hqa, hY⟩
 have hS2 := hS.call hb2
 have hqa2 : qw < qa := by omega
 clear p1 l1 hqw hxW hcp hp hb2 hqa hS
 have hZ := hS2.o
 have hi : Hid ((Tryz.prog.info? 26).map (·.size) = some (posCs F R (some ⟨qa, 0, none⟩) xs.length cap bl can pa ha fu).toArray.size) := Lib.hid (by kernel_rfl)
 have ho : Hid ((posCs F R (some ⟨qa, 0, none⟩) xs.length cap bl can pa ha fu).toArray.all (·.oneCell') = true) := Lib.hid (by simp [Value.oneCell'])
 go_wp2_with (first | ((refine wpList_storeAgg rfl 26 (.tmp 4) (.tmp 132) rfl q2 _ rfl rfl 26 _ hZ hi.out rfl ho.out ?_); rintro w3 rfl) | fail)
 refine hk.out _ _ ?_
 refine hnext _ rfl _ _ qa cap hqa2 ?_ (hS2.row2 hQ hqa2 hY)
 exact ⟨rfl, rfl, rfl, rfl, rfl, rfl, rfl, rfl, rfl⟩
theorem ep_sq (a b F : Nat) (hF : 3 ≤ F ∧ F ≤ 8) (ha : a < 64) : wrap64 (wrap64 ((a : Int) - (a : Int) % F) + (b : Int) % F) = ((a / F * F + b % F : Nat) : Int) := by
 have h1 : (a : Int) % F = ((a % F : Nat) : Int) := by norm_cast
 have h2 : (b : Int) % F = ((b % F : Nat) : Int) := by norm_cast
 have h3 := Nat.div_add_mod a F
 have h4 : b % F < F := Nat.mod_lt _ (by omega)
 rw [Nat.mul_comm] at h3
 rw [h1, h2]
 generalize a / F * F = D at *
 generalize a % F = A at *
 generalize b % F = B at *
 rw [IntWalk.wrap64_in ((a : Int) - A) (by omega), IntWalk.wrap64_in _ (by omega)]
 omega
set_option maxRecDepth 100000 in
theorem mkS2c (w : World) (F R : Nat) (xs : List Int) (bl : Bool) (can : Nat) (pa ha fu : Int) (pp : Option Addr) (cc : Nat) (a b : Nat) (pr : Int) (q0 q1 q2 q3 q4 qw : Nat) (x : Int) (cb : Bool) (wy : List Value) (T : Array Value) (hT : MkT T q0 q1 q2 q3 q4 x qw cb) (Rs : Ending → World → Prop) (K : Nat) (cp : Int)
  (W : World) (hQ : MkQ w q0 q1 q2 q3 q4 qw) (hS : MkZ w ⟨F, R, xs, bl, can, pa, ha, fu⟩ pp cc ⟨a, b, pr⟩ q0 q1 q2 q3 q4 qw wy zeroPos (Und.mk ⟨a, b, pr⟩ cp K can pa ha fu).cs W)
  (hnext : ∀ cd, Tryz.f23.body.map (sufC 12) = some cd → ∀ T' W', MkT T' q0 q1 q2 q3 q4 x qw cb →
   MkZ w ⟨F, R, xs, bl, can, pa, ha, fu⟩ pp cc ⟨a, b, pr⟩ q0 q1 q2 q3 q4 qw wy zeroPos (Und.mk ⟨a, b, pr⟩ cp (if cp = 0 then -1 else (K : Int)) can pa ha fu).cs W' →
   cd.wp Tryz.prog (bodyPostD Tryz.prog Tryz.f23 Rs) { tmps := T', defers := mkDs q4 q2 q3 } W')
  (cd : Code) (hcd : Tryz.f23.body.map (sufC 11) = some cd) : cd.wp Tryz.prog (bodyPostD Tryz.prog Tryz.f23 Rs) { tmps := T, defers := mkDs q4 q2 q3 } W := by
 obtain rfl := Option.some.inj ((show Tryz.f23.body.map (sufC 11) = some _ from rfl).symm.trans hcd)
 clear hcd
 simp only [sufC]
 obtain ⟨X, rfl⟩ := hT.fr
 clear hT
 unfold mkF
 have u1 := hS.u.cells 1
 have u2 := hS.u.cells 3
 have ul := hS.u.lt
 have u3 := hS.u.cells 4
 have uf := hS.u.frozen 4
 go_upto_region 13 with fail
 rename_i k hk k2 hk2
 replace hk := Lib.hid hk
 rcases z : (cp == 0) with _ | _
 ·rw [if_neg (by simpa using z)] at hnext
  go_wp2_with fail
  refine hk.out _ _ ?_
  refine hnext _ rfl _ _ ?_ hS
  exact ⟨rfl, rfl, rfl, rfl, rfl, rfl, rfl, rfl, rfl⟩
 ·rw [if_pos (by simpa using z)] at hnext
  go_wp2_with fail
  have hS3 : MkZ w ⟨F, R, xs, bl, can, pa, ha, fu⟩ pp cc ⟨a, b, pr⟩ q0 q1 q2 q3 q4 qw wy zeroPos (Und.mk ⟨a, b, pr⟩ cp (-1) can pa ha fu).cs (W.setCell ⟨q3, 4, none⟩ (.int .i64 (-1))) := hS.set3 hQ 4 (.int .i64 (-1))
  generalize W.setCell ⟨q3, 4, none⟩ (.int .i64 (-1)) = W3 at *
  refine hk.out _ _ ?_
  refine hnext _ rfl _ _ ?_ hS3
  exact ⟨rfl, rfl, rfl, rfl, rfl, rfl, rfl, rfl, rfl⟩
set_option maxRecDepth 100000 in
theorem mkS2 (w : World) (F R : Nat) (xs : List Int) (bl : Bool) (can : Nat) (pa ha fu : Int) (pp : Option Addr) (cc : Nat) (a b : Nat) (pr : Int) (q0 q1 q2 q3 q4 qw : Nat) (x : Int) (cb : Bool) (wy : List Value) (T : Array Value) (hT : MkT T q0 q1 q2 q3 q4 x qw cb) (Rs : Ending → World → Prop)
  (hF : 3 ≤ F ∧ F ≤ 8) (hla : a < xs.length) (hlb : b < xs.length) (hl64 : xs.length ≤ 64) (hm : xs.length = F * R) (hxs : Arr .i8 w pp xs) (hx : -6 ≤ x ∧ x ≤ 6) (und : List Value) (hund : und.length = 9)
  (W : World) (hQ : MkQ w q0 q1 q2 q3 q4 qw) (hS : MkZ w ⟨F, R, xs, bl, can, pa, ha, fu⟩ pp cc ⟨a, b, pr⟩ q0 q1 q2 q3 q4 qw wy zeroPos und W) (K : Nat) (hK : K = if kindI x = 1 ∧ (b : Int) = pa then a / F * F + b % F else b) (hKl : K < xs.length)
  (hnext : ∀ cd, Tryz.f23.body.map (sufC 12) = some cd → ∀ T' W', MkT T' q0 q1 q2 q3 q4 x qw cb →
   MkZ w ⟨F, R, xs, bl, can, pa, ha, fu⟩ pp cc ⟨a, b, pr⟩ q0 q1 q2 q3 q4 qw wy zeroPos (Und.mk ⟨a, b, pr⟩ (xs[K]?.getD 0) (if xs[K]?.getD 0 = 0 then -1 else (K : Int)) can pa ha fu).cs W' →
   cd.wp Tryz.prog (bodyPostD Tryz.prog Tryz.f23 Rs) { tmps := T', defers := mkDs q4 q2 q3 } W')
  (cd : Code) (hcd : Tryz.f23.body.map (sufC 9) = some cd) : cd.wp Tryz.prog (bodyPostD Tryz.prog Tryz.f23 Rs) { tmps := T, defers := mkDs q4 q2 q3 } W := by
 obtain rfl := Option.some.inj ((show Tryz.f23.body.map (sufC 9) = some _ from rfl).symm.trans hcd)
 clear hcd
 simp only [sufC]
 obtain ⟨X, rfl⟩ := hT.fr
 clear hT
 unfold mkF
 obtain ⟨g, o, rfl, hb⟩ := arr_at (hxs.call hS.b) hlb
 have hk := fun W => kind64_any x (by omega) W
 have hi : Hid ((Tryz.prog.info? 54).map (·.size) = some ((Und.mk ⟨a, b, pr⟩ (xs[b]?.getD 0) b can pa ha fu).cs).toArray.size) := Lib.hid (by kernel_rfl)
 have ho : Hid (((Und.mk ⟨a, b, pr⟩ (xs[b]?.getD 0) b can pa ha fu).cs).toArray.all (·.oneCell') = true) := Lib.hid (by simp [Value.oneCell'])
 have p0 : ∀ d os j, (grow (redrawn W d) os).cell? ⟨q0, j, none⟩ = (posCs F R (some ⟨g, o, none⟩) xs.length cc bl can pa ha fu).toArray[j]? := row_gr hS.p
 have m1 : ∀ d os j, (grow (redrawn W d) os).cell? ⟨q1, j, none⟩ = (#[.int .i64 (a : Int), .int .i64 (b : Int), .int .i8 pr] : Array Value)[j]? := row_gr hS.m
 have c1 := cell_regrown hb
 have hii : (b : Int) < xs.length := by omega
 have hS0 := hS
 clear hS
 replace hm := Lib.hid hm
 replace hK := Lib.hid hK
 generalize hz : xs[b]?.getD 0 = z at *
 replace hz := Lib.hid hz
 go_upto_region 9 with fail
 rename_i hk2
 replace hk2 := Lib.hid hk2
 refine wp_region_tail 18 (by kernel_rfl) (by kernel_rfl) ?_
 simp only [List.take_succ_cons, List.take_zero, List.drop_succ_cons, List.drop_zero]
 repeat (go_big_quiet_step (fail))
 refine wpQuiet_nil ?_
 intro W2 hb2
 have hS2 := hS0.call hb2
 clear p0 m1 c1 hS0 hb2 hb
 have hZ := hS2.u
 have hos : Hid (und.toArray.size = ((Und.mk ⟨a, b, pr⟩ z b can pa ha fu).cs).toArray.size) := Lib.hid (by simp [hund])
 go_wp2_with (first | ((refine wpList_storeAgg rfl 54 (.tmp 5) (.tmp 92) rfl q3 ((Und.mk ⟨a, b, pr⟩ z b can pa ha fu).cs).toArray rfl rfl 54 _ hZ hi.out hos.out ho.out ?_); rintro w3 rfl) | fail)
 have hS3 : MkZ w ⟨F, R, xs, bl, can, pa, ha, fu⟩ (some ⟨g, o, none⟩) cc ⟨a, b, pr⟩ q0 q1 q2 q3 q4 qw wy zeroPos (Und.mk ⟨a, b, pr⟩ z b can pa ha fu).cs (W2.setRow q3 ((Und.mk ⟨a, b, pr⟩ z b can pa ha fu).cs).toArray) := hS2.row3 hQ
 generalize W2.setRow q3 ((Und.mk ⟨a, b, pr⟩ z b can pa ha fu).cs).toArray = W3 at *
 clear hZ hos hi ho hS2
 have p1 : ∀ j, W3.cell? ⟨q1, j, none⟩ = (#[.int .i64 (a : Int), .int .i64 (b : Int), .int .i8 pr] : Array Value)[j]? := hS3.m.cells
 have l1 := hS3.m.lt
 have p0 : ∀ j, W3.cell? ⟨q0, j, none⟩ = (posCs F R (some ⟨g, o, none⟩) xs.length cc bl can pa ha fu).toArray[j]? := hS3.p.cells
 have l0 := hS3.p.lt
 refine hk2.out _ _ ?_
 go_upto_region 10 with fail
 rename_i k3 hk3 k4 hk4
 replace hk3 := Lib.hid hk3
 go_wp2_with fail
 refine (hk _).mono ?_
 rintro e W5 ⟨rfl, rfl⟩
 rcases z1 : (kindI x == 1) with _ | _
 ·have hKb : K = b := by rw [hK.out, if_neg (by simp at z1; simp [z1])]
  go_wp2_with fail
  rw [hKb, hz.out] at hnext
  refine hk3.out _ _ ?_
  refine mkS2c w F R xs bl can pa ha fu _ cc a b pr q0 q1 q2 q3 q4 qw x cb wy _ ?_ Rs b z W3 hQ hS3 hnext _ ?_
  ·exact ⟨rfl, rfl, rfl, rfl, rfl, rfl, rfl, rfl, rfl⟩
  ·exact rfl
 ·rcases z2 : ((b : Int) == pa) with _ | _
  ·have hKb : K = b := by rw [hK.out, if_neg (by simp at z2; simp [z2])]
   go_wp2_with fail
   rw [hKb, hz.out] at hnext
   refine hk3.out _ _ ?_
   refine mkS2c w F R xs bl can pa ha fu _ cc a b pr q0 q1 q2 q3 q4 qw x cb wy _ ?_ Rs b z W3 hQ hS3 hnext _ ?_
   ·exact ⟨rfl, rfl, rfl, rfl, rfl, rfl, rfl, rfl, rfl⟩
   ·exact rfl
  ·have hKb : K = a / F * F + b % F := by rw [hK.out, if_pos (by simp at z1 z2; exact ⟨z1, z2⟩)]
   have ev := ep_sq a b F hF (by omega)
   rw [← hKb] at ev
   replace ev := Lib.hid ev
   clear hKb
   go_upto_region 11 with fail
   clear p0 p1
   have p1 : ∀ d os j, (grow (redrawn W3 d) os).cell? ⟨q1, j, none⟩ = (#[.int .i64 (a : Int), .int .i64 (b : Int), .int .i8 pr] : Array Value)[j]? := row_gr hS3.m
   have p0 : ∀ d os j, (grow (redrawn W3 d) os).cell? ⟨q0, j, none⟩ = (posCs F R (some ⟨g, o, none⟩) xs.length cc bl can pa ha fu).toArray[j]? := row_gr hS3.p
   refine wp_region_tail 17 (by kernel_rfl) (by kernel_rfl) ?_
   simp only [List.take_succ_cons, List.take_zero, List.drop_succ_cons, List.drop_zero]
   repeat (go_big_quiet_step (fail))
   refine wpQuiet_nil ?_
   intro W6 hb6
   have hS6 := hS3.call hb6
   clear p0 p1 l0 l1 hb6 hS3
   have p4 := hS6.u.cells 4
   have f4 := hS6.u.frozen 4
   have l4 := hS6.u.lt
   go_upto_region 12 with fail
   rw [ev.out]
   have hS7 : MkZ w ⟨F, R, xs, bl, can, pa, ha, fu⟩ (some ⟨g, o, none⟩) cc ⟨a, b, pr⟩ q0 q1 q2 q3 q4 qw wy zeroPos (Und.mk ⟨a, b, pr⟩ z K can pa ha fu).cs (W6.setCell ⟨q3, 4, none⟩ (.int .i64 (K : Nat))) := hS6.set3 hQ 4 (.int .i64 (K : Nat))
   generalize W6.setCell ⟨q3, 4, none⟩ (.int .i64 (K : Nat)) = W7 at *
   clear p4 f4 l4 hS6 ev
   obtain ⟨g', o', e1, hb7⟩ := arr_at (hxs.call hS7.b) hKl
   injection e1 with e1
   injection e1 with e1 e2
   subst e1 e2
   have p4 : ∀ j, W7.cell? ⟨q3, j, none⟩ = (#[.int .i64 (a : Int), .int .i64 (b : Int), .int .i8 pr, .int .i8 z, .int .i64 (K : Nat), .int .u8 can, .int .i64 pa, .int .i64 ha, .int .i64 fu] : Array Value)[j]? := hS7.u.cells
   have f4 := hS7.u.frozen 3
   have l4 := hS7.u.lt
   have p0 : ∀ j, W7.cell? ⟨q0, j, none⟩ = (posCs F R (some ⟨g, o, none⟩) xs.length cc bl can pa ha fu).toArray[j]? := hS7.p.cells
   have l0 := hS7.p.lt
   have hiK : (K : Int) < xs.length := by omega
   generalize hv : xs[K]?.getD 0 = v at *
   go_wp2_with fail
   have hS8 : MkZ w ⟨F, R, xs, bl, can, pa, ha, fu⟩ (some ⟨g, o, none⟩) cc ⟨a, b, pr⟩ q0 q1 q2 q3 q4 qw wy zeroPos (Und.mk ⟨a, b, pr⟩ v K can pa ha fu).cs (W7.setCell ⟨q3, 3, none⟩ (.int .i8 v)) := hS7.set3 hQ 3 (.int .i8 v)
   generalize W7.setCell ⟨q3, 3, none⟩ (.int .i8 v) = W8 at *
   refine hk3.out _ _ ?_
   refine mkS2c w F R xs bl can pa ha fu _ cc a b pr q0 q1 q2 q3 q4 qw x cb wy _ ?_ Rs K v W8 hQ hS8 hnext _ ?_
   ·exact ⟨rfl, rfl, rfl, rfl, rfl, rfl, rfl, rfl, rfl⟩
   ·exact rfl
theorem cst_88 {f r : Int} {xs : List Int} {ca : Int} (h0 : 0 ≤ ca) (h : cstB f r xs ca = true) : ca ≤ 15 ∧ (ca ≠ 0 → f = 8 ∧ r = 8) := by
 unfold cstB at h
 simp only [Bool.and_eq_true, Bool.not_eq_true', decide_eq_false_iff_not] at h
 refine ⟨by omega, fun hne => ?_⟩
 have hk : ∀ k, (homeB f r xs k = true) → f = 8 ∧ r = 8 := fun k hk => by
  unfold homeB at hk
  simp only [Bool.and_eq_true, beq_iff_eq] at hk
  exact ⟨hk.1, hk.2.1⟩
 have h4 := h.2
 simp only [cstK, bitI, Bool.and_eq_true, Bool.or_eq_true, Bool.not_eq_true', beq_eq_false_iff_ne, ne_eq, Bool.true_and] at h4
 obtain ⟨⟨⟨h1, h2⟩, h3⟩, h4⟩ := h4
 by_cases e1 : ca / 1 % 2 = 1
 ·exact hk _ (h1.resolve_left (fun h => h e1))
 ·by_cases e2 : ca / 2 % 2 = 1
  ·exact hk _ (h2.resolve_left (fun h => h e2))
  ·by_cases e3 : ca / 4 % 2 = 1
   ·exact hk _ (h3.resolve_left (fun h => h e3))
   ·by_cases e4 : ca / 8 % 2 = 1
    ·exact hk _ (h4.resolve_left (fun h => h e4))
    ·omega
theorem ok_fact {f r : Int} {xs : List Int} {bl : Bool} {ca pa ha fu : Int} (h : pvW f r xs bl ca pa ha fu = true) (h0 : 0 ≤ ca) :
  ∃ F R : Nat, f = F ∧ r = R ∧ (3 ≤ F ∧ F ≤ 8) ∧ (3 ≤ R ∧ R ≤ 8) ∧ xs.length = F * R ∧ orthB F R xs = true ∧ ca ≤ 15 ∧ (ca ≠ 0 → F = 8 ∧ R = 8) ∧ (0 ≤ ha ∧ ha ≤ 10000) ∧ (1 ≤ fu ∧ fu ≤ 10000) := by
 have hW : pvW f r xs bl ca pa ha fu = ((((((true && boardB f r xs) && kingsB f r xs bl) && pawnsB f.toNat xs) && cstB f r xs ca) && passB f.toNat r.toNat xs bl pa ha) && cntB ha fu) := rfl
 rw [hW] at h
 simp only [Bool.and_eq_true] at h
 obtain ⟨⟨⟨⟨⟨⟨_, h1⟩, h2⟩, h3⟩, h4⟩, h5⟩, h6⟩ := h
 have ho : orthB f r xs = true := by unfold kingsB at h2; simp only [Bool.and_eq_true] at h2; exact h2.1
 obtain ⟨F, R, rfl, rfl, hF, hR, hlen, _, _⟩ := orthB_fact ho
 have hc := cst_88 h0 h4
 unfold cntB at h6
 simp only [Bool.and_eq_true, decide_eq_true_eq] at h6
 exact ⟨F, R, rfl, rfl, hF, hR, hlen, ho, hc.1, fun hn => (by have := hc.2 hn; omega), ⟨h6.1, h6.2.1⟩, h6.2.2⟩
theorem cas_mem {P : Pos} {m : Mv} : ∀ {l : List Cas} {c : Cas} {b : Bool}, casW P m l = (some c, b) → c ∈ l ∧ P.ca.toNat &&& c.bit ≠ 0
 | [], c, b, h => by cases h
 | d :: l, c, b, h => by
  unfold casW at h
  split at h
  ·have := cas_mem h
   exact ⟨List.mem_cons_of_mem _ this.1, this.2⟩
  ·rename_i hc
   injection h with h1 h2
   injection h1 with h1
   subst h1
   exact ⟨List.mem_cons_self, fun h => hc (.inr (.inl h))⟩
theorem cas_some {P : Pos} {m : Mv} : ∀ {l : List Cas}, (casW P m l).2 = true → ∃ c, (casW P m l).1 = some c
 | [], h => by cases h
 | d :: l, h => by
  unfold casW at h ⊢
  split at h
  ·rename_i hc
   rw [if_pos hc]
   exact cas_some h
  ·rename_i hc
   rw [if_neg hc]
   exact ⟨d, rfl⟩
theorem cast_mem {P : Pos} {m : Mv} {c : Cas} (h : (castW P m).1 = some c) : c ∈ casL ∧ P.ca.toNat &&& c.bit ≠ 0 := by
 unfold castW at h
 split at h
 ·cases h
 ·exact cas_mem (b := (casW P m casL).2) (Prod.ext h rfl)
theorem cast_some {P : Pos} {m : Mv} (h : (castW P m).2 = true) : ∃ c, (castW P m).1 = some c := by
 unfold castW at h ⊢
 split at h
 ·cases h
 ·rename_i hc
  rw [if_neg hc]
  exact cas_some h
def capK (F : Nat) (x pa : Int) (a b : Nat) : Nat := if kindI x = 1 ∧ (b : Int) = pa then a / F * F + b % F else b
theorem capK_lt {F R a b : Nat} {x pa : Int} (hF : 3 ≤ F ∧ F ≤ 8) (ha : a < F * R) (hb : b < F * R) : capK F x pa a b < F * R := by
 unfold capK
 split
 ·have h1 : a / F < R := Nat.div_lt_of_lt_mul ha
  have h2 : b % F < F := Nat.mod_lt _ (by omega)
  have h3 : (a / F + 1) * F ≤ R * F := Nat.mul_le_mul_right F h1
  rw [Nat.add_mul, Nat.one_mul, Nat.mul_comm R F] at h3
  omega
 ·exact hb
theorem cap_eq (F R : Nat) (xs : List Int) (bl : Bool) (can : Nat) (pa ha fu : Int) (a b : Nat) (pr : Int) : capW ⟨F, R, xs, bl, can, pa, ha, fu⟩ ⟨a, b, pr⟩ = (if xs[capK F (xs[a]?.getD 0) pa a b]?.getD 0 = 0 then -1 else (capK F (xs[a]?.getD 0) pa a b : Int), xs[capK F (xs[a]?.getD 0) pa a b]?.getD 0) := by
 have h3 := Nat.div_add_mod a F
 rw [Nat.mul_comm] at h3
 have h1 : (a : Int) % F = ((a % F : Nat) : Int) := by norm_cast
 have h2 : (b : Int) % F = ((b % F : Nat) : Int) := by norm_cast
 have h4 : (if kindI (xs[a]?.getD 0) = 1 ∧ (b : Int) = pa then (a : Int) - a % F + b % F else (b : Int)) = ((capK F (xs[a]?.getD 0) pa a b : Nat) : Int) := by
  unfold capK
  split
  ·rw [h1, h2]
   generalize a / F * F = D at *
   generalize a % F = A at *
   generalize b % F = B at *
   omega
  ·rfl
 unfold capW Pos.at_
 simp only [Int.toNat_natCast]
 rw [h4, Int.toNat_natCast]
set_option maxRecDepth 100000 in
theorem mk_run (w : World) (F R : Nat) (xs : List Int) (bl : Bool) (can : Nat) (pa ha fu : Int) (pp : Option Addr) (cc : Nat) (a b : Nat) (pr : Int) (q0 q1 q2 q3 q4 qw : Nat) (cb : Bool) (wo : Option Cas) (T : Array Value) (hT : MkT T q0 q1 q2 q3 q4 (xs[a]?.getD 0) qw cb) (Rs : Ending → World → Prop)
  (hF : 3 ≤ F ∧ F ≤ 8) (hR : 3 ≤ R ∧ R ≤ 8) (hlen : xs.length = F * R) (hor : orthB F R xs = true) (hcc : xs.length ≤ cc) (hal : a < F * R) (hbl : b < F * R) (hpr : pr = 0 ∨ (2 ≤ pr ∧ pr ≤ 5)) (hca : can < 256) (hha : 0 ≤ ha ∧ ha ≤ 10000) (hfu : 0 ≤ fu ∧ fu ≤ 10000)
  (hwo : cb = true → ∃ c, wo = some c) (hwc : ∀ c, wo = some c → c ∈ casL ∧ F = 8 ∧ R = 8) (hG : GlobU w) (hxs : Arr .i8 w pp xs)
  (W : World) (hQ : MkQ w q0 q1 q2 q3 q4 qw) (hS : MkZ w ⟨F, R, xs, bl, can, pa, ha, fu⟩ pp cc ⟨a, b, pr⟩ q0 q1 q2 q3 q4 qw (casCs wo) zeroPos zeroUnd W)
  (Q : Pos) (hQd : Q = aftW ⟨F, R, xs, bl, can, pa, ha, fu⟩ ⟨a, b, pr⟩ (if cb then wo else none)) (C : Bool)
  (hCd : C = (decide (chkS F R Q.xs bl ≠ 0) || (cb && (decide (chkS F R xs bl ≠ 0) || decide (atrW F R (setW gNon xs xs.length) xs ((wo.map Cas.cr).getD 0) (!bl) xs.length ≠ 0)))))
  (h90 : C = true → ∀ w', RowKit.Below w.heap.size w w' → Rs (mkE 90) w')
  (h7 : C = false → (10000 < Q.ha ∨ 10000 < Q.fu) → ∀ w', RowKit.Below w.heap.size w w' → Rs (mkE 7) w')
  (hok : C = false → ¬ (10000 < Q.ha ∨ 10000 < Q.fu) → ∀ w' qa cap, RowKit.Below w.heap.size w w' → w.heap.size ≤ qa → OArr w' qa cap Q.xs → Rs (.returned (.tuple #[.agg (posCs Q.F Q.R (some ⟨qa, 0, none⟩) Q.xs.length cap Q.bl Q.ca Q.pa Q.ha Q.fu).toArray, .agg (undW ⟨F, R, xs, bl, can, pa, ha, fu⟩ ⟨a, b, pr⟩).cs.toArray, .int .i64 0])) w')
  (cd : Code) (hcd : Tryz.f23.body.map (sufC 9) = some cd) : cd.wp Tryz.prog (bodyPostD Tryz.prog Tryz.f23 Rs) { tmps := T, defers := mkDs q4 q2 q3 } W := by
 have h6 := orth6 hor
 have hla : a < xs.length := by omega
 have hlb : b < xs.length := by omega
 have hl64 : xs.length ≤ 64 := by
  have := Nat.mul_le_mul hF.2 hR.2
  omega
 have hxa : -6 ≤ xs[a]?.getD 0 ∧ xs[a]?.getD 0 ≤ 6 := by
  rw [List.getElem?_eq_getElem hla]; exact h6 _ (List.getElem_mem hla)
 have hK := capK_lt (x := xs[a]?.getD 0) (pa := pa) hF hal hbl
 rw [← hlen] at hK
 have hcap := cap_eq F R xs bl can pa ha fu a b pr
 have hund : undW ⟨F, R, xs, bl, can, pa, ha, fu⟩ ⟨a, b, pr⟩ = ⟨⟨a, b, pr⟩, xs[capK F (xs[a]?.getD 0) pa a b]?.getD 0, (if xs[capK F (xs[a]?.getD 0) pa a b]?.getD 0 = 0 then -1 else (capK F (xs[a]?.getD 0) pa a b : Int)), can, pa, ha, fu⟩ := by
  unfold undW; rw [hcap]
 have hbrd : ∀ wy : Option Cas, brdW ⟨F, R, xs, bl, can, pa, ha, fu⟩ ⟨a, b, pr⟩ wy = (if pr ≠ 0 then (((if 0 ≤ (undW ⟨F, R, xs, bl, can, pa, ha, fu⟩ ⟨a, b, pr⟩).at_ then xs.set (undW ⟨F, R, xs, bl, can, pa, ha, fu⟩ ⟨a, b, pr⟩).at_.toNat 0 else xs).set a 0).set b (xs[a]?.getD 0)).set b (if bl then -pr else pr) else casX wy (((if 0 ≤ (undW ⟨F, R, xs, bl, can, pa, ha, fu⟩ ⟨a, b, pr⟩).at_ then xs.set (undW ⟨F, R, xs, bl, can, pa, ha, fu⟩ ⟨a, b, pr⟩).at_.toNat 0 else xs).set a 0).set b (xs[a]?.getD 0))) := by
  intro wy
  unfold brdW undW Pos.at_
  simp only [Int.toNat_natCast]
  cases wy <;> rfl
 obtain ⟨u, hu⟩ : ∃ u, u = undW ⟨F, R, xs, bl, can, pa, ha, fu⟩ ⟨a, b, pr⟩ := ⟨_, rfl⟩
 rw [← hu] at hbrd hund hok
 obtain ⟨X2, hX2⟩ : ∃ X2, X2 = ((if 0 ≤ u.at_ then xs.set u.at_.toNat 0 else xs).set a 0).set b (xs[a]?.getD 0) := ⟨_, rfl⟩
 simp only [← hX2] at hbrd
 have hlX : X2.length = xs.length := by
  rw [hX2]; split <;> simp
 have hat : u.at_ = -1 ∨ ∃ k : Nat, u.at_ = k ∧ k < xs.length := by
  rw [hund]
  by_cases hz : xs[capK F (xs[a]?.getD 0) pa a b]?.getD 0 = 0
  ·left; simp only [if_pos hz]
  ·right; exact ⟨capK F (xs[a]?.getD 0) pa a b, by simp only [if_neg hz], hK⟩
 obtain ⟨Y, hY⟩ : ∃ Y, Y = brdW ⟨F, R, xs, bl, can, pa, ha, fu⟩ ⟨a, b, pr⟩ (if cb then wo else none) := ⟨_, rfl⟩
 have hYl : Y.length = xs.length := by
  rw [hY, hbrd]
  split
  ·simp [hlX]
  ·cases cb
   ·simp [hlX, casX]
   ·obtain ⟨c, rfl⟩ := hwo rfl
    simp [hlX, casX]
 have hYd : (if pr ≠ 0 then X2.set b (if bl then -pr else pr) else if cb then casX wo X2 else X2) = Y := by
  rw [hY, hbrd]
  cases cb
  ·simp [casX]
  ·simp
 have hQx : Q.xs = Y := by rw [hQd, hY]; rfl
 have hcl : ∀ c, wo = some c → c.cr < xs.length ∧ c.co < xs.length := by
  intro c h
  obtain ⟨hm, rfl, rfl⟩ := hwc c h
  rw [hlen]
  simp only [casL, List.mem_cons, List.not_mem_nil, or_false] at hm
  rcases hm with rfl | rfl | rfl | rfl <;> decide
 refine mkS2 w F R xs bl can pa ha fu pp cc a b pr q0 q1 q2 q3 q4 qw (xs[a]?.getD 0) cb (casCs wo) T hT Rs hF hla hlb hl64 hlen hxs hxa zeroUnd rfl W hQ hS (capK F (xs[a]?.getD 0) pa a b) rfl hK ?_ cd hcd
 intro cd12 h12 T2 W2 hT2 hS2
 rw [← hund] at hS2
 refine mkS3a w F R xs bl can pa ha fu pp cc a b pr q0 q1 q2 q3 q4 qw (xs[a]?.getD 0) cb (casCs wo) T2 hT2 Rs u (by omega) hl64 hxs W2 hQ hS2 ?_ cd12 h12
 intro cd13 h13 T3 W3 qa cap hqa hT3 hS3
 refine mkS3b w F R xs bl can pa ha fu pp cc a b pr q0 q1 q2 q3 q4 qw qa cap (xs[a]?.getD 0) cb (casCs wo) T3 hT3 xs u Rs rfl hla hlb hat W3 hQ hqa hS3 ?_ cd13 h13
 intro cd15 h15 T4 W4 hT4 hS4
 rw [← hX2] at hS4
 refine mkS3c w F R xs bl can pa ha fu pp cc a b pr q0 q1 q2 q3 q4 qw qa cap (xs[a]?.getD 0) cb (casCs wo) T4 hT4 X2 u Rs hlX hlb hpr wo rfl (fun h => by obtain ⟨c, rfl⟩ := hwo h; exact ⟨c, rfl, hcl c rfl⟩) W4 hQ hqa hS4 ?_ cd15 h15
 intro cd16 h16 T5 W5 hT5 hS5
 rw [hYd, ← hYl] at hS5
 refine mkS4 w F R xs bl can pa ha fu pp cc a b pr q0 q1 q2 q3 q4 qw qa cap (xs[a]?.getD 0) cb (casCs wo) T5 hT5 Y u Rs hF (by omega) (by omega) hxa hca hha hfu W5 hG hQ hqa hS5 ?_ cd16 h16
 intro cd23 h23 T6 W6 hT6 hS6
 have hQq : w.heap.size ≤ q0 ∧ q0 < q1 ∧ q1 < q2 ∧ q2 < q3 ∧ q3 < q4 ∧ q4 < qw := hQ
 refine mkS5 w F R xs bl can pa ha fu pp cc ⟨a, b, pr⟩ q0 q1 q2 q3 q4 qw qa cap (xs[a]?.getD 0) cb wo T6 hT6 Y (!bl) _ _ _ _ u Rs hF hR hlen hYl hor hcc (by obtain ⟨cur, h1, h2, h3, h4⟩ := hS6.y; exact h2) ((wo.map Cas.cr).getD 0) (by cases wo <;> rfl) (by
   cases wo with
   | none => show 0 < F * R; omega
   | some c => rw [← hlen]; exact (hcl c rfl).1) W6 hQ (by omega) ⟨hS6.b, hS6.p, hS6.m, hS6.e, hG.call hS6.b, hxs.call hS6.b⟩ hS6.w hS6.o hS6.y hS6.u C ?_ h90 ?_ ?_ cd23 h23
 ·rw [hCd, hQx]
 ·intro hc h7'
  refine h7 hc ?_
  subst hQd
  rw [hu] at h7'
  exact h7'
 ·intro hc h7' w' hb' hO'
  have h8 := hok hc (by
   subst hQd
   rw [hu] at h7'
   exact h7') w' qa cap hb' (by omega) (by rw [hQx]; exact hO')
  subst hQd
  have hY2 : (aftW ⟨F, R, xs, bl, can, pa, ha, fu⟩ ⟨a, b, pr⟩ (if cb then wo else none)).xs = Y := hQx
  rw [hY2] at h8
  rw [hu] at h8 ⊢
  exact h8
end Go.Proofs.YtefmplccbkmalaaGreatDoor
