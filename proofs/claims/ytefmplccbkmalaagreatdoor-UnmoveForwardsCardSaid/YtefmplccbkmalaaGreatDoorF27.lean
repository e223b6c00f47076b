import Derived.Test.YtefmplccbkmalaaGreatDoorF26
set_option maxHeartbeats 12800000
namespace Go.Proofs.YtefmplccbkmalaaGreatDoor
open Go.RowKit Go.Sort Go.BigFrame

def MakeR (P : Pos) (m : Mv) (w : World) (e : Ending) (w' : World) : Prop := match mkW P m with
 | .error n => e = mkE n ∧ RowKit.Below w.heap.size w w'
 | .ok (Q, u) => ∃ q cap, e = .returned (.tuple #[.agg (posCs Q.F Q.R (some ⟨q, 0, none⟩) Q.xs.length cap Q.bl Q.ca Q.pa Q.ha Q.fu).toArray, .agg u.cs.toArray, .int .i64 0]) ∧ RowKit.Below w.heap.size w w' ∧ w.heap.size ≤ q ∧ OArr w' q cap Q.xs
set_option maxRecDepth 100000 in
theorem make_bad (f r : Int) (xs : List Int) (bl : Bool) (ca pa ha fu : Int) (m : Mv) (pp : Option Addr) (cc : Nat) (h : (pvW f r xs bl ca pa ha fu && mvB f r m) = false) (hca : 0 ≤ ca ∧ ca < 256) (hl : xs.length ≤ 1000) (hcc : xs.length ≤ cc) (w : World) (hg : GlobOk w) (hx : Arr .i8 w pp xs) :
  Calls Tryz.prog 23 #[.agg (posCs f r pp xs.length cc bl ca pa ha fu).toArray, .agg m.cs.toArray] w fun e w' => e = mkE 2 ∧ RowKit.Below w.heap.size w w' := by
 obtain ⟨W1, hW1⟩ : ∃ W1, W1 = ((((w.alloc (.cells (posCs f r pp xs.length cc bl ca pa ha fu).toArray 26)).alloc (.cells m.cs.toArray 40)).alloc (.cells zeroPos.toArray 26)).alloc (.cells zeroUnd.toArray 54)).alloc (.cells #[.int .i64 0] 31) := ⟨_, rfl⟩
 have hB : RowKit.Below w.heap.size w W1 := by
  subst hW1
  exact (((((below_box w _).alloc (by simp) _).alloc (by simp <;> omega) _).alloc (by simp <;> omega) _).alloc (by simp <;> omega) _)
 have hP : HasO W1 w.heap.size (.cells (posCs f r pp xs.length cc bl ca pa ha fu).toArray 26 (0, 0)) := by
  subst hW1
  exact ((((HasO.new w _).alloc _).alloc _).alloc _).alloc _
 have hM : HasO W1 (w.heap.size + 1) (.cells m.cs.toArray 40 (0, 0)) := by
  subst hW1
  exact (((HasO.new' _ _ (by simp)).alloc _).alloc _).alloc _
 have hO : HasO W1 (w.heap.size + 1 + 1) (.cells zeroPos.toArray 26 (0, 0)) := by
  subst hW1
  exact ((HasO.new' _ _ (by simp)).alloc _).alloc _
 have hU : HasO W1 (w.heap.size + 1 + 1 + 1) (.cells zeroUnd.toArray 54 (0, 0)) := by
  subst hW1
  exact (HasO.new' _ _ (by simp)).alloc _
 have hE : HasO W1 (w.heap.size + 1 + 1 + 1 + 1) (.cells #[.int .i64 0] 31 (0, 0)) := by
  subst hW1
  exact HasO.new' _ _ (by simp)
 have hpv := fun W hg hx => posValid_any f r ca pa ha fu bl pp cc xs hca hl hcc W hg hx
 have hmv := fun W => mvValid_any f r m W
 have c0 := hP.cells
 have l0 := hP.lt
 replace hW1 := Lib.hid hW1
 go_enter_defers Tryz.func23, Tryz.ntmps23
 go_upto_region 3 with fail
 change Code.wp Tryz.prog _ _ _ (((((w.alloc (.cells (posCs f r pp xs.length cc bl ca pa ha fu).toArray 26)).alloc (.cells m.cs.toArray 40)).alloc (.cells zeroPos.toArray 26)).alloc (.cells zeroUnd.toArray 54)).alloc (.cells #[.int .i64 0] 31))
 rw [← hW1.out]
 go_wp2_with fail
 refine (hpv _ (hg.call hB) (hx.call hB)).mono ?_
 rintro e W2 ⟨rfl, hb2⟩
 have hP2 := hP.call hb2
 have hM2 := hM.call hb2
 have hO2 := hO.call hb2
 have hU2 := hU.call hb2
 have hE2 := hE.call hb2
 have hB2 := below_call hB hB.size hb2
 clear c0 l0 hP hM hO hU hE hB hb2
 rcases zv : pvW f r xs bl ca pa ha fu with _ | _
 ·go_wp2_with fail
  refine (refuse_yes _ _).mono ?_
  rintro e W5 ⟨rfl, rfl⟩
  refine mk_no (w.heap.size + 1 + 1 + 1 + 1) (w.heap.size + 1 + 1) (w.heap.size + 1 + 1 + 1) 2 0 (by decide) _ _ W2 w rfl rfl rfl hE2 hO2 rfl hU2 rfl hB2 (by omega) (by omega) (by omega) (fun w' hb => ⟨rfl, hb⟩)
 ·rw [zv, Bool.true_and] at h
  have c0 := hP2.cells
  have l0 := hP2.lt
  have c1 := hM2.cells
  have l1 := hM2.lt
  go_wp2_with fail
  refine (hmv _).mono ?_
  rintro e W3 ⟨rfl, hb3⟩
  have hO3 := hO2.call hb3
  have hU3 := hU2.call hb3
  have hE3 := hE2.call hb3
  have hB3 := below_call hB2 hB2.size hb3
  clear c0 l0 c1 l1
  rw [h]
  go_wp2_with fail
  refine (refuse_yes _ _).mono ?_
  rintro e W5 ⟨rfl, rfl⟩
  refine mk_no (w.heap.size + 1 + 1 + 1 + 1) (w.heap.size + 1 + 1) (w.heap.size + 1 + 1 + 1) 2 0 (by decide) _ _ W3 w rfl rfl rfl hE3 hO3 rfl hU3 rfl hB3 (by omega) (by omega) (by omega) (fun w' hb => ⟨rfl, hb⟩)
theorem mkW_end (F R : Nat) (xs : List Int) (bl : Bool) (can : Nat) (pa ha fu : Int) (a b : Nat) (pr : Int) (h1 : (pvW F R xs bl can pa ha fu && mvB F R ⟨a, b, pr⟩) = true) (h2 : isW (xs[a]?.getD 0) bl = true)
  (h3 : (isW (xs[b]?.getD 0) bl || (!goesW ⟨F, R, xs, bl, can, pa, ha, fu⟩ ⟨a, b, pr⟩ && (!(castW ⟨F, R, xs, bl, can, pa, ha, fu⟩ ⟨a, b, pr⟩).2 || (pr != 0)))) = false) (cb : Bool) (hcb : cb = ((castW ⟨F, R, xs, bl, can, pa, ha, fu⟩ ⟨a, b, pr⟩).2 && !goesW ⟨F, R, xs, bl, can, pa, ha, fu⟩ ⟨a, b, pr⟩)) (Q : Pos) (hQ : Q = aftW ⟨F, R, xs, bl, can, pa, ha, fu⟩ ⟨a, b, pr⟩ (if cb then (castW ⟨F, R, xs, bl, can, pa, ha, fu⟩ ⟨a, b, pr⟩).1 else none)) :
  mkW ⟨F, R, xs, bl, can, pa, ha, fu⟩ ⟨a, b, pr⟩ = if (decide (chkS F R Q.xs bl ≠ 0) || (cb && (decide (chkS F R xs bl ≠ 0) || decide (atrW F R (setW gNon xs xs.length) xs (((castW ⟨F, R, xs, bl, can, pa, ha, fu⟩ ⟨a, b, pr⟩).1.map Cas.cr).getD 0) (!bl) xs.length ≠ 0)))) then .error 90 else if 10000 < Q.ha ∨ 10000 < Q.fu then .error 7 else .ok (Q, undW ⟨F, R, xs, bl, can, pa, ha, fu⟩ ⟨a, b, pr⟩) := by
 have hsm : (castW ⟨F, R, xs, bl, can, pa, ha, fu⟩ ⟨a, b, pr⟩).2 = true → ∃ c, (castW ⟨F, R, xs, bl, can, pa, ha, fu⟩ ⟨a, b, pr⟩).1 = some c := fun h => cast_some h
 have e1 : ((⟨F, R, xs, bl, can, pa, ha, fu⟩ : Pos).ok && mvB F R ⟨a, b, pr⟩) = true := h1
 have e2 : isW ((⟨F, R, xs, bl, can, pa, ha, fu⟩ : Pos).at_ (a : Int)) bl = true := h2
 have e3 : (isW ((⟨F, R, xs, bl, can, pa, ha, fu⟩ : Pos).at_ (b : Int)) bl || (!goesW ⟨F, R, xs, bl, can, pa, ha, fu⟩ ⟨a, b, pr⟩ && (!(castW ⟨F, R, xs, bl, can, pa, ha, fu⟩ ⟨a, b, pr⟩).2 || decide (pr ≠ 0)))) = false := by
  rw [← h3]
  have : decide (pr ≠ 0) = (pr != 0) := by by_cases h : pr = 0 <;> simp [h]
  rw [this]; rfl
 unfold mkW
 simp only [e1, e2, e3, Bool.true_eq_false, Bool.false_eq_true, if_false]
 subst hcb
 generalize castW ⟨F, R, xs, bl, can, pa, ha, fu⟩ ⟨a, b, pr⟩ = CS at *
 generalize goesW ⟨F, R, xs, bl, can, pa, ha, fu⟩ ⟨a, b, pr⟩ = GO at *
 rcases CS with ⟨c, d⟩
 cases d <;> cases GO
 ·simp [hQ]
 ·simp [hQ]
 ·obtain ⟨c', hc'⟩ := hsm rfl
  simp only at hc'
  subst hc'
  simp [hQ]
 ·simp [hQ]
theorem mkW_9 (F R : Nat) (xs : List Int) (bl : Bool) (can : Nat) (pa ha fu : Int) (a b : Nat) (pr : Int) (h1 : (pvW F R xs bl can pa ha fu && mvB F R ⟨a, b, pr⟩) = true) (h2 : isW (xs[a]?.getD 0) bl = false) : mkW ⟨F, R, xs, bl, can, pa, ha, fu⟩ ⟨a, b, pr⟩ = .error 9 := by
 have e1 : ((⟨F, R, xs, bl, can, pa, ha, fu⟩ : Pos).ok && mvB F R ⟨a, b, pr⟩) = true := h1
 have e2 : isW ((⟨F, R, xs, bl, can, pa, ha, fu⟩ : Pos).at_ (a : Int)) bl = false := h2
 unfold mkW
 simp only [e1, e2, Bool.true_eq_false, if_false, if_true]
theorem mkW_10 (F R : Nat) (xs : List Int) (bl : Bool) (can : Nat) (pa ha fu : Int) (a b : Nat) (pr : Int) (h1 : (pvW F R xs bl can pa ha fu && mvB F R ⟨a, b, pr⟩) = true) (h2 : isW (xs[a]?.getD 0) bl = true)
  (h3 : (isW (xs[b]?.getD 0) bl || (!goesW ⟨F, R, xs, bl, can, pa, ha, fu⟩ ⟨a, b, pr⟩ && (!(castW ⟨F, R, xs, bl, can, pa, ha, fu⟩ ⟨a, b, pr⟩).2 || (pr != 0)))) = true) : mkW ⟨F, R, xs, bl, can, pa, ha, fu⟩ ⟨a, b, pr⟩ = .error 10 := by
 have e1 : ((⟨F, R, xs, bl, can, pa, ha, fu⟩ : Pos).ok && mvB F R ⟨a, b, pr⟩) = true := h1
 have e2 : isW ((⟨F, R, xs, bl, can, pa, ha, fu⟩ : Pos).at_ (a : Int)) bl = true := h2
 have e3 : (isW ((⟨F, R, xs, bl, can, pa, ha, fu⟩ : Pos).at_ (b : Int)) bl || (!goesW ⟨F, R, xs, bl, can, pa, ha, fu⟩ ⟨a, b, pr⟩ && (!(castW ⟨F, R, xs, bl, can, pa, ha, fu⟩ ⟨a, b, pr⟩).2 || decide (pr ≠ 0)))) = true := by
  rw [← h3]
  have : decide (pr ≠ 0) = (pr != 0) := by by_cases h : pr = 0 <;> simp [h]
  rw [this]; rfl
 unfold mkW
 simp only [e1, e2, e3, Bool.true_eq_false, if_false, if_true]
set_option maxRecDepth 100000 in
theorem make_good (F R : Nat) (xs : List Int) (bl : Bool) (can : Nat) (pa ha fu : Int) (a b : Nat) (pr : Int) (pp : Option Addr) (cc : Nat) (h : (pvW F R xs bl can pa ha fu && mvB F R ⟨a, b, pr⟩) = true) (hca : can < 256) (hcc : xs.length ≤ cc) (w : World) (hg : GlobU w) (hx : Arr .i8 w pp xs) :
  Calls Tryz.prog 23 #[.agg (posCs F R pp xs.length cc bl can pa ha fu).toArray, .agg #[.int .i64 a, .int .i64 b, .int .i8 pr]] w (MakeR ⟨F, R, xs, bl, can, pa, ha, fu⟩ ⟨a, b, pr⟩ w) := by
 have hbt := h
 simp only [Bool.and_eq_true] at h
 obtain ⟨hv, hmb⟩ := h
 obtain ⟨F', R', e1, e2, hF, hR, hlen, hor, hc15, h88, hha, hfu⟩ := ok_fact hv (by omega)
 obtain rfl : F = F' := by omega
 obtain rfl : R = R' := by omega
 have h9 := mkW_9 F R xs bl can pa ha fu a b pr hbt
 have h10 := mkW_10 F R xs bl can pa ha fu a b pr hbt
 have hend := mkW_end F R xs bl can pa ha fu a b pr hbt
 have hab : a < F * R ∧ b < F * R ∧ (pr = 0 ∨ (2 ≤ pr ∧ pr ≤ 5)) := by
  have h := hmb
  unfold mvB at h
  simp only [Bool.and_eq_true, Bool.or_eq_true, decide_eq_true_eq] at h
  obtain ⟨s1, s2, _, s4⟩ := h
  unfold sqB at s1 s2
  simp only [Bool.and_eq_true, decide_eq_true_eq] at s1 s2
  have s1' : (a : Int) < ((F * R : Nat) : Int) := by rw [Int.natCast_mul]; exact s1.2.2
  have s2' : (b : Int) < ((F * R : Nat) : Int) := by rw [Int.natCast_mul]; exact s2.2.2
  exact ⟨by omega, by omega, s4⟩
 obtain ⟨hal, hbl, hpr⟩ := hab
 have hl64 : xs.length ≤ 64 := by
  have := Nat.mul_le_mul hF.2 hR.2
  omega
 obtain ⟨W1, hW1⟩ : ∃ W1, W1 = ((((w.alloc (.cells (posCs F R pp xs.length cc bl can pa ha fu).toArray 26)).alloc (.cells (Mv.mk a b pr).cs.toArray 40)).alloc (.cells zeroPos.toArray 26)).alloc (.cells zeroUnd.toArray 54)).alloc (.cells #[.int .i64 0] 31) := ⟨_, rfl⟩
 have hB : RowKit.Below w.heap.size w W1 := by
  subst hW1
  exact (((((below_box w _).alloc (by simp) _).alloc (by simp <;> omega) _).alloc (by simp <;> omega) _).alloc (by simp <;> omega) _)
 have hP : HasO W1 w.heap.size (.cells (posCs F R pp xs.length cc bl can pa ha fu).toArray 26 (0, 0)) := by
  subst hW1
  exact ((((HasO.new w _).alloc _).alloc _).alloc _).alloc _
 have hM : HasO W1 (w.heap.size + 1) (.cells (Mv.mk a b pr).cs.toArray 40 (0, 0)) := by
  subst hW1
  exact (((HasO.new' _ _ (by simp)).alloc _).alloc _).alloc _
 have hO : HasO W1 (w.heap.size + 1 + 1) (.cells zeroPos.toArray 26 (0, 0)) := by
  subst hW1
  exact ((HasO.new' _ _ (by simp)).alloc _).alloc _
 have hU : HasO W1 (w.heap.size + 1 + 1 + 1) (.cells zeroUnd.toArray 54 (0, 0)) := by
  subst hW1
  exact (HasO.new' _ _ (by simp)).alloc _
 have hE : HasO W1 (w.heap.size + 1 + 1 + 1 + 1) (.cells #[.int .i64 0] 31 (0, 0)) := by
  subst hW1
  exact HasO.new' _ _ (by simp)
 have hpv := fun W hg hx => posValid_any F R can pa ha fu bl pp cc xs (by omega) (by omega) hcc W hg hx
 have hmv := fun W => mvValid_any F R (Mv.mk a b pr) W
 rw [hv] at hpv
 rw [hmb] at hmv
 have hcs := fun W hg hx => castling_any F R a b can pa ha fu pr bl pp cc xs hF hR hlen hor hal hbl (by omega) (fun h => by have := h88 h; omega) W hg hx
 have hgo := fun h W hg hx => goes_any F R a b can pa ha fu pr bl pp cc xs hF hR hlen hor hal hbl h W hg hx
 have c0 := hP.cells
 have l0 := hP.lt
 have hla : a < xs.length := by omega
 have hlb : b < xs.length := by omega
 have hii : (a : Int) < xs.length := by omega
 have hib : (b : Int) < xs.length := by omega
 replace h88 := Lib.hid h88
 replace hend := Lib.hid hend
 replace h9 := Lib.hid h9
 replace h10 := Lib.hid h10
 replace hlen := Lib.hid hlen
 replace hW1 := Lib.hid hW1
 go_enter_defers Tryz.func23, Tryz.ntmps23
 go_upto_region 3 with fail
 change Code.wp Tryz.prog _ _ _ (((((w.alloc (.cells (posCs F R pp xs.length cc bl can pa ha fu).toArray 26)).alloc (.cells (Mv.mk a b pr).cs.toArray 40)).alloc (.cells zeroPos.toArray 26)).alloc (.cells zeroUnd.toArray 54)).alloc (.cells #[.int .i64 0] 31))
 rw [← hW1.out]
 go_wp2_with fail
 refine (hpv _ (hg.1.call hB) (hx.call hB)).mono ?_
 rintro e W2 ⟨rfl, hb2⟩
 have hP2 := hP.call hb2
 have hM2 := hM.call hb2
 have hO2 := hO.call hb2
 have hU2 := hU.call hb2
 have hE2 := hE.call hb2
 have hB2 := below_call hB hB.size hb2
 clear c0 l0 hP hM hO hU hE hB hb2 hpv
 have c0 := hP2.cells
 have l0 := hP2.lt
 have c1 := hM2.cells
 have l1 := hM2.lt
 go_wp2_with fail
 refine (hmv _).mono ?_
 rintro e W3 ⟨rfl, hb3⟩
 have hP3 := hP2.call hb3
 have hM3 := hM2.call hb3
 have hO3 := hO2.call hb3
 have hU3 := hU2.call hb3
 have hE3 := hE2.call hb3
 have hB3 := below_call hB2 hB2.size hb3
 clear c0 l0 c1 l1 hmv hP2 hM2 hO2 hU2 hE2 hB2 hb3
 go_wp2_with fail
 refine (refuse_no _ _).mono ?_
 rintro e W4 ⟨rfl, rfl⟩
 have c0 := hP3.cells
 have l0 := hP3.lt
 have c1 : ∀ j, W3.cell? ⟨w.heap.size + 1, j, none⟩ = (#[.int .i64 (a : Int), .int .i64 (b : Int), .int .i8 pr] : Array Value)[j]? := hM3.cells
 have l1 := hM3.lt
 obtain ⟨g, o, rfl, hb⟩ := arr_at (hx.call hB3) (j := a) hla
 generalize hz : xs[a]?.getD 0 = x at *
 replace hz := Lib.hid hz
 go_wp2_with fail
 refine (isW_any _ _ _).mono ?_
 rintro e W4 ⟨rfl, rfl⟩
 rcases zo : isW x bl with _ | _
 ·go_wp2_with fail
  refine (refuse_yes _ _).mono ?_
  rintro e W5 ⟨rfl, rfl⟩
  refine mk_no (w.heap.size + 1 + 1 + 1 + 1) (w.heap.size + 1 + 1) (w.heap.size + 1 + 1 + 1) 9 0 (by decide) _ _ W3 w rfl rfl rfl hE3 hO3 rfl hU3 rfl hB3 (by omega) (by omega) (by omega) (fun w' hb => by unfold MakeR; rw [h9.out zo]; exact ⟨rfl, hb⟩)
 ·have hx0 : x ≠ 0 := by
   rintro rfl
   revert zo
   cases bl <;> decide
  go_wp2_with fail
  refine (refuse_no _ _).mono ?_
  rintro e W5 ⟨rfl, rfl⟩
  go_wp2_with fail
  refine (hcs _ (hg.call hB3) (hx.call hB3)).mono ?_
  rintro e W4 ⟨rfl, hb4⟩
  have hP4 := hP3.call hb4
  have hM4 := hM3.call hb4
  have hO4 := hO3.call hb4
  have hU4 := hU3.call hb4
  have hE4 := hE3.call hb4
  have hB4 := below_call hB3 hB3.size hb4
  have l4 := hE4.lt
  clear c0 l0 c1 l1 hb hP3 hM3 hO3 hU3 hE3 hB3 hb4 hcs
  generalize hCS : castW ⟨F, R, xs, bl, can, pa, ha, fu⟩ ⟨a, b, pr⟩ = CS at *
  replace hCS := Lib.hid hCS
  rcases CS with ⟨wo, cd⟩
  have hZ := HasO.new W4 (.cells zeroCas.toArray 104)
  have hi : Hid ((Tryz.prog.info? 104).map (·.size) = some (casCs wo).toArray.size) := Lib.hid (by cases wo <;> kernel_rfl)
  have hos : Hid (zeroCas.toArray.size = (casCs wo).toArray.size) := Lib.hid (by cases wo <;> rfl)
  have ho : Hid ((casCs wo).toArray.all (·.oneCell') = true) := Lib.hid (by cases wo <;> simp [casCs, Value.oneCell', Cas.cs])
  go_upto_region 7 with (first | ((refine wpList_storeAgg rfl 104 (.tmp 8) (.tmp 41) rfl W4.heap.size (casCs wo).toArray rfl rfl 104 _ hZ hi.out hos.out ho.out ?_); rintro w3 rfl) | fail)
  have hP5 := (hP4.alloc (.cells zeroCas.toArray 104)).setRow_far (g := W4.heap.size) (cells := (casCs wo).toArray) (by omega)
  have hM5 := (hM4.alloc (.cells zeroCas.toArray 104)).setRow_far (g := W4.heap.size) (cells := (casCs wo).toArray) (by omega)
  have hO5 := (hO4.alloc (.cells zeroCas.toArray 104)).setRow_far (g := W4.heap.size) (cells := (casCs wo).toArray) (by omega)
  have hU5 := (hU4.alloc (.cells zeroCas.toArray 104)).setRow_far (g := W4.heap.size) (cells := (casCs wo).toArray) (by omega)
  have hE5 := (hE4.alloc (.cells zeroCas.toArray 104)).setRow_far (g := W4.heap.size) (cells := (casCs wo).toArray) (by omega)
  have hW5 := setRow_hasO (cells := (casCs wo).toArray) hZ
  have hBa := hB4.alloc (by omega) (.cells zeroCas.toArray 104)
  have hB5 := setRow_below (cells := (casCs wo).toArray) hBa (g := W4.heap.size) (by omega) hBa.size
  change Code.wp Tryz.prog _ _ _ ((W4.alloc (.cells zeroCas.toArray 104)).setRow W4.heap.size (casCs wo).toArray)
  have hqw : w.heap.size + 1 + 1 + 1 + 1 < W4.heap.size := l4
  generalize (W4.alloc (.cells zeroCas.toArray 104)).setRow W4.heap.size (casCs wo).toArray = W5 at *
  clear hZ hBa hi hos ho l4 hP4 hM4 hO4 hU4 hE4 hB4
  generalize W4.heap.size = qw at *
  obtain ⟨g', o', e3, hb5⟩ := arr_at (hx.call hB5) (j := b) hlb
  injection e3 with e3
  injection e3 with e3 e4
  subst e3 e4
  have t2 := call_gr (w := W5) (fun W' h => hgo hx0 W' (hg.1.call (below_call hB5 hB5.size h)) (hx.call (below_call hB5 hB5.size h)))
  generalize hzb : xs[b]?.getD 0 = y at *
  replace hzb := Lib.hid hzb
  have t1 := call_eq (w := W5) (fun W => isW_any y bl W)
  generalize hgz : goesW ⟨F, R, xs, bl, can, pa, ha, fu⟩ ⟨a, b, pr⟩ = GO at *
  replace hgz := Lib.hid hgz
  have p0 : ∀ d os j, (grow (redrawn W5 d) os).cell? ⟨w.heap.size, j, none⟩ = (posCs F R (some ⟨g, o, none⟩) xs.length cc bl can pa ha fu).toArray[j]? := row_gr hP5
  have p1 : ∀ d os j, (grow (redrawn W5 d) os).cell? ⟨w.heap.size + 1, j, none⟩ = (#[.int .i64 (a : Int), .int .i64 (b : Int), .int .i8 pr] : Array Value)[j]? := row_gr hM5
  have c2 := cell_regrown hb5
  rcases zy : isW y bl with _ | _ <;> rw [zy] at t1
  rotate_left
  ·refine wp_region_tail 24 (by kernel_rfl) (by kernel_rfl) ?_
   simp only [List.take_succ_cons, List.take_zero, List.drop_succ_cons, List.drop_zero]
   repeat (go_big_quiet_step (first | with_reducible exact t1 _ _ | with_reducible exact t2 _ _))
   refine wpQuiet_nil ?_
   intro W6 hb6
   have hP6 := hP5.call hb6
   have hM6 := hM5.call hb6
   have hO6 := hO5.call hb6
   have hU6 := hU5.call hb6
   have hE6 := hE5.call hb6
   have hW6 := hW5.call hb6
   have hB6 := below_call hB5 hB5.size hb6
   clear p0 p1 c2 hP5 hM5 hO5 hU5 hE5 hW5 hB5 hb6 hb5
   go_wp2_with fail
   refine (refuse_yes _ _).mono ?_
   rintro e W7 ⟨rfl, rfl⟩
   refine mk_no (w.heap.size + 1 + 1 + 1 + 1) (w.heap.size + 1 + 1) (w.heap.size + 1 + 1 + 1) 10 0 (by decide) _ _ W6 w rfl rfl rfl hE6 hO6 rfl hU6 rfl hB6 (by omega) (by omega) (by omega) (fun w' hb => by unfold MakeR; rw [h10.out zo (by rw [zy]; rfl)]; exact ⟨rfl, hb⟩)
  ·cases GO
   ·cases cd
    ·refine wp_region_tail 24 (by kernel_rfl) (by kernel_rfl) ?_
     simp only [List.take_succ_cons, List.take_zero, List.drop_succ_cons, List.drop_zero]
     repeat (go_big_quiet_step (first | with_reducible exact t1 _ _ | with_reducible exact t2 _ _))
     refine wpQuiet_nil ?_
     intro W6 hb6
     have hP6 := hP5.call hb6
     have hM6 := hM5.call hb6
     have hO6 := hO5.call hb6
     have hU6 := hU5.call hb6
     have hE6 := hE5.call hb6
     have hW6 := hW5.call hb6
     have hB6 := below_call hB5 hB5.size hb6
     clear p0 p1 c2 hP5 hM5 hO5 hU5 hE5 hW5 hB5 hb6 hb5
     go_wp2_with fail
     refine (refuse_yes _ _).mono ?_
     rintro e W7 ⟨rfl, rfl⟩
     refine mk_no (w.heap.size + 1 + 1 + 1 + 1) (w.heap.size + 1 + 1) (w.heap.size + 1 + 1 + 1) 10 0 (by decide) _ _ W6 w rfl rfl rfl hE6 hO6 rfl hU6 rfl hB6 (by omega) (by omega) (by omega) (fun w' hb => by unfold MakeR; rw [h10.out zo (by rw [zy]; rfl)]; exact ⟨rfl, hb⟩)
    ·rcases zp : (pr != 0) with _ | _
     rotate_left
     ·refine wp_region_tail 24 (by kernel_rfl) (by kernel_rfl) ?_
      simp only [List.take_succ_cons, List.take_zero, List.drop_succ_cons, List.drop_zero]
      repeat (go_big_quiet_step (first | with_reducible exact t1 _ _ | with_reducible exact t2 _ _))
      refine wpQuiet_nil ?_
      intro W6 hb6
      have hP6 := hP5.call hb6
      have hM6 := hM5.call hb6
      have hO6 := hO5.call hb6
      have hU6 := hU5.call hb6
      have hE6 := hE5.call hb6
      have hW6 := hW5.call hb6
      have hB6 := below_call hB5 hB5.size hb6
      clear p0 p1 c2 hP5 hM5 hO5 hU5 hE5 hW5 hB5 hb6 hb5
      go_wp2_with fail
      refine (refuse_yes _ _).mono ?_
      rintro e W7 ⟨rfl, rfl⟩
      refine mk_no (w.heap.size + 1 + 1 + 1 + 1) (w.heap.size + 1 + 1) (w.heap.size + 1 + 1 + 1) 10 0 (by decide) _ _ W6 w rfl rfl rfl hE6 hO6 rfl hU6 rfl hB6 (by omega) (by omega) (by omega) (fun w' hb => by unfold MakeR; rw [h10.out zo (by rw [zy, zp]; rfl)]; exact ⟨rfl, hb⟩)
     ·refine wp_region_tail 24 (by kernel_rfl) (by kernel_rfl) ?_
      simp only [List.take_succ_cons, List.take_zero, List.drop_succ_cons, List.drop_zero]
      repeat (go_big_quiet_step (first | with_reducible exact t1 _ _ | with_reducible exact t2 _ _))
      refine wpQuiet_nil ?_
      intro W6 hb6
      have hP6 := hP5.call hb6
      have hM6 := hM5.call hb6
      have hO6 := hO5.call hb6
      have hU6 := hU5.call hb6
      have hE6 := hE5.call hb6
      have hW6 := hW5.call hb6
      have hB6 := below_call hB5 hB5.size hb6
      clear p0 p1 c2 hP5 hM5 hO5 hU5 hE5 hW5 hB5 hb6 hb5
      go_wp2_with fail
      refine (refuse_no _ _).mono ?_
      rintro e W7 ⟨rfl, rfl⟩
      go_upto_region 8 with fail
      rename_i k8 hk8
      replace hk8 := Lib.hid hk8
      have p0 : ∀ j, W6.cell? ⟨w.heap.size, j, none⟩ = (posCs F R (some ⟨g, o, none⟩) xs.length cc bl can pa ha fu).toArray[j]? := hP6.cells
      have l0 := hP6.lt
      have p1 : ∀ j, W6.cell? ⟨w.heap.size + 1, j, none⟩ = (#[.int .i64 (a : Int), .int .i64 (b : Int), .int .i8 pr] : Array Value)[j]? := hM6.cells
      have l1 := hM6.lt
      go_wp2_with fail
      refine (hgo hx0 _ (hg.1.call hB6) (hx.call hB6)).mono ?_
      rintro e W7 ⟨rfl, hb7⟩
      have hP7 := hP6.call hb7
      have hM7 := hM6.call hb7
      have hO7 := hO6.call hb7
      have hU7 := hU6.call hb7
      have hE7 := hE6.call hb7
      have hW7 := hW6.call hb7
      have hB7 := below_call hB6 hB6.size hb7
      clear p0 p1 l0 l1 hP6 hM6 hO6 hU6 hE6 hW6 hB6 hb7
      go_wp2_with fail
      refine hk8.out _ _ ?_
      refine mk_run w F R xs bl can pa ha fu _ cc a b pr w.heap.size (w.heap.size + 1) (w.heap.size + 1 + 1) (w.heap.size + 1 + 1 + 1) (w.heap.size + 1 + 1 + 1 + 1) qw true wo _ ?_ _ hF hR hlen.out hor hcc hal hbl hpr hca hha (by omega) (fun h => ?_) (fun c h => ?_) hg hx _ ⟨Nat.le_refl _, by omega, by omega, by omega, by omega, hqw⟩ ⟨hB7, hP7, hM7, hE7, hW7, hO7, hU7⟩ _ rfl _ rfl (fun hC w' hb => ?_) (fun hC h7 w' hb => ?_) (fun hC h7 w' qa cap hb hqa hY => ?_) _ rfl
      ·rw [hz.out]; exact ⟨rfl, rfl, rfl, rfl, rfl, rfl, rfl, rfl, rfl⟩
      ·first | (cases h; done) | exact (by have h1 := cast_some (P := ⟨F, R, xs, bl, can, pa, ha, fu⟩) (m := ⟨a, b, pr⟩) (by rw [hCS.out]); rw [hCS.out] at h1; exact h1)
      ·have h1 := cast_mem (P := ⟨F, R, xs, bl, can, pa, ha, fu⟩) (m := ⟨a, b, pr⟩) (c := c) (by rw [hCS.out]; exact h)
       refine ⟨h1.1, h88.out (fun h0 => h1.2 ?_)⟩
       show (can : Int).toNat &&& c.bit = 0
       rw [h0]; simp
      ·unfold MakeR; rw [hend.out zo (by rw [zy, zp]; rfl) true rfl _ rfl, if_pos hC]; exact ⟨rfl, hb⟩
      ·unfold MakeR; rw [hend.out zo (by rw [zy, zp]; rfl) true rfl _ rfl, if_neg (by rw [hC]; decide), if_pos h7]; exact ⟨rfl, hb⟩
      ·unfold MakeR; rw [hend.out zo (by rw [zy, zp]; rfl) true rfl _ rfl, if_neg (by rw [hC]; decide), if_neg h7]; exact ⟨qa, cap, rfl, hb, hqa, hY⟩
   ·refine wp_region_tail 24 (by kernel_rfl) (by kernel_rfl) ?_
    simp only [List.take_succ_cons, List.take_zero, List.drop_succ_cons, List.drop_zero]
    repeat (go_big_quiet_step (first | with_reducible exact t1 _ _ | with_reducible exact t2 _ _))
    refine wpQuiet_nil ?_
    intro W6 hb6
    have hP6 := hP5.call hb6
    have hM6 := hM5.call hb6
    have hO6 := hO5.call hb6
    have hU6 := hU5.call hb6
    have hE6 := hE5.call hb6
    have hW6 := hW5.call hb6
    have hB6 := below_call hB5 hB5.size hb6
    clear p0 p1 c2 hP5 hM5 hO5 hU5 hE5 hW5 hB5 hb6 hb5
    go_wp2_with fail
    refine (refuse_no _ _).mono ?_
    rintro e W7 ⟨rfl, rfl⟩
    cases cd
    ·go_upto_region 8 with fail
     rename_i k8 hk8
     replace hk8 := Lib.hid hk8
     have p0 : ∀ j, W6.cell? ⟨w.heap.size, j, none⟩ = (posCs F R (some ⟨g, o, none⟩) xs.length cc bl can pa ha fu).toArray[j]? := hP6.cells
     have l0 := hP6.lt
     have p1 : ∀ j, W6.cell? ⟨w.heap.size + 1, j, none⟩ = (#[.int .i64 (a : Int), .int .i64 (b : Int), .int .i8 pr] : Array Value)[j]? := hM6.cells
     have l1 := hM6.lt
     go_wp2_with fail
     refine hk8.out _ _ ?_
     refine mk_run w F R xs bl can pa ha fu _ cc a b pr w.heap.size (w.heap.size + 1) (w.heap.size + 1 + 1) (w.heap.size + 1 + 1 + 1) (w.heap.size + 1 + 1 + 1 + 1) qw false wo _ ?_ _ hF hR hlen.out hor hcc hal hbl hpr hca hha (by omega) (fun h => ?_) (fun c h => ?_) hg hx _ ⟨Nat.le_refl _, by omega, by omega, by omega, by omega, hqw⟩ ⟨hB6, hP6, hM6, hE6, hW6, hO6, hU6⟩ _ rfl _ rfl (fun hC w' hb => ?_) (fun hC h7 w' hb => ?_) (fun hC h7 w' qa cap hb hqa hY => ?_) _ rfl
     ·rw [hz.out]; exact ⟨rfl, rfl, rfl, rfl, rfl, rfl, rfl, rfl, rfl⟩
     ·first | (cases h; done) | exact (by have h1 := cast_some (P := ⟨F, R, xs, bl, can, pa, ha, fu⟩) (m := ⟨a, b, pr⟩) (by rw [hCS.out]); rw [hCS.out] at h1; exact h1)
     ·have h1 := cast_mem (P := ⟨F, R, xs, bl, can, pa, ha, fu⟩) (m := ⟨a, b, pr⟩) (c := c) (by rw [hCS.out]; exact h)
      refine ⟨h1.1, h88.out (fun h0 => h1.2 ?_)⟩
      show (can : Int).toNat &&& c.bit = 0
      rw [h0]; simp
     ·unfold MakeR; rw [hend.out zo (by rw [zy]; rfl) false rfl _ rfl, if_pos hC]; exact ⟨rfl, hb⟩
     ·unfold MakeR; rw [hend.out zo (by rw [zy]; rfl) false rfl _ rfl, if_neg (by rw [hC]; decide), if_pos h7]; exact ⟨rfl, hb⟩
     ·unfold MakeR; rw [hend.out zo (by rw [zy]; rfl) false rfl _ rfl, if_neg (by rw [hC]; decide), if_neg h7]; exact ⟨qa, cap, rfl, hb, hqa, hY⟩
    ·go_upto_region 8 with fail
     rename_i k8 hk8
     replace hk8 := Lib.hid hk8
     have p0 : ∀ j, W6.cell? ⟨w.heap.size, j, none⟩ = (posCs F R (some ⟨g, o, none⟩) xs.length cc bl can pa ha fu).toArray[j]? := hP6.cells
     have l0 := hP6.lt
     have p1 : ∀ j, W6.cell? ⟨w.heap.size + 1, j, none⟩ = (#[.int .i64 (a : Int), .int .i64 (b : Int), .int .i8 pr] : Array Value)[j]? := hM6.cells
     have l1 := hM6.lt
     go_wp2_with fail
     refine (hgo hx0 _ (hg.1.call hB6) (hx.call hB6)).mono ?_
     rintro e W7 ⟨rfl, hb7⟩
     have hP7 := hP6.call hb7
     have hM7 := hM6.call hb7
     have hO7 := hO6.call hb7
     have hU7 := hU6.call hb7
     have hE7 := hE6.call hb7
     have hW7 := hW6.call hb7
     have hB7 := below_call hB6 hB6.size hb7
     clear p0 p1 l0 l1 hP6 hM6 hO6 hU6 hE6 hW6 hB6 hb7
     go_wp2_with fail
     refine hk8.out _ _ ?_
     refine mk_run w F R xs bl can pa ha fu _ cc a b pr w.heap.size (w.heap.size + 1) (w.heap.size + 1 + 1) (w.heap.size + 1 + 1 + 1) (w.heap.size + 1 + 1 + 1 + 1) qw false wo _ ?_ _ hF hR hlen.out hor hcc hal hbl hpr hca hha (by omega) (fun h => ?_) (fun c h => ?_) hg hx _ ⟨Nat.le_refl _, by omega, by omega, by omega, by omega, hqw⟩ ⟨hB7, hP7, hM7, hE7, hW7, hO7, hU7⟩ _ rfl _ rfl (fun hC w' hb => ?_) (fun hC h7 w' hb => ?_) (fun hC h7 w' qa cap hb hqa hY => ?_) _ rfl
     ·rw [hz.out]; exact ⟨rfl, rfl, rfl, rfl, rfl, rfl, rfl, rfl, rfl⟩
     ·first | (cases h; done) | exact (by have h1 := cast_some (P := ⟨F, R, xs, bl, can, pa, ha, fu⟩) (m := ⟨a, b, pr⟩) (by rw [hCS.out]); rw [hCS.out] at h1; exact h1)
     ·have h1 := cast_mem (P := ⟨F, R, xs, bl, can, pa, ha, fu⟩) (m := ⟨a, b, pr⟩) (c := c) (by rw [hCS.out]; exact h)
      refine ⟨h1.1, h88.out (fun h0 => h1.2 ?_)⟩
      show (can : Int).toNat &&& c.bit = 0
      rw [h0]; simp
     ·unfold MakeR; rw [hend.out zo (by rw [zy]; rfl) false rfl _ rfl, if_pos hC]; exact ⟨rfl, hb⟩
     ·unfold MakeR; rw [hend.out zo (by rw [zy]; rfl) false rfl _ rfl, if_neg (by rw [hC]; decide), if_pos h7]; exact ⟨rfl, hb⟩
     ·unfold MakeR; rw [hend.out zo (by rw [zy]; rfl) false rfl _ rfl, if_neg (by rw [hC]; decide), if_neg h7]; exact ⟨qa, cap, rfl, hb, hqa, hY⟩
theorem make_any (F R : Nat) (xs : List Int) (bl : Bool) (can : Nat) (pa ha fu : Int) (m : Mv) (pp : Option Addr) (cc : Nat) (hca : can < 256) (hl : xs.length ≤ 1000) (hcc : xs.length ≤ cc) (w : World) (hg : GlobU w) (hx : Arr .i8 w pp xs) :
  Calls Tryz.prog 23 #[.agg (posCs F R pp xs.length cc bl can pa ha fu).toArray, .agg m.cs.toArray] w (MakeR ⟨F, R, xs, bl, can, pa, ha, fu⟩ m w) := by
 rcases h : (pvW F R xs bl can pa ha fu && mvB F R m) with _ | _
 ·have e1 : mkW ⟨F, R, xs, bl, can, pa, ha, fu⟩ m = .error 2 := by
   have e1 : ((⟨F, R, xs, bl, can, pa, ha, fu⟩ : Pos).ok && mvB F R m) = false := h
   unfold mkW
   simp only [e1, if_true]
  refine (make_bad F R xs bl can pa ha fu m pp cc h (by omega) hl hcc w hg.1 hx).mono ?_
  intro e w' h'
  unfold MakeR
  rw [e1]
  exact h'
 ·have h2 := h
  simp only [Bool.and_eq_true] at h2
  have h3 := h2.2
  unfold mvB sqB at h3
  simp only [Bool.and_eq_true, decide_eq_true_eq] at h3
  obtain ⟨⟨_, s1, _⟩, ⟨_, s2, _⟩, _⟩ := h3
  obtain ⟨fr, tg, pr⟩ := m
  obtain ⟨a, rfl⟩ : ∃ a : Nat, fr = a := ⟨fr.toNat, by simp only at s1; omega⟩
  obtain ⟨b, rfl⟩ : ∃ b : Nat, tg = b := ⟨tg.toNat, by simp only at s2; omega⟩
  exact make_good F R xs bl can pa ha fu a b pr pp cc h hca hcc w hg hx
end Go.Proofs.YtefmplccbkmalaaGreatDoor
