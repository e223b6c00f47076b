import Derived.Test.YtefmplccbkmalaaGreatDoorH47
set_option maxHeartbeats 12800000
namespace Go.Proofs.YtefmplccbkmalaaGreatDoor
open Go.RowKit Go.Sort Go.BigFrame

theorem boxed_b (W : World) (old new : Array Value) (t : TypeId) : RowKit.Below W.heap.size W ((W.alloc (.cells old t)).setRow W.heap.size new) := setRow_below (below_box W _) (Nat.le_refl _) (by simp)
theorem boxed_o (W : World) (old new : Array Value) (t : TypeId) : HasO ((W.alloc (.cells old t)).setRow W.heap.size new) W.heap.size (.cells new t (0, 0)) := setRow_hasO (HasO.new W _)
theorem foldl_len {α β : Type} (f : List α → β → List α) (h : ∀ x c, (f x c).length = x.length) : ∀ (l : List β) (x : List α), (l.foldl f x).length = x.length := by
 intro l
 induction l with
 | nil => intro x; rfl
 | cons c l ih => intro x; rw [List.foldl_cons, ih, h]
theorem bef_form (P : Pos) (r : Ret) : ∃ ys, befW P r = ⟨P.F, P.R, ys, !P.bl, r.ca, r.pa, max 0 (P.ha - 1), if !P.bl then P.fu - 1 else P.fu⟩ ∧ ys.length = P.xs.length := by
 refine ⟨(befW P r).xs, rfl, ?_⟩
 unfold befW
 simp only
 rw [ite_len, foldl_len, List.length_set, List.length_set]
 intro x c
 generalize (if r.mv.pr ≠ 0 then pcI 1 !P.bl else P.at_ r.mv.tg) = o
 split
 ·rw [List.length_set, List.length_set]
 ·rfl
abbrev retA (r : Ret) : Array Value := #[.int .i64 r.mv.fr, .int .i64 r.mv.tg, .int .i8 r.mv.pr, .int .i8 r.cp, .int .i64 r.at_, .int .u8 r.ca, .int .i64 r.pa]
abbrev undA (r : Ret) (ha fu : Int) : Array Value := #[.int .i64 r.mv.fr, .int .i64 r.mv.tg, .int .i8 r.mv.pr, .int .i8 r.cp, .int .i64 r.at_, .int .u8 r.ca, .int .i64 r.pa, .int .i64 ha, .int .i64 fu]
theorem hold_row (F R : Nat) (xs : List Int) (bl : Bool) (can : Nat) (pa ha fu : Int) (pp : Option Addr) (cc : Nat) (r : Ret) (hG : GoodR ⟨F, R, xs, bl, can, pa, ha, fu⟩ r) (hv : pvW F R xs bl can pa ha fu = true) (hca : can < 256) (hl : xs.length ≤ 64) (hcc : xs.length ≤ cc) (sb : Bool) (bh bu : Int) (hsb : sb = !bl) (hbh : bh = max 0 (ha - 1)) (hbu : bu = if !bl then fu - 1 else fu) :
  ∃ ys, ys = (befW ⟨F, R, xs, bl, can, pa, ha, fu⟩ r).xs ∧ ys.length = xs.length ∧ pvB F R ys sb r.ca r.pa bh bu = true ∧
   (∀ W, GlobU W → Arr .i8 W pp xs → Calls Tryz.prog 19 #[.agg (posCs F R pp xs.length cc bl can pa ha fu).toArray, .agg (retA r)] W fun e w' => ∃ q c, e = .returned (.tuple #[.agg (posCs F R (some ⟨q, 0, none⟩) ys.length c sb r.ca r.pa bh bu).toArray, .int .i64 0]) ∧ RowKit.Below W.heap.size W w' ∧ OArr w' q c ys) ∧
   (∀ W q c, ys.length ≤ c → GlobU W → Arr .i8 W (some ⟨q, 0, none⟩) ys → Calls Tryz.prog 23 #[.agg (posCs F R (some ⟨q, 0, none⟩) ys.length c sb r.ca r.pa bh bu).toArray, .agg #[.int .i64 r.mv.fr, .int .i64 r.mv.tg, .int .i8 r.mv.pr]] W fun e w' => ∃ q c, e = .returned (.tuple #[.agg (posCs F R (some ⟨q, 0, none⟩) xs.length c bl can pa ha fu).toArray, .agg (undA r bh bu), .int .i64 0]) ∧ RowKit.Below W.heap.size W w' ∧ OArr w' q c xs) := by
 obtain ⟨hm, h0, h256⟩ := hG
 obtain ⟨k1, k2, k3, k4⟩ := may_mk hm
 obtain ⟨ys, e1, e2⟩ : ∃ ys, befW ⟨F, R, xs, bl, can, pa, ha, fu⟩ r = ⟨F, R, ys, sb, r.ca, r.pa, bh, bu⟩ ∧ ys.length = xs.length := by
  subst hsb hbh hbu
  exact bef_form ⟨F, R, xs, bl, can, pa, ha, fu⟩ r
 rw [Bool.and_eq_true] at k1
 have hmb : mvB F R r.mv = true := k1.2
 have hok : pvW F R ys sb r.ca r.pa bh bu = true := by
  have := k1.1
  rw [e1] at this
  exact this
 refine ⟨ys, by rw [e1], e2, by rw [← pv_eq]; exact hok, ?_, ?_⟩
 ·intro W hg hx
  refine (bef19_good F R xs bl can pa ha fu r pp cc (by rw [hv, hmb]; rfl) hca ⟨h0, h256⟩ hcc W hg hx).mono ?_
  rintro e w' ⟨hb, h⟩
  rw [if_pos hm, e1] at h
  obtain ⟨q, c, rfl, _, hO⟩ := h
  exact ⟨q, c, rfl, hb, hO⟩
 ·intro W q c hc hg hx
  have h := make_any F R ys sb r.ca.toNat r.pa bh bu r.mv (some ⟨q, 0, none⟩) c (by omega) (by rw [e2]; omega) hc W hg hx
  rw [show ((r.ca.toNat : Nat) : Int) = r.ca by omega] at h
  refine h.mono ?_
  intro e w' h
  unfold MakeR at h
  rw [← e1, k2] at h
  obtain ⟨q, c, rfl, hb, _, hO⟩ := h
  refine ⟨q, c, ?_, hb, hO⟩
  have hu : (undW (befW ⟨F, R, xs, bl, can, pa, ha, fu⟩ r) r.mv).cs.toArray = undA r bh bu := by
   show (Und.cs ⟨r.mv, _, _, (befW ⟨F, R, xs, bl, can, pa, ha, fu⟩ r).ca, (befW ⟨F, R, xs, bl, can, pa, ha, fu⟩ r).pa, (befW ⟨F, R, xs, bl, can, pa, ha, fu⟩ r).ha, (befW ⟨F, R, xs, bl, can, pa, ha, fu⟩ r).fu⟩).toArray = _
   have k3 : (capW (befW ⟨F, R, xs, bl, can, pa, ha, fu⟩ r) r.mv).2 = r.cp := k3
   have k4 : (capW (befW ⟨F, R, xs, bl, can, pa, ha, fu⟩ r) r.mv).1 = r.at_ := k4
   rw [k3, k4, e1]; rfl
  rw [hu]
theorem mv_eql (m m' : Mv) (W : World) : (binOp .eql 40 (.agg m.cs.toArray) (.agg m'.cs.toArray)).run Tryz.prog W = .ok (.bool (decide (m = m'))) W := by
 rw [run_eql_struct, mv_eqs]; rfl
theorem mv_guard (op : BinOp) (x y : Operand) (xs ys : Array Value) (W : World) : (eqGuard op 40 x y (.agg xs) (.agg ys)).run Tryz.prog W = .ok () W := run_eqGuard_agg _ op 40 x y xs ys (by kernel_rfl)
theorem posE_self (xs : List Int) (b : Bool) (c p : Int) : posE xs xs b b c c p p = true := by simp [posE]
set_option maxRecDepth 100000 in
theorem hold_good (F R : Nat) (xs : List Int) (bl : Bool) (can : Nat) (pa ha fu : Int) (one two : Nat) (pp : Option Addr) (cc : Nat) (hv : pvW F R xs bl can pa ha fu = true) (hca : can < 256) (hcc : xs.length ≤ cc) (hone : one < 65536) (htwo : two < 65536) (w : World) (hg : GlobU w) (ht : TzOk w) (hx : Arr .i8 w pp xs) :
  Calls Tryz.prog 7 #[.agg (posCs F R pp xs.length cc bl can pa ha fu).toArray, .int .u16 one, .int .u16 two] w fun e w' => e = .returned (.bool true) ∧ RowKit.Below w.heap.size w w' := by
 obtain ⟨F', R', e1, e2, hF, hR, hlen, hor, hc15, h88, hha, hfu⟩ := ok_fact hv (by omega)
 obtain rfl : F = F' := by omega
 obtain rfl : R = R' := by omega
 clear e1 e2 hc15 h88 hor hha hfu
 have hl : xs.length ≤ 64 := by rw [hlen]; exact Nat.mul_le_mul hF.2 hR.2
 clear hlen hF hR
 obtain ⟨sb, hsb⟩ : ∃ sb, sb = !bl := ⟨_, rfl⟩
 obtain ⟨bh, hbh⟩ : ∃ sb, sb = max 0 (ha - 1) := ⟨_, rfl⟩
 obtain ⟨bu, hbu⟩ : ∃ sb, sb = if !bl then fu - 1 else fu := ⟨_, rfl⟩
 have hsm := fun W => small_any F R pp xs.length cc bl can pa ha fu W
 rw [show decide (((xs.length : Nat) : Int) ≤ 64) = true from decide_eq_true (by omega)] at hsm
 have hpv := fun W hx => refPos_any F R can pa ha fu bl pp cc xs (by omega) W hx
 rw [← pv_eq, hv] at hpv
 have hmv := fun W hg ht hx => moves_good F R xs bl can pa ha fu pp cc hv hca hcc W hg ht hx
 have hrow := fun r (hr : r ∈ movW ⟨F, R, xs, bl, can, pa, ha, fu⟩) => hold_row F R xs bl can pa ha fu pp cc r (movW_good r hr) hv hca hl hcc sb bh bu hsb hbh hbu
 have heq := fun a b (h1 : a ∈ movW ⟨F, R, xs, bl, can, pa, ha, fu⟩) (h2 : b ∈ movW ⟨F, R, xs, bl, can, pa, ha, fu⟩) => befE_iff (movW_good a h1).1 (movW_good b h2).1
 have hbe : ∀ a b, befE ⟨F, R, xs, bl, can, pa, ha, fu⟩ a b = (posE (befW ⟨F, R, xs, bl, can, pa, ha, fu⟩ a).xs (befW ⟨F, R, xs, bl, can, pa, ha, fu⟩ b).xs sb sb a.ca b.ca a.pa b.pa && ((bh == bh) && (bu == bu))) := fun a b => by rw [hsb, hbh, hbu]; rfl
 have hgd := fun a (h1 : a ∈ movW ⟨F, R, xs, bl, can, pa, ha, fu⟩) => movW_good a h1
 unfold MovesR at hmv
 generalize movW ⟨F, R, xs, bl, can, pa, ha, fu⟩ = L at *
 have hkn := fun W (h : RowKit.Below w.heap.size w W) => known_any W (hg.call h) (show TzOk W from TzOk.call ht h)
 have hA1 := HasO.new w (.cells (posCs F R pp xs.length cc bl can pa ha fu).toArray 26)
 have hB1 := below_box w (.cells (posCs F R pp xs.length cc bl can pa ha fu).toArray 26)
 clear hv hsb hbh hbu
 go_enter Tryz.func7, Tryz.ntmps7
 go_upto_region 1 with fail
 change Code.wp _ _ _ _ (w.alloc (.cells (posCs F R pp xs.length cc bl can pa ha fu).toArray 26))
 generalize w.alloc (.cells (posCs F R pp xs.length cc bl can pa ha fu).toArray 26) = W1 at *
 have c0 := hA1.cells
 have l0 := hA1.lt
 go_wp2_with fail
 refine (hsm W1).mono ?_
 rintro e W2 ⟨rfl, hb2⟩
 have hA2 := hA1.call hb2
 have hB2 := below_call hB1 hB1.size hb2
 clear c0 l0 hA1 hB1 hb2
 have c0 := hA2.cells
 have l0 := hA2.lt
 go_wp2_with fail
 refine (hpv W2 (hx.call hB2)).mono ?_
 rintro e W3 ⟨rfl, hb3⟩
 have hA3 := hA2.call hb3
 have hB3 := below_call hB2 hB2.size hb3
 clear c0 l0 hA2 hB2 hb3
 have c0 := hA3.cells
 have l0 := hA3.lt
 go_wp2_with fail
 refine (hmv W3 (hg.call hB3) (show TzOk W3 from TzOk.call ht hB3) (hx.call hB3)).mono ?_
 rintro e W4 ⟨v, rfl, hown, hb4⟩
 obtain ⟨pL, cL, rfl, hL⟩ := own_rarr hown
 have hA4 := hA3.call hb4
 have hB4 := below_call hB3 hB3.size hb4
 clear c0 l0 hA3 hB3 hb4 hown hmv
 have c0 := hA4.cells
 have l0 := hA4.lt
 obtain ⟨n, hn⟩ : ∃ n, n = L.length := ⟨_, rfl⟩
 rw [← hn]
 replace hn := Lib.hid hn
 rcases Nat.eq_zero_or_pos n with hn0 | hn0
 ·have hn0' : n = 0 := hn0
  subst hn0'
  go_wp2_with fail
  refine (hkn W4 hB4).mono ?_
  rintro e W5 ⟨rfl, hb5⟩
  go_wp2_with fail
  go_ret
  exact ⟨rfl, below_call hB4 hB4.size hb5⟩
 ·have hni : ((n : Int) == 0) = false := by simp; omega
  have hni2 : ¬ (n : Int) = 0 := by omega
  obtain ⟨k1, hk1⟩ : ∃ k, k = one % n := ⟨_, rfl⟩
  obtain ⟨k2, hk2⟩ : ∃ k, k = two % n := ⟨_, rfl⟩
  have k1l : k1 < L.length := by rw [hk1, ← hn.out]; exact Nat.mod_lt _ hn0
  have k2l : k2 < L.length := by rw [hk2, ← hn.out]; exact Nat.mod_lt _ hn0
  obtain ⟨g, rfl, hgl, hxa⟩ := hL.at k1l
  obtain ⟨g', eg, _, hyb⟩ := hL.at k2l
  injection eg with eg
  injection eg with eg _
  subst eg
  obtain ⟨a, ha0⟩ : ∃ a, a = L[k1]?.getD zeroRet := ⟨_, rfl⟩
  obtain ⟨b, hb0⟩ : ∃ b, b = L[k2]?.getD zeroRet := ⟨_, rfl⟩
  have haL : a ∈ L := by rw [ha0, List.getElem?_eq_getElem k1l]; exact List.getElem_mem _
  have hbL : b ∈ L := by rw [hb0, List.getElem?_eq_getElem k2l]; exact List.getElem_mem _
  rw [← ha0] at hxa
  rw [← hb0] at hyb
  have hE := heq a b haL hbL
  rw [hbe] at hE
  obtain ⟨ya, hya, hla, hpa, hfa, hma⟩ := hrow a haL
  obtain ⟨yb, hyb2, hlb, _, hfb, _⟩ := hrow b hbL
  have hac : 0 ≤ a.ca := (hgd a haL).2.1
  rw [← hya, ← hyb2] at hE
  have hregion := fun A Q => hold7r W4 g n cL one two k1 k2 a b hgl hn0 hone htwo hk1 hk2 hxa hyb A Q
  clear hgd hrow heq hbe hL hxa hyb ha0 hb0 haL hbL k1l k2l hya hyb2 hgl
  replace hk1 := Lib.hid hk1
  replace hk2 := Lib.hid hk2
  replace hla := Lib.hid hla
  replace hlb := Lib.hid hlb
  go_upto_region 8 with fail
  refine hregion _ _ rfl rfl rfl (by simp) ?_ _ rfl
  intro f W5 q1 q2 h16 h17 hq1 hq2 hX5 hY5 hb5
  have hA5 := hA4.call hb5
  have hB5 := below_call hB4 hB4.size hb5
  clear c0 l0 hA4 hB4 hb5 hregion
  have c0 := hA5.cells
  have l0 := hA5.lt
  have c1 := hX5.cells
  have l1 := hX5.lt
  simp only [putL, h16, h17]
  go_simp
  go_wp2_with fail
  refine (hfa W5 (hg.call hB5) (hx.call hB5)).mono ?_
  rintro e W6 ⟨qa, qc, rfl, hb6, hO6⟩
  have hA6 := hA5.call hb6
  have hX6 := hX5.call hb6
  have hY6 := hY5.call hb6
  have hB6 := below_call hB5 hB5.size hb6
  clear hA5 hX5 hY5 hB5 hb6 c0 l0 c1 l1 hfa h16 h17
  have hi : Hid ((Tryz.prog.info? 26).map (·.size) = some ((posCs F R (some ⟨qa, 0, none⟩) ya.length qc sb a.ca a.pa bh bu).toArray).size) := Lib.hid (by kernel_rfl)
  have ho : Hid (((posCs F R (some ⟨qa, 0, none⟩) ya.length qc sb a.ca a.pa bh bu).toArray).all (·.oneCell') = true) := Lib.hid (by simp [Value.oneCell'])
  have hZ := HasO.new W6 (.cells zeroPos.toArray 26)
  go_upto_region 10 with (first | ((refine wpList_storeAgg rfl 26 (.tmp 11) (.tmp 58) rfl W6.heap.size ((posCs F R (some ⟨qa, 0, none⟩) ya.length qc sb a.ca a.pa bh bu).toArray) rfl rfl 26 _ hZ hi.out rfl ho.out ?_); rintro w3 rfl) | fail)
  have hbx := boxed_b W6 zeroPos.toArray ((posCs F R (some ⟨qa, 0, none⟩) ya.length qc sb a.ca a.pa bh bu).toArray) 26
  have hN11_7 := boxed_o W6 zeroPos.toArray ((posCs F R (some ⟨qa, 0, none⟩) ya.length qc sb a.ca a.pa bh bu).toArray) 26
  change Code.wp _ _ _ _ ((W6.alloc (.cells zeroPos.toArray 26)).setRow W6.heap.size ((posCs F R (some ⟨qa, 0, none⟩) ya.length qc sb a.ca a.pa bh bu).toArray))
  generalize (W6.alloc (.cells zeroPos.toArray 26)).setRow W6.heap.size ((posCs F R (some ⟨qa, 0, none⟩) ya.length qc sb a.ca a.pa bh bu).toArray) = W7 at *
  have hA7 := hA6.call hbx
  have hX7 := hX6.call hbx
  have hY7 := hY6.call hbx
  have hO7 := hO6.call hbx
  have hB7 := below_call hB6 hB6.size hbx
  clear hA6 hX6 hY6 hO6 hB6 hbx hZ hi ho
  generalize W6.heap.size = q11 at *
  have c0 := hA7.cells
  have l0 := hA7.lt
  have c2 := hY7.cells
  have l2 := hY7.lt
  go_wp2_with fail
  refine (hfb W7 (hg.call hB7) (hx.call hB7)).mono ?_
  rintro e W8 ⟨qb, qd, rfl, hb8, hP8⟩
  have hN8 := hN11_7.call hb8
  have hA8 := hA7.call hb8
  have hX8 := hX7.call hb8
  have hY8 := hY7.call hb8
  have hO8 := hO7.call hb8
  have hB8 := below_call hB7 hB7.size hb8
  clear hA7 hX7 hY7 hO7 hB7 hb8 c0 l0 c2 l2 hN11_7 hfb
  have hi : Hid ((Tryz.prog.info? 26).map (·.size) = some ((posCs F R (some ⟨qb, 0, none⟩) yb.length qd sb b.ca b.pa bh bu).toArray).size) := Lib.hid (by kernel_rfl)
  have ho : Hid (((posCs F R (some ⟨qb, 0, none⟩) yb.length qd sb b.ca b.pa bh bu).toArray).all (·.oneCell') = true) := Lib.hid (by simp [Value.oneCell'])
  have hZ := HasO.new W8 (.cells zeroPos.toArray 26)
  go_upto_region 11 with (first | ((refine wpList_storeAgg rfl 26 (.tmp 13) (.tmp 64) rfl W8.heap.size ((posCs F R (some ⟨qb, 0, none⟩) yb.length qd sb b.ca b.pa bh bu).toArray) rfl rfl 26 _ hZ hi.out rfl ho.out ?_); rintro w3 rfl) | fail)
  have hbx := boxed_b W8 zeroPos.toArray ((posCs F R (some ⟨qb, 0, none⟩) yb.length qd sb b.ca b.pa bh bu).toArray) 26
  have hN13_9 := boxed_o W8 zeroPos.toArray ((posCs F R (some ⟨qb, 0, none⟩) yb.length qd sb b.ca b.pa bh bu).toArray) 26
  change Code.wp _ _ _ _ ((W8.alloc (.cells zeroPos.toArray 26)).setRow W8.heap.size ((posCs F R (some ⟨qb, 0, none⟩) yb.length qd sb b.ca b.pa bh bu).toArray))
  generalize (W8.alloc (.cells zeroPos.toArray 26)).setRow W8.heap.size ((posCs F R (some ⟨qb, 0, none⟩) yb.length qd sb b.ca b.pa bh bu).toArray) = W9 at *
  have hA9 := hA8.call hbx
  have hX9 := hX8.call hbx
  have hY9 := hY8.call hbx
  have hO9 := hO8.call hbx
  have hP9 := hP8.call hbx
  have hN9 := hN8.call hbx
  have hB9 := below_call hB8 hB8.size hbx
  clear hA8 hX8 hY8 hO8 hP8 hN8 hB8 hbx hZ hi ho
  generalize W8.heap.size = q13 at *
  have c1 := hX9.cells
  have l1 := hX9.lt
  have c3 := hN9.cells
  have l3 := hN9.lt
  have hmk := hma W9 qa qc (by obtain ⟨cur, h1, h2, h3, h4⟩ := hO9; exact h2) (hg.call hB9) hO9.arr
  go_wp2_with fail
  refine hmk.mono ?_
  rintro e W10 ⟨qm, qe, rfl, hb10, hM10⟩
  have hN13_10 := hN13_9.call hb10
  have hA10 := hA9.call hb10
  have hX10 := hX9.call hb10
  have hY10 := hY9.call hb10
  have hO10 := hO9.call hb10
  have hP10 := hP9.call hb10
  have hN10 := hN9.call hb10
  have hB10 := below_call hB9 hB9.size hb10
  clear hA9 hX9 hY9 hO9 hP9 hN9 hB9 hb10 c1 l1 c3 l3 hN13_9 hma hmk
  have hZ7 := (HasO.new W10 (.cells zeroPos.toArray 26)).alloc (.cells zeroUnd.toArray 54)
  have hZ8 := HasO.new' (W10.alloc (.cells zeroPos.toArray 26)) (.cells zeroUnd.toArray 54) (q := W10.heap.size + 1) (by simp)
  have hi7 : Hid ((Tryz.prog.info? 26).map (·.size) = some ((posCs F R (some ⟨qm, 0, none⟩) xs.length qe bl can pa ha fu).toArray).size) := Lib.hid (by kernel_rfl)
  have ho7 : Hid (((posCs F R (some ⟨qm, 0, none⟩) xs.length qe bl can pa ha fu).toArray).all (·.oneCell') = true) := Lib.hid (by simp [Value.oneCell'])
  have hi8 : Hid ((Tryz.prog.info? 54).map (·.size) = some (undA a bh bu).size) := Lib.hid (by kernel_rfl)
  have ho8 : Hid ((undA a bh bu).all (·.oneCell') = true) := Lib.hid (by simp [Value.oneCell'])
  have hZ8' := hZ8.setRow_far (g := W10.heap.size) (cells := (posCs F R (some ⟨qm, 0, none⟩) xs.length qe bl can pa ha fu).toArray) (by omega)
  go_upto_region 12 with (first | ((refine wpList_storeAgg rfl 26 (.tmp 15) (.tmp 71) rfl W10.heap.size ((posCs F R (some ⟨qm, 0, none⟩) xs.length qe bl can pa ha fu).toArray) rfl rfl 26 _ hZ7 hi7.out rfl ho7.out ?_); rintro w3 rfl) | ((refine wpList_storeAgg rfl 54 (.tmp 16) (.tmp 72) rfl (W10.heap.size + 1) (undA a bh bu) rfl rfl 54 _ hZ8' hi8.out rfl ho8.out ?_); rintro w3 rfl) | fail)
  have hQ11 := (setRow_hasO (cells := (posCs F R (some ⟨qm, 0, none⟩) xs.length qe bl can pa ha fu).toArray) hZ7).setRow_far (g := W10.heap.size + 1) (cells := undA a bh bu) (by omega)
  have hU11 := setRow_hasO (cells := undA a bh bu) hZ8'
  have hb7 := ((below_box W10 (.cells zeroPos.toArray 26)).alloc (by simp) (.cells zeroUnd.toArray 54))
  have hbx := setRow_below (cells := undA a bh bu) (setRow_below (cells := (posCs F R (some ⟨qm, 0, none⟩) xs.length qe bl can pa ha fu).toArray) hb7 (g := W10.heap.size) (Nat.le_refl _) hb7.size) (g := W10.heap.size + 1) (by omega) (setRow_below (cells := (posCs F R (some ⟨qm, 0, none⟩) xs.length qe bl can pa ha fu).toArray) hb7 (g := W10.heap.size) (Nat.le_refl _) hb7.size).size
  change Code.wp _ _ _ _ ((((W10.alloc (.cells zeroPos.toArray 26)).alloc (.cells zeroUnd.toArray 54)).setRow W10.heap.size ((posCs F R (some ⟨qm, 0, none⟩) xs.length qe bl can pa ha fu).toArray)).setRow (W10.heap.size + 1) (undA a bh bu))
  generalize (((W10.alloc (.cells zeroPos.toArray 26)).alloc (.cells zeroUnd.toArray 54)).setRow W10.heap.size ((posCs F R (some ⟨qm, 0, none⟩) xs.length qe bl can pa ha fu).toArray)).setRow (W10.heap.size + 1) (undA a bh bu) = W11 at *
  have hN13_11 := hN13_10.call hbx
  have hA11 := hA10.call hbx
  have hX11 := hX10.call hbx
  have hY11 := hY10.call hbx
  have hO11 := hO10.call hbx
  have hP11 := hP10.call hbx
  have hN11 := hN10.call hbx
  have hM11 := hM10.call hbx
  have hB11 := below_call hB10 hB10.size hbx
  clear hA10 hX10 hY10 hO10 hP10 hN10 hM10 hB10 hbx hZ7 hZ8 hZ8' hi7 ho7 hi8 ho8 hb7 hN13_10
  generalize W10.heap.size = q15 at *
  have c0 := hA11.cells
  have l0 := hA11.lt
  have c1 := hX11.cells
  have l1 := hX11.lt
  have c2 := hN11.cells
  have l2 := hN11.lt
  have c3 := hQ11.cells
  have l3 := hQ11.lt
  have c4 := hU11.cells
  have l4 := hU11.lt
  have hpo := refPos_any F R a.ca a.pa bh bu sb (some ⟨qa, 0, none⟩) qc ya (hac) W11 hO11.arr
  rw [hpa] at hpo
  go_wp2_with fail
  refine hpo.mono ?_
  rintro e W12 ⟨rfl, hb12⟩
  have hN13_12 := hN13_11.call hb12
  have hQ12 := hQ11.call hb12
  have hU12 := hU11.call hb12
  have hA12 := hA11.call hb12
  have hX12 := hX11.call hb12
  have hY12 := hY11.call hb12
  have hO12 := hO11.call hb12
  have hP12 := hP11.call hb12
  have hN12 := hN11.call hb12
  have hM12 := hM11.call hb12
  have hB12 := below_call hB11 hB11.size hb12
  clear hA11 hX11 hY11 hO11 hP11 hN11 hM11 hB11 hb12 c0 l0 c1 l1 c2 l2 c3 l3 c4 l4 hN13_11 hQ11 hU11 hpo hpa
  have c0 := hA12.cells
  have l0 := hA12.lt
  have c3 := hQ12.cells
  have l3 := hQ12.lt
  have heq := refEqualG_any F R (some ⟨qm, 0, none⟩) pp qe cc xs xs bl bl can can pa pa ha ha fu fu rfl (by omega) W12 hM12.arr (hx.call hB12)
  rw [posE_self, beq_self_eq_true, beq_self_eq_true] at heq
  go_wp2_with fail
  refine heq.mono ?_
  rintro e W13 ⟨rfl, hb13⟩
  have hN13_13 := hN13_12.call hb13
  have hU13 := hU12.call hb13
  have hX13 := hX12.call hb13
  have hY13 := hY12.call hb13
  have hO13 := hO12.call hb13
  have hP13 := hP12.call hb13
  have hN13 := hN12.call hb13
  have hB13 := below_call hB12 hB12.size hb13
  clear hA12 hX12 hY12 hO12 hP12 hN12 hM12 hB12 hb13 c0 l0 c3 l3 hN13_12 hQ12 hU12 heq
  have c1 := hX13.cells
  have l1 := hX13.lt
  have c4 := hU13.cells
  have l4 := hU13.lt
  go_upto_region 14 with fail
  clear c1 l1 c4 l4 hU13
  have t1 := call_gr (w := W13) (fun W h => hkn W (below_call hB13 hB13.size h))
  have t2 := call_gr (w := W13) (fun W h => refEqualG_any F R (some ⟨qa, 0, none⟩) (some ⟨qb, 0, none⟩) qc qd ya yb sb sb a.ca b.ca a.pa b.pa bh bh bu bu (by rw [hlb.out, hla.out]) (by rw [hla.out]; omega) W (hO13.call h).arr (hP13.call h).arr)
  have m1 : ∀ d os j, (grow (redrawn W13 d) os).cell? ⟨q1, j, none⟩ = (retA a)[j]? := row_gr hX13
  have m2 : ∀ d os j, (grow (redrawn W13 d) os).cell? ⟨q2, j, none⟩ = (retA b)[j]? := row_gr hY13
  have m3 : ∀ d os j, (grow (redrawn W13 d) os).cell? ⟨q11, j, none⟩ = ((posCs F R (some ⟨qa, 0, none⟩) ya.length qc sb a.ca a.pa bh bu).toArray)[j]? := row_gr hN13
  have m4 : ∀ d os j, (grow (redrawn W13 d) os).cell? ⟨q13, j, none⟩ = ((posCs F R (some ⟨qb, 0, none⟩) yb.length qd sb b.ca b.pa bh bu).toArray)[j]? := row_gr hN13_13
  have s1 : ∀ W, (binOp .eql 42 (.agg (retA a)) (.agg (retA b))).run Tryz.prog W = .ok (.bool (decide (a = b))) W := fun W => ret_eql a b W
  have s2 : ∀ W, (binOp .eql 40 (.agg #[.int .i64 a.mv.fr, .int .i64 a.mv.tg, .int .i8 a.mv.pr]) (.agg #[.int .i64 b.mv.fr, .int .i64 b.mv.tg, .int .i8 b.mv.pr])).run Tryz.prog W = .ok (.bool (decide (a.mv = b.mv))) W := fun W => mv_eql a.mv b.mv W
  have s3 := fun op x y xs ys W => ret_guard op x y xs ys W
  have s4 := fun op x y xs ys W => mv_guard op x y xs ys W
  generalize (posE ya yb sb sb a.ca b.ca a.pa b.pa && ((bh == bh) && (bu == bu))) = E at *
  generalize decide (a = b) = D at *
  rcases z1 : decide (a.mv = b.mv) with _ | _
  ·rw [z1] at s2 hE
   obtain rfl : D = false := by simpa using hE
   refine wp_region_all (by kernel_rfl) (by kernel_rfl) ?_
   repeat (go_big_quiet_step (first | with_reducible exact t1 _ _ | with_reducible exact t2 _ _ | fail))
   refine wpQuiet_nil ?_
   intro w2 hb2
   go_wp2_with fail
   go_ret
   exact ⟨rfl, below_call hB13 hB13.size hb2⟩
  ·rw [z1] at s2 hE
   obtain rfl : D = E := by simpa using hE
   refine wp_region_all (by kernel_rfl) (by kernel_rfl) ?_
   repeat (go_big_quiet_step (first | with_reducible exact t1 _ _ | with_reducible exact t2 _ _ | fail))
   refine wpQuiet_nil ?_
   intro w2 hb2
   go_wp2_with fail
   go_ret
   exact ⟨rfl, below_call hB13 hB13.size hb2⟩
set_option maxRecDepth 100000 in
theorem UnmoveHolds_any (f r : Int) (xs : List Int) (bl : Bool) (ca pa ha fu : Int) (one two : Nat) (pp : Option Addr) (cc : Nat) (hca : 0 ≤ ca ∧ ca < 256) (hcc : xs.length ≤ cc) (hone : one < 65536) (htwo : two < 65536) (w : World) (hg : GlobU w) (ht : TzOk w) (hx : Arr .i8 w pp xs) :
  Calls Tryz.prog 7 #[.agg (posCs f r pp xs.length cc bl ca pa ha fu).toArray, .int .u16 one, .int .u16 two] w fun e w' => e = .returned (.bool true) ∧ RowKit.Below w.heap.size w w' := by
 have hsm := fun W => small_any f r pp xs.length cc bl ca pa ha fu W
 have hkn := fun W (h : RowKit.Below w.heap.size w W) => known_any W (hg.call h) (show TzOk W from TzOk.call ht h)
 have hA1 := HasO.new w (.cells (posCs f r pp xs.length cc bl ca pa ha fu).toArray 26)
 have hB1 := below_box w (.cells (posCs f r pp xs.length cc bl ca pa ha fu).toArray 26)
 rcases hl : decide (((xs.length : Nat) : Int) ≤ 64) with _ | _
 ·rw [hl] at hsm
  clear hl
  have c0 := hA1.cells
  have l0 := hA1.lt
  go_enter Tryz.func7, Tryz.ntmps7
  go_wp2_with fail
  refine (hsm _).mono ?_
  rintro e W2 ⟨rfl, hb2⟩
  have hB2 := below_call hB1 hB1.size hb2
  go_wp2_with fail
  refine (hkn W2 hB2).mono ?_
  rintro e W3 ⟨rfl, hb3⟩
  go_wp2_with fail
  go_ret
  exact ⟨rfl, below_call hB2 hB2.size hb3⟩
 ·rcases hv : pvW f r xs bl ca pa ha fu with _ | _
  ·rw [hl] at hsm
   clear hl
   have hpv := fun W hx => refPos_any f r ca pa ha fu bl pp cc xs hca.1 W hx
   rw [← pv_eq, hv] at hpv
   clear hv
   have c0 := hA1.cells
   have l0 := hA1.lt
   go_enter Tryz.func7, Tryz.ntmps7
   go_wp2_with fail
   refine (hsm _).mono ?_
   rintro e W2 ⟨rfl, hb2⟩
   have hA2 := hA1.call hb2
   have hB2 := below_call hB1 hB1.size hb2
   clear c0 l0
   have c0 := hA2.cells
   have l0 := hA2.lt
   go_wp2_with fail
   refine (hpv W2 (hx.call hB2)).mono ?_
   rintro e W3 ⟨rfl, hb3⟩
   have hB3 := below_call hB2 hB2.size hb3
   go_wp2_with fail
   refine (hkn W3 hB3).mono ?_
   rintro e W4 ⟨rfl, hb4⟩
   go_wp2_with fail
   go_ret
   exact ⟨rfl, below_call hB3 hB3.size hb4⟩
  ·obtain ⟨F, R, rfl, rfl, _⟩ := ok_fact hv hca.1
   obtain ⟨can, rfl⟩ : ∃ can : Nat, ca = can := ⟨ca.toNat, by omega⟩
   exact hold_good F R xs bl can pa ha fu one two pp cc hv (by omega) hcc hone htwo w hg ht hx
end Go.Proofs.YtefmplccbkmalaaGreatDoor
