import Derived.Test.YtefmplccbkmalaaGreatDoorF43
import Derived.Test.YtefmplccbkmalaaGreatDoorF49
set_option maxHeartbeats 12800000
namespace Go.Proofs.YtefmplccbkmalaaGreatDoor
open Go.RowKit Go.Sort Go.BigFrame

theorem wpList_eqlR {ops : Array Oper} {rest : List Oper} {o : Oper} {a : Act} {Q : Exit → Act → World → Prop} {w : World} (hg : o.guard = none) (x y : Operand) (hop : o.op = Op.binOp .eql 42 x y 42) (m m' : Ret)
  (hx : a.eval x = .agg m.cs.toArray) (hy : a.eval y = .agg m'.cs.toArray) (b : Bool) (hb : decide (m = m') = b) (hK : wpList Tryz.prog ops Q rest (a.put o.dst (.bool b)) w) : wpList Tryz.prog ops Q (o :: rest) a w := by
 refine wpList_plain hg fun K' hK' => ?_
 have h := st_bin (P := Tryz.prog) (Q := Q) (t := fun _ => none) (X := False) hg .eql 42 42 x y hop hx hy (ret_guard .eql _ _ _ _ _) ((ret_eql m m' w).trans (by rw [hb])) (hK' _ _ hK)
 rwa [if_pos (wanted_none hg)] at h
abbrev mvA (m : Mv) : Array Value := #[.int .i64 m.fr, .int .i64 m.tg, .int .i8 m.pr]
abbrev rtA (m : Mv) (cp t : Int) (can : Nat) (pa : Int) : Array Value := #[.int .i64 m.fr, .int .i64 m.tg, .int .i8 m.pr, .int .i8 cp, .int .i64 t, .int .u8 can, .int .i64 pa]
abbrev unA (m : Mv) (cp t : Int) (can : Nat) (pa ha fu : Int) : Array Value := #[.int .i64 m.fr, .int .i64 m.tg, .int .i8 m.pr, .int .i8 cp, .int .i64 t, .int .u8 can, .int .i64 pa, .int .i64 ha, .int .i64 fu]
set_option maxRecDepth 100000 in
theorem fwd_good (F R : Nat) (xs : List Int) (bl : Bool) (can : Nat) (pa ha fu : Int) (m : Mv) (pp : Option Addr) (cc : Nat) (q : Pos) (u : Und) (hmk : mkW ⟨F, R, xs, bl, can, pa, ha, fu⟩ m = .ok (q, u)) (hcc : xs.length ≤ cc) (hl : xs.length ≤ 64) (w : World) (hg : GlobU w) (ht : TzOk w) (hx : Arr .i8 w pp xs) :
  Calls Tryz.prog 6 #[.agg (posCs F R pp xs.length cc bl can pa ha fu).toArray, .agg (mvA m)] w fun e w' => e = .returned (.bool true) ∧ RowKit.Below w.heap.size w w' := by
 obtain ⟨ys, sb, qc, qpa, qha, qfu, cp, t, rfl, hly, hqc, hvq, rfl, hcnt, hmay, hbef, hqh, hha, hmb, hca, hF8⟩ := fwd_row hmk
 have hsm := fun W => small_any F R pp xs.length cc bl can pa ha fu W
 rw [show decide (((xs.length : Nat) : Int) ≤ 64) = true from decide_eq_true (by omega)] at hsm
 have hkn := fun W (h : RowKit.Below w.heap.size w W) => known_any W (hg.call h) (show TzOk W from TzOk.call ht h)
 have hmake : ∀ W, GlobU W → Arr .i8 W pp xs → Calls Tryz.prog 23 #[.agg (posCs F R pp xs.length cc bl can pa ha fu).toArray, .agg (mvA m)] W fun e w' => ∃ q c, e = .returned (.tuple #[.agg (posCs F R (some ⟨q, 0, none⟩) ys.length c sb qc qpa qha qfu).toArray, .agg (unA m cp t can pa ha fu), .int .i64 0]) ∧ RowKit.Below W.heap.size W w' ∧ OArr w' q c ys := by
  intro W hgW hxW
  refine (make_any F R xs bl can pa ha fu m pp cc hca (by omega) hcc W hgW hxW).mono ?_
  intro e w' h
  unfold MakeR at h
  rw [hmk] at h
  obtain ⟨q, c, rfl, hb, _, hO⟩ := h
  exact ⟨q, c, rfl, hb, hO⟩
 have hmov : ∀ W q c, ys.length ≤ c → GlobU W → TzOk W → Arr .i8 W (some ⟨q, 0, none⟩) ys → Calls Tryz.prog 11 #[.agg (posCs F R (some ⟨q, 0, none⟩) ys.length c sb qc qpa qha qfu).toArray] W (MovesR ⟨F, R, ys, sb, qc, qpa, qha, qfu⟩ W) :=
  fun W q c hc h1 h2 h3 => moves_good F R ys sb qc qpa qha qfu _ c hvq hqc hc W h1 h2 h3
 have hbk : ∀ W q c, ys.length ≤ c → GlobU W → Arr .i8 W (some ⟨q, 0, none⟩) ys → Calls Tryz.prog 19 #[.agg (posCs F R (some ⟨q, 0, none⟩) ys.length c sb qc qpa qha qfu).toArray, .agg (rtA m cp t can pa)] W fun e w' => ∃ q c, e = .returned (.tuple #[.agg (posCs F R (some ⟨q, 0, none⟩) xs.length c bl can pa (max 0 (qha - 1)) fu).toArray, .int .i64 0]) ∧ RowKit.Below W.heap.size W w' ∧ OArr w' q c xs := by
  intro W q c hc h1 h2
  refine (bef19_good F R ys sb qc qpa qha qfu ⟨m, cp, t, can, pa⟩ _ c (by rw [hvq, hmb]; rfl) hqc (by simp only; omega) hc W h1 h2).mono ?_
  rintro e w' ⟨hb, h⟩
  rw [if_pos hmay, hbef] at h
  obtain ⟨q, c, rfl, _, hO⟩ := h
  exact ⟨q, c, rfl, hb, hO⟩
 obtain ⟨bh, hbh⟩ : ∃ bh, bh = max 0 (qha - 1) := ⟨_, rfl⟩
 rw [← hbh] at hbk
 replace hbh := Lib.hid hbh
 have hLl := movW_leng ⟨F, R, ys, sb, qc, qpa, qha, qfu⟩ hF8
 unfold MovesR at hmov
 generalize movW ⟨F, R, ys, sb, qc, qpa, qha, qfu⟩ = L at *
 clear hmk hvq hmay hbef hmb
 have hA1 := (HasO.new w (.cells (posCs F R pp xs.length cc bl can pa ha fu).toArray 26)).alloc (.cells (mvA m) 40)
 have hM1 := HasO.new' (w.alloc (.cells (posCs F R pp xs.length cc bl can pa ha fu).toArray 26)) (.cells (mvA m) 40) (q := w.heap.size + 1) (by simp)
 have hB1 := (below_box w (.cells (posCs F R pp xs.length cc bl can pa ha fu).toArray 26)).alloc (by simp) (.cells (mvA m) 40)
 replace hly := Lib.hid hly
 go_enter Tryz.func6, Tryz.ntmps6
 go_upto_region 1 with fail
 change Code.wp _ _ _ _ ((w.alloc (.cells (posCs F R pp xs.length cc bl can pa ha fu).toArray 26)).alloc (.cells (mvA m) 40))
 generalize (w.alloc (.cells (posCs F R pp xs.length cc bl can pa ha fu).toArray 26)).alloc (.cells (mvA m) 40) = W1 at *
 obtain ⟨q0, hq0⟩ : ∃ q, q = w.heap.size := ⟨_, rfl⟩
 rw [← hq0] at hA1 hM1 ⊢
 replace hq0 := Lib.hid hq0
 have c0 := hA1.cells
 have l0 := hA1.lt
 have c1 := hM1.cells
 have l1 := hM1.lt
 go_wp2_with fail
 refine (hsm W1).mono ?_
 rintro e W2 ⟨rfl, hb2⟩
 have hA2 := hA1.call hb2
 have hM2 := hM1.call hb2
 have hB2 := below_call hB1 hB1.size hb2
 clear c0 l0 c1 l1 hA1 hM1 hB1 hb2
 have c0 := hA2.cells
 have l0 := hA2.lt
 have c1 := hM2.cells
 have l1 := hM2.lt
 go_wp2_with fail
 refine (hmake W2 (hg.call hB2) (hx.call hB2)).mono ?_
 rintro e W3 ⟨qq, qd, rfl, hb3, hO3⟩
 have hA3 := hA2.call hb3
 have hM3 := hM2.call hb3
 have hB3 := below_call hB2 hB2.size hb3
 clear c0 l0 c1 l1 hA2 hM2 hB2 hb3 hmake
 have hZ7 := (HasO.new W3 (.cells zeroPos.toArray 26)).alloc (.cells zeroUnd.toArray 54)
 have hZ8 := HasO.new' (W3.alloc (.cells zeroPos.toArray 26)) (.cells zeroUnd.toArray 54) (q := W3.heap.size + 1) (by simp)
 have hi7 : Hid ((Tryz.prog.info? 26).map (·.size) = some ((posCs F R (some ⟨qq, 0, none⟩) ys.length qd sb qc qpa qha qfu).toArray).size) := Lib.hid (by kernel_rfl)
 have ho7 : Hid (((posCs F R (some ⟨qq, 0, none⟩) ys.length qd sb qc qpa qha qfu).toArray).all (·.oneCell') = true) := Lib.hid (by simp [Value.oneCell'])
 have hi8 : Hid ((Tryz.prog.info? 54).map (·.size) = some (unA m cp t can pa ha fu).size) := Lib.hid (by kernel_rfl)
 have ho8 : Hid ((unA m cp t can pa ha fu).all (·.oneCell') = true) := Lib.hid (by simp [Value.oneCell'])
 have hZ8' := hZ8.setRow_far (g := W3.heap.size) (cells := (posCs F R (some ⟨qq, 0, none⟩) ys.length qd sb qc qpa qha qfu).toArray) (by omega)
 go_upto_region 4 with (first | ((refine wpList_storeAgg rfl 26 (.tmp 5) (.tmp 24) rfl W3.heap.size ((posCs F R (some ⟨qq, 0, none⟩) ys.length qd sb qc qpa qha qfu).toArray) rfl rfl 26 _ hZ7 hi7.out rfl ho7.out ?_); rintro w3 rfl) | ((refine wpList_storeAgg rfl 54 (.tmp 6) (.tmp 25) rfl (W3.heap.size + 1) (unA m cp t can pa ha fu) rfl rfl 54 _ hZ8' hi8.out rfl ho8.out ?_); rintro w3 rfl) | fail)
 have hQ4 := (setRow_hasO (cells := (posCs F R (some ⟨qq, 0, none⟩) ys.length qd sb qc qpa qha qfu).toArray) hZ7).setRow_far (g := W3.heap.size + 1) (cells := unA m cp t can pa ha fu) (by omega)
 have hU4 := setRow_hasO (cells := unA m cp t can pa ha fu) hZ8'
 have hb7 := ((below_box W3 (.cells zeroPos.toArray 26)).alloc (by simp) (.cells zeroUnd.toArray 54))
 have hbx := setRow_below (cells := unA m cp t can pa ha fu) (setRow_below (cells := (posCs F R (some ⟨qq, 0, none⟩) ys.length qd sb qc qpa qha qfu).toArray) hb7 (g := W3.heap.size) (Nat.le_refl _) hb7.size) (g := W3.heap.size + 1) (by omega) (setRow_below (cells := (posCs F R (some ⟨qq, 0, none⟩) ys.length qd sb qc qpa qha qfu).toArray) hb7 (g := W3.heap.size) (Nat.le_refl _) hb7.size).size
 change Code.wp _ _ _ _ ((((W3.alloc (.cells zeroPos.toArray 26)).alloc (.cells zeroUnd.toArray 54)).setRow W3.heap.size ((posCs F R (some ⟨qq, 0, none⟩) ys.length qd sb qc qpa qha qfu).toArray)).setRow (W3.heap.size + 1) (unA m cp t can pa ha fu))
 generalize (((W3.alloc (.cells zeroPos.toArray 26)).alloc (.cells zeroUnd.toArray 54)).setRow W3.heap.size ((posCs F R (some ⟨qq, 0, none⟩) ys.length qd sb qc qpa qha qfu).toArray)).setRow (W3.heap.size + 1) (unA m cp t can pa ha fu) = W4 at *
 have hA4 := hA3.call hbx
 have hM4 := hM3.call hbx
 have hO4 := hO3.call hbx
 have hB4 := below_call hB3 hB3.size hbx
 clear hA3 hM3 hO3 hB3 hbx hZ7 hZ8 hZ8' hi7 ho7 hi8 ho8 hb7
 generalize W3.heap.size = q5 at *
 have c0 := hA4.cells
 have l0 := hA4.lt
 have c1 := hM4.cells
 have l1 := hM4.lt
 have c2 := hQ4.cells
 have l2 := hQ4.lt
 have c3 := hU4.cells
 have l3 := hU4.lt
 have hcq : ys.length ≤ qd := by obtain ⟨cur, h1, h2, h3, h4⟩ := hO4; exact h2
 go_wp2_with fail
 refine (hmov W4 qq qd hcq (hg.call hB4) (show TzOk W4 from TzOk.call ht hB4) hO4.arr).mono ?_
 rintro e W5 ⟨v, rfl, hown, hb5⟩
 obtain ⟨pL, cL, rfl, hL⟩ := own_rarr hown
 have hA5 := hA4.call hb5
 have hM5 := hM4.call hb5
 have hQ5 := hQ4.call hb5
 have hU5 := hU4.call hb5
 have hO5 := hO4.call hb5
 have hB5 := below_call hB4 hB4.size hb5
 clear c0 l0 c1 l1 c2 l2 c3 l3 hA4 hM4 hQ4 hU4 hO4 hB4 hb5 hown hmov
 have c1 := hM5.cells
 have l1 := hM5.lt
 have c3 := hU5.cells
 have l3 := hU5.lt
 obtain ⟨n, hn⟩ : ∃ n, n = L.length := ⟨_, rfl⟩
 rw [← hn] at hLl ⊢
 replace hn := Lib.hid hn
 have hi : Hid ((Tryz.prog.info? 42).map (·.size) = some ((rtA m cp t can pa) : Array Value).size) := Lib.hid (by kernel_rfl)
 have ho : Hid (((rtA m cp t can pa) : Array Value).all (·.oneCell') = true) := Lib.hid (by simp [Value.oneCell'])
 have hZ := HasO.new W5 (.cells zeroRet.cs.toArray 42)
 go_upto_region 8 with (first | ((refine wpList_storeAgg rfl 42 (.tmp 10) (.tmp 44) rfl W5.heap.size (rtA m cp t can pa) rfl rfl 42 _ hZ hi.out rfl ho.out ?_); rintro w3 rfl) | fail)
 have hbx := boxed_b W5 zeroRet.cs.toArray (rtA m cp t can pa) 42
 have hR6 := boxed_o W5 zeroRet.cs.toArray (rtA m cp t can pa) 42
 change Code.wp _ _ _ _ ((W5.alloc (.cells zeroRet.cs.toArray 42)).setRow W5.heap.size (rtA m cp t can pa))
 generalize (W5.alloc (.cells zeroRet.cs.toArray 42)).setRow W5.heap.size (rtA m cp t can pa) = W6 at *
 have hA6 := hA5.call hbx
 have hQ6 := hQ5.call hbx
 have hO6 := hO5.call hbx
 have hL6 := hL.call hbx
 have hB6 := below_call hB5 hB5.size hbx
 clear c1 l1 c3 l3 hA5 hM5 hQ5 hU5 hO5 hL hB5 hbx hZ hi ho
 generalize W5.heap.size = q10 at *
 go_wp2_with fail
 go_loopg [11, 47] 3264001 (fun q nv iv wr => ∃ (k N : Nat), q + k = 3264001 ∧ k ≤ n ∧ iv = .int .i64 k ∧ nv = .int .i64 N ∧ Hid ((L.take k).count (⟨m, cp, t, can, pa⟩ : Ret) = N) ∧ RowKit.Below W6.heap.size W6 wr)
 case atStart => exact ⟨0, 0, by omega, Nat.zero_le _, rfl, rfl, Lib.hid rfl, Below.refl _ _⟩
 case round =>
  obtain ⟨k, N, hq, hk, rfl, rfl, hN, hBr⟩ := hrel
  have hA7 := hA6.call hBr
  have hQ7 := hQ6.call hBr
  have hO7 := hO6.call hBr
  have hR7 := hR6.call hBr
  have hB7 := below_call hB6 hB6.size hBr
  by_cases hlt : k < n
  ·have hki : (k : Int) < n := by omega
   have hkL : k < L.length := by rw [← hn.out]; exact hlt
   obtain ⟨g, e, hg', hxr⟩ := (hL6.call hBr).at (j := k) hkL
   subst e
   obtain ⟨x, hx0⟩ : ∃ x, x = L[k]?.getD zeroRet := ⟨_, rfl⟩
   rw [← hx0] at hxr
   obtain ⟨b, hb⟩ : ∃ b, b = decide (x = (⟨m, cp, t, can, pa⟩ : Ret)) := ⟨_, rfl⟩
   have hnx : Hid ((L.take (k + 1)).count (⟨m, cp, t, can, pa⟩ : Ret) = N + if b then 1 else 0) := by
    refine Lib.hid ?_
    rw [List.take_succ_eq_append_getElem hkL, List.count_append, hN.out, List.count_singleton, hb, hx0, List.getElem?_eq_getElem hkL, Option.getD_some]
    simp only [beq_iff_eq, decide_eq_true_eq]
   have hNb : N ≤ k := by
    rw [← hN.out]
    refine Nat.le_trans List.count_le_length ?_
    rw [List.length_take]
    omega
   replace hx0 := Lib.hid hx0
   replace hb := Lib.hid hb
   clear hA6 hQ6 hO6 hR6 hB6 hL6 hA7 hQ7 hO7 hkn hcnt hbk
   have c2 := hR7.cells
   have l2 := hR7.lt
   go_upto_region 12 with (first | (refine wpList_loadA rfl 42 (.tmp 49) rfl rfl x.cs (by kernel_rfl) hxr ?_) | fail)
   change Code.wp _ _ _ _ (wr.alloc (.cells x.cs.toArray 42))
   have hB3 := below_call hBr hBr.size (below_box wr (.cells x.cs.toArray 42))
   have hX := HasO.new wr (.cells x.cs.toArray 42)
   have hR8 := hR7.call (below_box wr (.cells x.cs.toArray 42))
   generalize wr.alloc (.cells x.cs.toArray 42) = w3 at *
   clear hxr hR7 hBr c2 l2 hB7
   have hxc : ∀ j v, x.cs[j]? = some v → w3.cell? ⟨wr.heap.size, 0 + j, none⟩ = some v := fun j v hv => by rw [Nat.zero_add, hX.cells]; simpa using hv
   have hrc : ∀ j v, (⟨m, cp, t, can, pa⟩ : Ret).cs[j]? = some v → w3.cell? ⟨q10, 0 + j, none⟩ = some v := fun j v hv => by rw [Nat.zero_add, hR8.cells]; simpa using hv
   rcases b with _ | _
   ·go_wp2_with (first | (refine wpList_loadA rfl 42 (.tmp 13) rfl rfl x.cs (by kernel_rfl) hxc ?_) | (refine wpList_loadA rfl 42 (.tmp 10) rfl rfl (⟨m, cp, t, can, pa⟩ : Ret).cs (by kernel_rfl) hrc ?_) | (refine wpList_eqlR rfl (.tmp 51) (.tmp 52) rfl x ⟨m, cp, t, can, pa⟩ rfl rfl false hb.out.symm ?_) | fail)
    go_roundg (gk - 1)
    case measure => omega
    case rel => exact ⟨k + 1, N, by omega, by omega, by go_num, rfl, Lib.hid hnx.out, hB3⟩
   ·go_wp2_with (first | (refine wpList_loadA rfl 42 (.tmp 13) rfl rfl x.cs (by kernel_rfl) hxc ?_) | (refine wpList_loadA rfl 42 (.tmp 10) rfl rfl (⟨m, cp, t, can, pa⟩ : Ret).cs (by kernel_rfl) hrc ?_) | (refine wpList_eqlR rfl (.tmp 51) (.tmp 52) rfl x ⟨m, cp, t, can, pa⟩ rfl rfl true hb.out.symm ?_) | fail)
    go_roundg (gk - 1)
    case measure => omega
    case rel => exact ⟨k + 1, N + 1, by omega, by omega, by go_num, by go_num, Lib.hid hnx.out, hB3⟩
  ·have hkn' : k = n := by omega
   subst hkn'
   have hN1 : N = 1 := by
    have h := hN.out
    rw [List.take_of_length_le (by rw [← hn.out]; exact Nat.le_refl _), hcnt] at h
    exact h.symm
   subst hN1
   clear hA6 hQ6 hO6 hR6 hB6 hL6 hcnt hBr
   have c0 := hA7.cells
   have l0 := hA7.lt
   have c1 := hQ7.cells
   have l1 := hQ7.lt
   have c2 := hR7.cells
   have l2 := hR7.lt
   go_wp2_with fail
   refine (hbk wr qq qd hcq (hg.call hB7) hO7.arr).mono ?_
   rintro e W8 ⟨qb, qe, rfl, hb8, hO8⟩
   have hA8 := hA7.call hb8
   have hQ8 := hQ7.call hb8
   have hB8 := below_call hB7 hB7.size hb8
   clear c0 l0 c1 l1 c2 l2 hA7 hQ7 hO7 hR7 hB7 hb8 hbk
   have hi : Hid ((Tryz.prog.info? 26).map (·.size) = some ((posCs F R (some ⟨qb, 0, none⟩) xs.length qe bl can pa bh fu).toArray).size) := Lib.hid (by kernel_rfl)
   have ho : Hid (((posCs F R (some ⟨qb, 0, none⟩) xs.length qe bl can pa bh fu).toArray).all (·.oneCell') = true) := Lib.hid (by simp [Value.oneCell'])
   have hZ := HasO.new W8 (.cells zeroPos.toArray 26)
   go_upto_region 16 with (first | ((refine wpList_storeAgg rfl 26 (.tmp 14) (.tmp 61) rfl W8.heap.size ((posCs F R (some ⟨qb, 0, none⟩) xs.length qe bl can pa bh fu).toArray) rfl rfl 26 _ hZ hi.out rfl ho.out ?_); rintro w3 rfl) | fail)
   have hbx := boxed_b W8 zeroPos.toArray ((posCs F R (some ⟨qb, 0, none⟩) xs.length qe bl can pa bh fu).toArray) 26
   have hP9 := boxed_o W8 zeroPos.toArray ((posCs F R (some ⟨qb, 0, none⟩) xs.length qe bl can pa bh fu).toArray) 26
   change Code.wp _ _ _ _ ((W8.alloc (.cells zeroPos.toArray 26)).setRow W8.heap.size ((posCs F R (some ⟨qb, 0, none⟩) xs.length qe bl can pa bh fu).toArray))
   generalize (W8.alloc (.cells zeroPos.toArray 26)).setRow W8.heap.size ((posCs F R (some ⟨qb, 0, none⟩) xs.length qe bl can pa bh fu).toArray) = W9 at *
   have hA9 := hA8.call hbx
   have hQ9 := hQ8.call hbx
   have hO9 := hO8.call hbx
   have hB9 := below_call hB8 hB8.size hbx
   clear hA8 hQ8 hO8 hB8 hbx hZ hi ho
   generalize W8.heap.size = q14 at *
   have c0 := hA9.cells
   have l0 := hA9.lt
   have c1 := hP9.cells
   have l1 := hP9.lt
   have heq := refSame6_any F R (some ⟨qb, 0, none⟩) pp qe cc xs xs bl bl can can pa pa bh ha fu fu rfl (by omega) W9 hO9.arr (hx.call hB9)
   rw [posE_self] at heq
   go_wp2_with fail
   refine heq.mono ?_
   rintro e W10 ⟨rfl, hb10⟩
   have hA10 := hA9.call hb10
   have hP10 := hP9.call hb10
   have hQ10 := hQ9.call hb10
   have hB10 := below_call hB9 hB9.size hb10
   clear c0 l0 c1 l1 hA9 hP9 hQ9 hO9 hB9 hb10 heq
   have c0 := hA10.cells
   have l0 := hA10.lt
   have c1 := hP10.cells
   have l1 := hP10.lt
   have c2 := hQ10.cells
   have l2 := hQ10.lt
   have hk10 := hkn W10 hB10
   clear hkn hA10 hP10 hQ10
   by_cases hq0 : 0 < qha
   ·have z : (bh == ha) = true := by rw [hbh.out, beq_iff_eq]; omega
    go_wp2_with fail
    refine hk10.mono ?_
    rintro e W11 ⟨rfl, hb11⟩
    go_wp2_with fail
    go_ret
    exact ⟨rfl, below_call hB10 hB10.size hb11⟩
   ·have z : (bh == 0) = true := by rw [hbh.out, beq_iff_eq]; omega
    go_wp2_with fail
    refine hk10.mono ?_
    rintro e W11 ⟨rfl, hb11⟩
    go_wp2_with fail
    go_ret
    exact ⟨rfl, below_call hB10 hB10.size hb11⟩
set_option maxRecDepth 100000 in
theorem UnmoveForwards_any (f r : Int) (xs : List Int) (bl : Bool) (ca pa ha fu : Int) (m : Mv) (pp : Option Addr) (cc : Nat) (hca : 0 ≤ ca ∧ ca < 256) (hcc : xs.length ≤ cc) (w : World) (hg : GlobU w) (ht : TzOk w) (hx : Arr .i8 w pp xs) :
  Calls Tryz.prog 6 #[.agg (posCs f r pp xs.length cc bl ca pa ha fu).toArray, .agg (mvA m)] w fun e w' => e = .returned (.bool true) ∧ RowKit.Below w.heap.size w w' := by
 have hsm := fun W => small_any f r pp xs.length cc bl ca pa ha fu W
 have hkn := fun W (h : RowKit.Below w.heap.size w W) => known_any W (hg.call h) (show TzOk W from TzOk.call ht h)
 have hA1 := (HasO.new w (.cells (posCs f r pp xs.length cc bl ca pa ha fu).toArray 26)).alloc (.cells (mvA m) 40)
 have hM1 := HasO.new' (w.alloc (.cells (posCs f r pp xs.length cc bl ca pa ha fu).toArray 26)) (.cells (mvA m) 40) (q := w.heap.size + 1) (by simp)
 have hB1 := (below_box w (.cells (posCs f r pp xs.length cc bl ca pa ha fu).toArray 26)).alloc (by simp) (.cells (mvA m) 40)
 rcases hl : decide (((xs.length : Nat) : Int) ≤ 64) with _ | _
 ·rw [hl] at hsm
  clear hl
  go_enter Tryz.func6, Tryz.ntmps6
  go_upto_region 1 with fail
  change Code.wp _ _ _ _ ((w.alloc (.cells (posCs f r pp xs.length cc bl ca pa ha fu).toArray 26)).alloc (.cells (mvA m) 40))
  generalize (w.alloc (.cells (posCs f r pp xs.length cc bl ca pa ha fu).toArray 26)).alloc (.cells (mvA m) 40) = W1 at *
  have c0 := hA1.cells
  have l0 := hA1.lt
  go_wp2_with fail
  refine (hsm _).mono ?_
  rintro e W2 ⟨rfl, hb2⟩
  have hB2 := below_call hB1 hB1.size hb2
  go_wp2_with fail
  refine (hkn W2 hB2).mono ?_
  rintro e W3 ⟨rfl, hb3⟩
  go_wp2_with fail
  go_ret
  exact ⟨rfl, below_call hB2 hB2.size hb3⟩
 ·have hl64 : xs.length ≤ 64 := by have := of_decide_eq_true hl; omega
  have hE : (∃ n : Int, (n != 0) = true ∧ ∀ W, GlobU W → Arr .i8 W pp xs → Calls Tryz.prog 23 #[.agg (posCs f r pp xs.length cc bl ca pa ha fu).toArray, .agg (mvA m)] W fun e w' => e = mkE n ∧ RowKit.Below W.heap.size W w') ∨
    ∃ (F R can : Nat) (q : Pos) (u : Und), f = F ∧ r = R ∧ ca = can ∧ mkW ⟨F, R, xs, bl, can, pa, ha, fu⟩ m = .ok (q, u) := by
   rcases hv : (pvW f r xs bl ca pa ha fu && mvB f r m) with _ | _
   ·exact .inl ⟨2, rfl, fun W h1 h2 => make_bad f r xs bl ca pa ha fu m pp cc hv hca (by omega) hcc W h1.1 h2⟩
   ·rw [Bool.and_eq_true] at hv
    obtain ⟨F, R, rfl, rfl, _⟩ := ok_fact hv.1 hca.1
    obtain ⟨can, rfl⟩ : ∃ can : Nat, ca = can := ⟨ca.toNat, by omega⟩
    rcases hm : mkW ⟨F, R, xs, bl, can, pa, ha, fu⟩ m with n | ⟨q, u⟩
    ·refine .inl ⟨n, mk_err hm, fun W h1 h2 => (make_any F R xs bl can pa ha fu m pp cc (by omega) (by omega) hcc W h1 h2).mono ?_⟩
     intro e w' h
     unfold MakeR at h
     rw [hm] at h
     exact h
    ·exact .inr ⟨F, R, can, q, u, rfl, rfl, rfl, hm⟩
  rcases hE with ⟨n, hn, hmk⟩ | ⟨F, R, can, q, u, rfl, rfl, rfl, hm⟩
  ·rw [hl] at hsm
   clear hl
   go_enter Tryz.func6, Tryz.ntmps6
   go_upto_region 1 with fail
   change Code.wp _ _ _ _ ((w.alloc (.cells (posCs f r pp xs.length cc bl ca pa ha fu).toArray 26)).alloc (.cells (mvA m) 40))
   generalize (w.alloc (.cells (posCs f r pp xs.length cc bl ca pa ha fu).toArray 26)).alloc (.cells (mvA m) 40) = W1 at *
   obtain ⟨q0, hq0⟩ : ∃ q, q = w.heap.size := ⟨_, rfl⟩
   rw [← hq0] at hA1 hM1 ⊢
   replace hq0 := Lib.hid hq0
   have c0 := hA1.cells
   have l0 := hA1.lt
   have c1 := hM1.cells
   have l1 := hM1.lt
   go_wp2_with fail
   refine (hsm _).mono ?_
   rintro e W2 ⟨rfl, hb2⟩
   have hA2 := hA1.call hb2
   have hM2 := hM1.call hb2
   have hB2 := below_call hB1 hB1.size hb2
   clear c0 l0 c1 l1 hA1 hM1 hB1 hb2
   have c0 := hA2.cells
   have l0 := hA2.lt
   have c1 := hM2.cells
   have l1 := hM2.lt
   go_wp2_with fail
   refine (hmk W2 (hg.call hB2) (hx.call hB2)).mono ?_
   rintro e W3 ⟨rfl, hb3⟩
   have hB3 := below_call hB2 hB2.size hb3
   clear c0 l0 c1 l1 hA2 hM2 hB2 hb3 hmk
   have hb7 := ((below_box W3 (.cells zeroPos.toArray 26)).alloc (by simp) (.cells zeroUnd.toArray 54))
   have hZ7 := (HasO.new W3 (.cells zeroPos.toArray 26)).alloc (.cells zeroUnd.toArray 54)
   have hZ8 := HasO.new' (W3.alloc (.cells zeroPos.toArray 26)) (.cells zeroUnd.toArray 54) (q := W3.heap.size + 1) (by simp)
   have hi7 : Hid ((Tryz.prog.info? 26).map (·.size) = some (zeroPos.toArray).size) := Lib.hid (by kernel_rfl)
   have ho7 : Hid ((zeroPos.toArray).all (·.oneCell') = true) := Lib.hid (by simp [Value.oneCell'])
   have hi8 : Hid ((Tryz.prog.info? 54).map (·.size) = some (zeroUnd.toArray).size) := Lib.hid (by kernel_rfl)
   have ho8 : Hid ((zeroUnd.toArray).all (·.oneCell') = true) := Lib.hid (by simp [Value.oneCell'])
   have hZ8' := hZ8.setRow_far (g := W3.heap.size) (cells := zeroPos.toArray) (by omega)
   go_upto_region 4 with (first | ((refine wpList_storeAgg rfl 26 (.tmp 5) (.tmp 24) rfl W3.heap.size (zeroPos.toArray) rfl rfl 26 _ hZ7 hi7.out rfl ho7.out ?_); rintro w3 rfl) | ((refine wpList_storeAgg rfl 54 (.tmp 6) (.tmp 25) rfl (W3.heap.size + 1) (zeroUnd.toArray) rfl rfl 54 _ hZ8' hi8.out rfl ho8.out ?_); rintro w3 rfl) | fail)
   have hbx := setRow_below (cells := zeroUnd.toArray) (setRow_below (cells := zeroPos.toArray) hb7 (g := W3.heap.size) (Nat.le_refl _) hb7.size) (g := W3.heap.size + 1) (by omega) (setRow_below (cells := zeroPos.toArray) hb7 (g := W3.heap.size) (Nat.le_refl _) hb7.size).size
   change Code.wp _ _ _ _ ((((W3.alloc (.cells zeroPos.toArray 26)).alloc (.cells zeroUnd.toArray 54)).setRow W3.heap.size (zeroPos.toArray)).setRow (W3.heap.size + 1) zeroUnd.toArray)
   generalize (((W3.alloc (.cells zeroPos.toArray 26)).alloc (.cells zeroUnd.toArray 54)).setRow W3.heap.size (zeroPos.toArray)).setRow (W3.heap.size + 1) zeroUnd.toArray = W4 at *
   have hB4 := below_call hB3 hB3.size hbx
   clear hZ7 hZ8 hZ8' hi7 ho7 hi8 ho8 hb7 hbx
   go_wp2_with fail
   refine (hkn W4 hB4).mono ?_
   rintro e W5 ⟨rfl, hb5⟩
   go_wp2_with fail
   go_ret
   exact ⟨rfl, below_call hB4 hB4.size hb5⟩
  ·exact fwd_good F R xs bl can pa ha fu m pp cc q u hm hcc hl64 w hg ht hx
end Go.Proofs.YtefmplccbkmalaaGreatDoor
