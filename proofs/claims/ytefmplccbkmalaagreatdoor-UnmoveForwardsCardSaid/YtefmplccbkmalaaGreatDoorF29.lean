import Derived.Test.YtefmplccbkmalaaGreatDoorF28
set_option maxHeartbeats 12800000
namespace Go.Proofs.YtefmplccbkmalaaGreatDoor
open Go.RowKit Go.Sort Go.BigFrame

theorem mkW_ne {P : Pos} {m : Mv} {n : Int} (h : mkW P m = .error n) : n ≠ 0 := by
 unfold mkW at h
 simp only at h
 repeat' split at h
 all_goals first
  | (cases h; done)
  | (injection h with h; omega)
theorem ite_len (c : Prop) [Decidable c] (Z : List Int) (k : Nat) (v : Int) : (if c then Z.set k v else Z).length = Z.length := by split <;> simp
theorem brdW_len (P : Pos) (m : Mv) (c : Option Cas) : (brdW P m c).length = P.xs.length := by
 unfold brdW
 simp only
 split
 ·split <;> simp
 ·split <;> split <;> simp
theorem make_form {P : Pos} {m : Mv} {w : World} {e : Ending} {w' : World} (h : MakeR P m w e w') : ∃ (Q : Pos) (u : Und) (n : Int) (Qp : Option Addr) (Qc : Nat), e = .returned (.tuple #[.agg (posCs Q.F Q.R Qp Q.xs.length Qc Q.bl Q.ca Q.pa Q.ha Q.fu).toArray, .agg u.cs.toArray, .int .i64 n]) ∧ RowKit.Below w.heap.size w w' ∧ Arr .i8 w' Qp Q.xs ∧
  ((n ≠ 0 ∧ mkW P m = .error n) ∨ (n = 0 ∧ mkW P m = .ok (Q, u))) := by
 unfold MakeR at h
 split at h
 ·rename_i n hn
  exact ⟨⟨0, 0, [], false, 0, 0, 0, 0⟩, ⟨⟨0, 0, 0⟩, 0, 0, 0, 0, 0, 0⟩, n, none, 0, h.1, h.2, .inl rfl, .inl ⟨mkW_ne hn, hn⟩⟩
 ·rename_i Q u hn
  obtain ⟨q, cap, h1, h2, h3, h4⟩ := h
  exact ⟨Q, u, 0, _, cap, h1, h2, h4.arr, .inr ⟨rfl, hn⟩⟩
theorem aft_len (P : Pos) (m : Mv) (c : Option Cas) : (aftW P m c).xs.length = P.xs.length := by
 unfold aftW
 exact brdW_len P m c
theorem mkW_size {P Q : Pos} {m : Mv} {u : Und} (h : mkW P m = .ok (Q, u)) : Q.F = P.F ∧ Q.R = P.R ∧ Q.xs.length = P.xs.length := by
 unfold mkW at h
 simp only at h
 repeat' split at h
 all_goals first
  | (cases h; done)
  | (injection h with h
     injection h with h1 h2
     rw [← h1]
     exact ⟨rfl, rfl, aft_len P m _⟩)
def MayR (P : Pos) (r : Ret) (w : World) (e : Ending) (w' : World) : Prop := ∃ q cap, e = .returned (.tuple #[.agg (posCs (befW P r).F (befW P r).R (some ⟨q, 0, none⟩) (befW P r).xs.length cap (befW P r).bl (befW P r).ca (befW P r).pa (befW P r).ha (befW P r).fu).toArray, .bool (mayW P r)]) ∧ RowKit.Below w.heap.size w w' ∧ w.heap.size ≤ q ∧ OArr w' q cap (befW P r).xs
theorem may_no {P : Pos} {r : Ret} {n : Int} (h : mkW (befW P r) r.mv = .error n) : mayW P r = false := by
 unfold mayW; rw [h]
theorem may_yes {F R : Nat} {xs : List Int} {bl : Bool} {can : Nat} {pa ha fu : Int} {r : Ret} {Q : Pos} {u : Und} (hF : Q.F = F) (hR : Q.R = R) (h : mkW (befW ⟨F, R, xs, bl, can, pa, ha, fu⟩ r) r.mv = .ok (Q, u)) :
  mayW ⟨F, R, xs, bl, can, pa, ha, fu⟩ r = ((posE Q.xs xs Q.bl bl Q.ca can Q.pa pa && ((Q.ha == ha) && (Q.fu == fu))) && ((u.cp == r.cp) && (u.at_ == r.at_))) := by
 unfold mayW posE
 rw [h]
 obtain ⟨F', R', x, b, c, d, e, f⟩ := Q
 simp only at hF hR
 subst hF hR
 simp only [Pos.mk.injEq, true_and]
 have e1 : ∀ x y : Int, (x == y) = decide (x = y) := fun x y => rfl
 have e2 : (b == bl) = decide (b = bl) := by cases b <;> cases bl <;> rfl
 rw [e1, e1, e1, e1, e1, e1, e2]
 simp only [Bool.decide_and]
 simp only [Bool.and_assoc]
set_option maxRecDepth 100000 in
theorem may_any (F R : Nat) (xs : List Int) (bl : Bool) (can : Nat) (pa ha fu : Int) (r : Ret) (pp : Option Addr) (cc : Nat) (a b : Nat) (hra : r.mv.fr = a) (hrb : r.mv.tg = b) (hla : a < xs.length) (hlb : b < xs.length) (hl64 : xs.length ≤ 64) (h6 : ∀ x ∈ xs, -6 ≤ x ∧ x ≤ 6) (hlx : F = 8 → R = 8 → 64 ≤ xs.length) (hha : 0 ≤ ha ∧ ha ≤ 10000) (hfu : -10000 ≤ fu ∧ fu ≤ 10000) (hrc : 0 ≤ r.ca ∧ r.ca < 256)
  (w : World) (hg : GlobU w) (hx : Arr .i8 w pp xs) : Calls Tryz.prog 55 #[.agg (posCs F R pp xs.length cc bl can pa ha fu).toArray, .agg r.cs.toArray] w (MayR ⟨F, R, xs, bl, can, pa, ha, fu⟩ r w) := by
 obtain ⟨W1, hW1⟩ : ∃ W1, W1 = ((w.alloc (.cells (posCs F R pp xs.length cc bl can pa ha fu).toArray 26)).alloc (.cells r.cs.toArray 42)).alloc (.cells zeroPos.toArray 26) := ⟨_, rfl⟩
 have hB : RowKit.Below w.heap.size w W1 := by
  subst hW1
  exact (((below_box w _).alloc (by simp) _).alloc (by simp <;> omega) _)
 have hP : HasO W1 w.heap.size (.cells (posCs F R pp xs.length cc bl can pa ha fu).toArray 26 (0, 0)) := by
  subst hW1
  exact ((HasO.new w _).alloc _).alloc _
 have hM : HasO W1 (w.heap.size + 1) (.cells r.cs.toArray 42 (0, 0)) := by
  subst hW1
  exact (HasO.new' _ _ (by simp)).alloc _
 have hO : HasO W1 (w.heap.size + 1 + 1) (.cells zeroPos.toArray 26 (0, 0)) := by
  subst hW1
  exact HasO.new' _ _ (by simp)
 have hbf := before_any F R xs bl can pa ha fu r pp cc a b hra hrb hla hlb hl64 h6 hlx hha hfu W1 (hg.call hB) (hx.call hB)
 have hmy := fun Q u h1 h2 h3 => may_yes (F := F) (R := R) (xs := xs) (bl := bl) (can := can) (pa := pa) (ha := ha) (fu := fu) (r := r) (Q := Q) (u := u) h1 h2 h3
 have hmn := fun n h => may_no (P := ⟨F, R, xs, bl, can, pa, ha, fu⟩) (r := r) (n := n) h
 have hBe : ∃ ys sb bp bh bu, befW ⟨F, R, xs, bl, can, pa, ha, fu⟩ r = ⟨F, R, ys, sb, r.ca, bp, bh, bu⟩ ∧ ys.length = xs.length := by
  rw [bef_eq F R xs bl can pa ha fu r a b hra hrb _ rfl _ rfl]
  refine ⟨_, _, _, _, _, rfl, ?_⟩
  rw [ite_len, fold_len, List.length_set, List.length_set]
 unfold MayR
 unfold BeforeR at hbf
 obtain ⟨ys, sb, bp, bh, bu, hBe, hBl⟩ := hBe
 rw [hBe] at hbf hmn hmy ⊢
 generalize mayW ⟨F, R, xs, bl, can, pa, ha, fu⟩ r = MW at *
 replace hBe := Lib.hid hBe
 have c0 := hP.cells
 have l0 := hP.lt
 have c1 := hM.cells
 have l1 := hM.lt
 have lo := hO.lt
 replace hW1 := Lib.hid hW1
 replace hra := Lib.hid hra
 replace hrb := Lib.hid hrb
 replace hBl := Lib.hid hBl
 go_enter Tryz.func55, Tryz.ntmps55
 go_upto_region 1 with fail
 change Code.wp Tryz.prog _ _ _ (((w.alloc (.cells (posCs F R pp xs.length cc bl can pa ha fu).toArray 26)).alloc (.cells r.cs.toArray 42)).alloc (.cells zeroPos.toArray 26))
 rw [← hW1.out]
 go_wp2_with fail
 refine hbf.mono ?_
 rintro e W2 ⟨qb, capb, rfl, hb2, hqb, hY⟩
 have hP2 := hP.call hb2
 have hM2 := hM.call hb2
 have hO2 := hO.call hb2
 have hB2 := below_call hB hB.size hb2
 clear c0 l0 c1 l1 hP hM hO hB hb2 hbf
 have hZ := HasO.new W2 (.cells zeroPos.toArray 26)
 have hi : Hid ((Tryz.prog.info? 26).map (·.size) = some ((posCs F R (some ⟨qb, 0, none⟩) ys.length capb sb r.ca bp bh bu).toArray).size) := Lib.hid (by kernel_rfl)
 have ho : Hid (((posCs F R (some ⟨qb, 0, none⟩) ys.length capb sb r.ca bp bh bu).toArray).all (·.oneCell') = true) := Lib.hid (by simp [Value.oneCell'])
 go_upto_region 2 with (first | ((refine wpList_storeAgg rfl 26 (.tmp 6) (.tmp 12) rfl W2.heap.size ((posCs F R (some ⟨qb, 0, none⟩) ys.length capb sb r.ca bp bh bu).toArray) rfl rfl 26 _ hZ hi.out rfl ho.out ?_); rintro w3 rfl) | fail)
 have hP5 := (hP2.alloc (.cells zeroPos.toArray 26)).setRow_far (g := W2.heap.size) (cells := (posCs F R (some ⟨qb, 0, none⟩) ys.length capb sb r.ca bp bh bu).toArray) (by have := hP2.lt; omega)
 have hM5 := (hM2.alloc (.cells zeroPos.toArray 26)).setRow_far (g := W2.heap.size) (cells := (posCs F R (some ⟨qb, 0, none⟩) ys.length capb sb r.ca bp bh bu).toArray) (by have := hM2.lt; omega)
 have hO5 := (hO2.alloc (.cells zeroPos.toArray 26)).setRow_far (g := W2.heap.size) (cells := (posCs F R (some ⟨qb, 0, none⟩) ys.length capb sb r.ca bp bh bu).toArray) (by have := hO2.lt; omega)
 have hY5 := (hY.call (below_box W2 (.cells zeroPos.toArray 26))).farR (g := W2.heap.size) (by have := hY.lt; omega) ((posCs F R (some ⟨qb, 0, none⟩) ys.length capb sb r.ca bp bh bu).toArray)
 have hT5 := setRow_hasO (cells := (posCs F R (some ⟨qb, 0, none⟩) ys.length capb sb r.ca bp bh bu).toArray) hZ
 have hBa := hB2.alloc (by have := hP2.lt; omega) (.cells zeroPos.toArray 26)
 have hB5 := setRow_below (cells := (posCs F R (some ⟨qb, 0, none⟩) ys.length capb sb r.ca bp bh bu).toArray) hBa (g := W2.heap.size) (by have := hP2.lt; omega) hBa.size
 change Code.wp Tryz.prog _ _ _ ((W2.alloc (.cells zeroPos.toArray 26)).setRow W2.heap.size ((posCs F R (some ⟨qb, 0, none⟩) ys.length capb sb r.ca bp bh bu).toArray))
 generalize (W2.alloc (.cells zeroPos.toArray 26)).setRow W2.heap.size ((posCs F R (some ⟨qb, 0, none⟩) ys.length capb sb r.ca bp bh bu).toArray) = W5 at *
 have hq5 : w.heap.size + 1 + 1 < W2.heap.size ∧ qb < W2.heap.size := ⟨hO2.lt, hY.lt⟩
 clear hZ hBa hi ho hP2 hM2 hO2 hY hB2
 generalize W2.heap.size = q5 at *
 have hmk := make_any F R ys sb r.ca.toNat bp bh bu r.mv (some ⟨qb, 0, none⟩) capb (by omega) (by rw [hBl.out]; omega) (by obtain ⟨cur, h1, h2, h3, h4⟩ := hY5; exact h2) W5 (hg.call hB5) hY5.arr
 rw [show ((r.ca.toNat : Nat) : Int) = r.ca by omega] at hmk
 have c0 := hT5.cells
 have l0 := hT5.lt
 have c1 := hM5.cells
 have l1 := hM5.lt
 go_wp2_with fail
 refine hmk.mono ?_
 intro e W6 hmr
 obtain ⟨Q, u, n, Qp, Qc, rfl, hb6, hQx, hres⟩ := make_form hmr
 clear c0 l0 c1 l1 hmk
 have hP6 := hP5.call hb6
 have hM6 := hM5.call hb6
 have hO6 := hO5.call hb6
 have hY6 := hY5.call hb6
 have hT6 := hT5.call hb6
 have hB6 := below_call hB5 hB5.size hb6
 clear hP5 hM5 hO5 hY5 hT5 hB5 hb6 hmr
 have hZ7 := (HasO.new W6 (.cells zeroPos.toArray 26)).alloc (.cells zeroUnd.toArray 54)
 have hZ8 := HasO.new' (W6.alloc (.cells zeroPos.toArray 26)) (.cells zeroUnd.toArray 54) (q := W6.heap.size + 1) (by simp)
 have hi7 : Hid ((Tryz.prog.info? 26).map (·.size) = some ((posCs Q.F Q.R Qp Q.xs.length Qc Q.bl Q.ca Q.pa Q.ha Q.fu).toArray).size) := Lib.hid (by kernel_rfl)
 have ho7 : Hid (((posCs Q.F Q.R Qp Q.xs.length Qc Q.bl Q.ca Q.pa Q.ha Q.fu).toArray).all (·.oneCell') = true) := Lib.hid (by simp [Value.oneCell'])
 have hi8 : Hid ((Tryz.prog.info? 54).map (·.size) = some (u.cs.toArray).size) := Lib.hid (by kernel_rfl)
 have ho8 : Hid ((u.cs.toArray).all (·.oneCell') = true) := Lib.hid (by simp [Value.oneCell'])
 have hZ8' := hZ8.setRow_far (g := W6.heap.size) (cells := (posCs Q.F Q.R Qp Q.xs.length Qc Q.bl Q.ca Q.pa Q.ha Q.fu).toArray) (by omega)
 go_upto_region 3 with (first | ((refine wpList_storeAgg rfl 26 (.tmp 7) (.tmp 18) rfl W6.heap.size ((posCs Q.F Q.R Qp Q.xs.length Qc Q.bl Q.ca Q.pa Q.ha Q.fu).toArray) rfl rfl 26 _ hZ7 hi7.out rfl ho7.out ?_); rintro w3 rfl) | ((refine wpList_storeAgg rfl 54 (.tmp 8) (.tmp 19) rfl (W6.heap.size + 1) (u.cs.toArray) rfl rfl 54 _ hZ8' hi8.out rfl ho8.out ?_); rintro w3 rfl) | fail)
 have hP7 := (((hP6.alloc (.cells zeroPos.toArray 26)).alloc (.cells zeroUnd.toArray 54)).setRow_far (g := W6.heap.size) (cells := (posCs Q.F Q.R Qp Q.xs.length Qc Q.bl Q.ca Q.pa Q.ha Q.fu).toArray) (by have := hP6.lt; omega)).setRow_far (g := W6.heap.size + 1) (cells := u.cs.toArray) (by have := hP6.lt; omega)
 have hM7 := (((hM6.alloc (.cells zeroPos.toArray 26)).alloc (.cells zeroUnd.toArray 54)).setRow_far (g := W6.heap.size) (cells := (posCs Q.F Q.R Qp Q.xs.length Qc Q.bl Q.ca Q.pa Q.ha Q.fu).toArray) (by have := hM6.lt; omega)).setRow_far (g := W6.heap.size + 1) (cells := u.cs.toArray) (by have := hM6.lt; omega)
 have hO7 := (((hO6.alloc (.cells zeroPos.toArray 26)).alloc (.cells zeroUnd.toArray 54)).setRow_far (g := W6.heap.size) (cells := (posCs Q.F Q.R Qp Q.xs.length Qc Q.bl Q.ca Q.pa Q.ha Q.fu).toArray) (by have := hO6.lt; omega)).setRow_far (g := W6.heap.size + 1) (cells := u.cs.toArray) (by have := hO6.lt; omega)
 have hT7 := (((hT6.alloc (.cells zeroPos.toArray 26)).alloc (.cells zeroUnd.toArray 54)).setRow_far (g := W6.heap.size) (cells := (posCs Q.F Q.R Qp Q.xs.length Qc Q.bl Q.ca Q.pa Q.ha Q.fu).toArray) (by have := hT6.lt; omega)).setRow_far (g := W6.heap.size + 1) (cells := u.cs.toArray) (by have := hT6.lt; omega)
 have hQ7 := (setRow_hasO (cells := (posCs Q.F Q.R Qp Q.xs.length Qc Q.bl Q.ca Q.pa Q.ha Q.fu).toArray) hZ7).setRow_far (g := W6.heap.size + 1) (cells := u.cs.toArray) (by omega)
 have hU7 := setRow_hasO (cells := u.cs.toArray) hZ8'
 have hb7 := ((below_box W6 (.cells zeroPos.toArray 26)).alloc (by simp) (.cells zeroUnd.toArray 54))
 have hb8 := setRow_below (cells := (posCs Q.F Q.R Qp Q.xs.length Qc Q.bl Q.ca Q.pa Q.ha Q.fu).toArray) hb7 (g := W6.heap.size) (Nat.le_refl _) hb7.size
 have hb9 := setRow_below (cells := u.cs.toArray) hb8 (g := W6.heap.size + 1) (by omega) hb8.size
 have hB7 := below_call hB6 hB6.size hb9
 have hY7 := hY6.call hb9
 have hQx7 := hQx.call hb9
 change Code.wp Tryz.prog _ _ _ ((((W6.alloc (.cells zeroPos.toArray 26)).alloc (.cells zeroUnd.toArray 54)).setRow W6.heap.size ((posCs Q.F Q.R Qp Q.xs.length Qc Q.bl Q.ca Q.pa Q.ha Q.fu).toArray)).setRow (W6.heap.size + 1) u.cs.toArray)
 generalize (((W6.alloc (.cells zeroPos.toArray 26)).alloc (.cells zeroUnd.toArray 54)).setRow W6.heap.size ((posCs Q.F Q.R Qp Q.xs.length Qc Q.bl Q.ca Q.pa Q.ha Q.fu).toArray)).setRow (W6.heap.size + 1) u.cs.toArray = W7 at *
 have hl6 := hO6.lt
 clear hi7 ho7 hi8 ho8 hZ7 hZ8 hZ8' hb7 hb8 hb9 hP6 hM6 hO6 hT6 hY6 hB6 hQx
 generalize W6.heap.size = q7 at *
 have hq2 : w.heap.size + 1 + 1 ≠ w.heap.size ∧ w.heap.size + 1 + 1 ≠ w.heap.size + 1 ∧ q5 ≠ w.heap.size + 1 + 1 ∧ q7 ≠ w.heap.size + 1 + 1 ∧ q7 + 1 ≠ w.heap.size + 1 + 1 ∧ qb ≠ w.heap.size + 1 + 1 := ⟨by omega, by omega, by omega, by omega, by omega, by omega⟩
 obtain ⟨Wk, hWk⟩ : ∃ Wk : Nat → World, Wk = fun k => match k with | 0 => W7 | _ => W7.setRow (w.heap.size + 1 + 1) ((posCs F R (some ⟨qb, 0, none⟩) ys.length capb sb r.ca bp bh bu).toArray) := ⟨_, rfl⟩
 have hW0 : Wk 0 = W7 := by subst hWk; rfl
 have hW1 : Wk (0 + 1) = (Wk 0).setRow (w.heap.size + 1 + 1) ((posCs F R (some ⟨qb, 0, none⟩) ys.length capb sb r.ca bp bh bu).toArray) := by subst hWk; rfl
 have m0' := row_grk (Wk := Wk) (fun k => by rw [hWk]; cases k with | zero => exact hP7 | succ k => exact hP7.setRow_far (by omega))
 have m1' := row_grk (Wk := Wk) (fun k => by rw [hWk]; cases k with | zero => exact hM7 | succ k => exact hM7.setRow_far (by omega))
 have m5' := row_grk (Wk := Wk) (fun k => by rw [hWk]; cases k with | zero => exact hT7 | succ k => exact hT7.setRow_far hq2.2.2.1)
 have m7' := row_grk (Wk := Wk) (fun k => by rw [hWk]; cases k with | zero => exact hQ7 | succ k => exact hQ7.setRow_far hq2.2.2.2.1)
 have m8' := row_grk (Wk := Wk) (fun k => by rw [hWk]; cases k with | zero => exact hU7 | succ k => exact hU7.setRow_far hq2.2.2.2.2.1)
 have m0 : ∀ k d os j, (grow (redrawn (Wk k) d) os).cell? ⟨w.heap.size, j, none⟩ = (posCs F R pp xs.length cc bl can pa ha fu).toArray[j]? := m0'
 have m1 : ∀ k d os j, (grow (redrawn (Wk k) d) os).cell? ⟨w.heap.size + 1, j, none⟩ = (#[.int .i64 r.mv.fr, .int .i64 r.mv.tg, .int .i8 r.mv.pr, .int .i8 r.cp, .int .i64 r.at_, .int .u8 r.ca, .int .i64 r.pa] : Array Value)[j]? := m1'
 have m5 : ∀ k d os j, (grow (redrawn (Wk k) d) os).cell? ⟨q5, j, none⟩ = (posCs F R (some ⟨qb, 0, none⟩) ys.length capb sb r.ca bp bh bu).toArray[j]? := m5'
 have m7 : ∀ k d os j, (grow (redrawn (Wk k) d) os).cell? ⟨q7, j, none⟩ = (posCs Q.F Q.R Qp Q.xs.length Qc Q.bl Q.ca Q.pa Q.ha Q.fu).toArray[j]? := m7'
 have m8 : ∀ k d os j, (grow (redrawn (Wk k) d) os).cell? ⟨q7 + 1, j, none⟩ = (#[.int .i64 u.mv.fr, .int .i64 u.mv.tg, .int .i8 u.mv.pr, .int .i8 u.cp, .int .i64 u.at_, .int .u8 u.ca, .int .i64 u.pa, .int .i64 u.ha, .int .i64 u.fu] : Array Value)[j]? := m8'
 clear m0' m1' m5' m7' m8'
 have hZ0 : HasO (Wk 0) (w.heap.size + 1 + 1) (.cells zeroPos.toArray 26 (0, 0)) := by rw [hW0]; exact hO7
 have hZk : HasO (Wk [22].length) (w.heap.size + 1 + 1) (.cells ((posCs F R (some ⟨qb, 0, none⟩) ys.length capb sb r.ca bp bh bu).toArray) 26 (0, 0)) := by subst hWk; exact setRow_hasO hO7
 have hYk : OArr (Wk [22].length) qb capb ys := by subst hWk; exact hY7.farR hq2.2.2.2.2.2 _
 have hBk : RowKit.Below w.heap.size w (Wk [22].length) := by subst hWk; exact setRow_below hB7 (by omega) hB7.size
 have hone : Hid (((posCs F R (some ⟨qb, 0, none⟩) ys.length capb sb r.ca bp bh bu).toArray).all (·.oneCell') = true) := Lib.hid (by simp [Value.oneCell'])
 have hxk : Arr .i8 (Wk 0) pp xs := by rw [hW0]; exact hx.call hB7
 have hQk : Arr .i8 (Wk 0) Qp Q.xs := by rw [hW0]; exact hQx7
 clear hWk hP7 hM7 hO7 hT7 hQ7 hU7 hY7 hB7 hQx7 hq2
 replace hW1 := Lib.hid hW1
 rcases hres with ⟨hn, hre⟩ | ⟨rfl, hre⟩
 ·have z0 : (n == 0) = false := by simpa using hn
  have t2 : True := trivial
  have hV : Hid (MW = false) := Lib.hid (hmn n hre)
  clear hmn hmy
  refine wp_region_turn [22] [(0, 0), (0, 0), (0, 0), (0, 0), (0, 0), (0, 0), (0, 0), (0, 0), (0, 0), (0, 0), (0, 0), (0, 0), (0, 0), (0, 0), (0, 0), (0, 0), (0, 1), (0, 1), (0, 1), (0, 1), (0, 1), (0, 1), (9, 9), (1, 1)] Wk (by kernel_rfl) (by kernel_rfl) hW0 ?_
  replace hW0 := Lib.hid hW0
  iterate 16 (refine wpT_q 0 rfl rfl ?_; go_big_quiet_step (fail); refine wpQuiet_nil ?_)
  iterate 6 (refine wpT_f rfl rfl ?_; go_big_quiet_step (fail); refine wpQuiet_nil ?_)
  refine wpT_r 0 rfl rfl 26 (.tmp 4) (.tmp 21) rfl (cells := (posCs F R (some ⟨qb, 0, none⟩) ys.length capb sb r.ca bp bh bu).toArray) rfl rfl hZ0 (by kernel_rfl) rfl hone.out hW1.out rfl ?_
  refine wpT_q 1 rfl rfl ?_
  go_big_quiet_step (fail)
  refine wpQuiet_nil ?_
  refine wpT_nil ?_
  intro W8 hb8
  have hY8 := hYk.call hb8
  have hZ8 := hZk.call hb8
  have hB8 := below_call hBk hBk.size hb8
  clear m0 m1 m5 m7 m8
  go_wp2_with fail
  refine bodyPost_ret (results_ct (fn := Tryz.f55) Tryz.results55 rfl hZ8 (by kernel_rfl) (by kernel_rfl) rfl) rfl ?_
  exact ⟨qb, capb, by rw [hV.out]; rfl, hB8, by omega, hY8⟩
 ·obtain ⟨sF, sR, sl⟩ := mkW_size hre
  have hmy := hmy Q u sF sR hre
  obtain ⟨QF, QR, qx, qbl, qca, qpa, qha, qfu⟩ := Q
  simp only at sF sR sl hmy m7 hQk
  subst sF sR
  have hle : qx.length ≤ 1000 := by rw [sl, hBl.out]; omega
  have t2 := call_gr (w := Wk 0) (fun W h => posEqual_any QF QR Qp pp Qc cc qx xs qbl bl qca can qpa pa qha ha qfu fu W (hQk.call h) (hxk.call h) hle (by omega))
  clear sl hle
  generalize (posE qx xs qbl bl qca can qpa pa && ((qha == ha) && (qfu == fu))) = E at *
  cases E
  ·have hV : Hid (MW = false) := Lib.hid (by rw [hmy]; rfl)
   clear hmn hmy
   refine wp_region_turn [22] [(0, 0), (0, 0), (0, 0), (0, 0), (0, 0), (0, 0), (0, 0), (0, 0), (0, 0), (0, 0), (0, 0), (0, 0), (0, 0), (0, 0), (0, 0), (0, 0), (0, 1), (0, 1), (0, 1), (0, 1), (0, 1), (0, 1), (9, 9), (1, 1)] Wk (by kernel_rfl) (by kernel_rfl) hW0 ?_
   replace hW0 := Lib.hid hW0
   iterate 16 (refine wpT_q 0 rfl rfl ?_; go_big_quiet_step (first | with_reducible exact t2 _ _ | fail); refine wpQuiet_nil ?_)
   iterate 6 (refine wpT_f rfl rfl ?_; go_big_quiet_step (fail); refine wpQuiet_nil ?_)
   refine wpT_r 0 rfl rfl 26 (.tmp 4) (.tmp 21) rfl (cells := (posCs QF QR (some ⟨qb, 0, none⟩) ys.length capb sb r.ca bp bh bu).toArray) rfl rfl hZ0 (by kernel_rfl) rfl hone.out hW1.out rfl ?_
   refine wpT_q 1 rfl rfl ?_
   go_big_quiet_step (fail)
   refine wpQuiet_nil ?_
   refine wpT_nil ?_
   intro W8 hb8
   have hY8 := hYk.call hb8
   have hZ8 := hZk.call hb8
   have hB8 := below_call hBk hBk.size hb8
   clear m0 m1 m5 m7 m8
   go_wp2_with fail
   refine bodyPost_ret (results_ct (fn := Tryz.f55) Tryz.results55 rfl hZ8 (by kernel_rfl) (by kernel_rfl) rfl) rfl ?_
   exact ⟨qb, capb, by rw [hV.out]; rfl, hB8, by omega, hY8⟩
  ·rcases z2 : (u.cp == r.cp) with _ | _
   ·have hV : Hid (MW = false) := Lib.hid (by rw [hmy, z2]; rfl)
    clear hmn hmy
    refine wp_region_turn [22] [(0, 0), (0, 0), (0, 0), (0, 0), (0, 0), (0, 0), (0, 0), (0, 0), (0, 0), (0, 0), (0, 0), (0, 0), (0, 0), (0, 0), (0, 0), (0, 0), (0, 1), (0, 1), (0, 1), (0, 1), (0, 1), (0, 1), (9, 9), (1, 1)] Wk (by kernel_rfl) (by kernel_rfl) hW0 ?_
    replace hW0 := Lib.hid hW0
    iterate 16 (refine wpT_q 0 rfl rfl ?_; go_big_quiet_step (first | with_reducible exact t2 _ _ | fail); refine wpQuiet_nil ?_)
    iterate 6 (refine wpT_f rfl rfl ?_; go_big_quiet_step (fail); refine wpQuiet_nil ?_)
    refine wpT_r 0 rfl rfl 26 (.tmp 4) (.tmp 21) rfl (cells := (posCs QF QR (some ⟨qb, 0, none⟩) ys.length capb sb r.ca bp bh bu).toArray) rfl rfl hZ0 (by kernel_rfl) rfl hone.out hW1.out rfl ?_
    refine wpT_q 1 rfl rfl ?_
    go_big_quiet_step (fail)
    refine wpQuiet_nil ?_
    refine wpT_nil ?_
    intro W8 hb8
    have hY8 := hYk.call hb8
    have hZ8 := hZk.call hb8
    have hB8 := below_call hBk hBk.size hb8
    clear m0 m1 m5 m7 m8
    go_wp2_with fail
    refine bodyPost_ret (results_ct (fn := Tryz.f55) Tryz.results55 rfl hZ8 (by kernel_rfl) (by kernel_rfl) rfl) rfl ?_
    exact ⟨qb, capb, by rw [hV.out]; rfl, hB8, by omega, hY8⟩
   ·have hV : Hid (MW = (u.at_ == r.at_)) := Lib.hid (by rw [hmy, z2]; rfl)
    clear hmn hmy
    refine wp_region_turn [22] [(0, 0), (0, 0), (0, 0), (0, 0), (0, 0), (0, 0), (0, 0), (0, 0), (0, 0), (0, 0), (0, 0), (0, 0), (0, 0), (0, 0), (0, 0), (0, 0), (0, 1), (0, 1), (0, 1), (0, 1), (0, 1), (0, 1), (9, 9), (1, 1)] Wk (by kernel_rfl) (by kernel_rfl) hW0 ?_
    replace hW0 := Lib.hid hW0
    iterate 16 (refine wpT_q 0 rfl rfl ?_; go_big_quiet_step (first | with_reducible exact t2 _ _ | fail); refine wpQuiet_nil ?_)
    iterate 6 (refine wpT_f rfl rfl ?_; go_big_quiet_step (fail); refine wpQuiet_nil ?_)
    refine wpT_r 0 rfl rfl 26 (.tmp 4) (.tmp 21) rfl (cells := (posCs QF QR (some ⟨qb, 0, none⟩) ys.length capb sb r.ca bp bh bu).toArray) rfl rfl hZ0 (by kernel_rfl) rfl hone.out hW1.out rfl ?_
    refine wpT_q 1 rfl rfl ?_
    go_big_quiet_step (fail)
    refine wpQuiet_nil ?_
    refine wpT_nil ?_
    intro W8 hb8
    have hY8 := hYk.call hb8
    have hZ8 := hZk.call hb8
    have hB8 := below_call hBk hBk.size hb8
    clear m0 m1 m5 m7 m8
    go_wp2_with fail
    refine bodyPost_ret (results_ct (fn := Tryz.f55) Tryz.results55 rfl hZ8 (by kernel_rfl) (by kernel_rfl) rfl) rfl ?_
    exact ⟨qb, capb, by rw [hV.out]; rfl, hB8, by omega, hY8⟩
set_option maxRecDepth 100000 in
theorem is20_good (F R : Nat) (xs : List Int) (bl : Bool) (can : Nat) (pa ha fu : Int) (r : Ret) (pp : Option Addr) (cc : Nat) (h : (pvW F R xs bl can pa ha fu && mvB F R r.mv) = true) (hca : can < 256) (hrc : 0 ≤ r.ca ∧ r.ca < 256) (hcc : xs.length ≤ cc) (w : World) (hg : GlobU w) (hx : Arr .i8 w pp xs) :
  Calls Tryz.prog 20 #[.agg (posCs F R pp xs.length cc bl can pa ha fu).toArray, .agg r.cs.toArray] w fun e w' => e = .returned (.tuple #[.bool (mayW ⟨F, R, xs, bl, can, pa, ha, fu⟩ r), .int .i64 0]) ∧ RowKit.Below w.heap.size w w' := by
 have hbt := h
 simp only [Bool.and_eq_true] at h
 obtain ⟨hv, hmb⟩ := h
 obtain ⟨F', R', e1, e2, hF, hR, hlen, hor, hc15, h88, hha, hfu⟩ := ok_fact hv (by omega)
 obtain rfl : F = F' := by omega
 obtain rfl : R = R' := by omega
 have hab : ∃ a b : Nat, r.mv.fr = a ∧ r.mv.tg = b ∧ a < F * R ∧ b < F * R := by
  have h := hmb
  unfold mvB at h
  simp only [Bool.and_eq_true, Bool.or_eq_true, decide_eq_true_eq] at h
  obtain ⟨s1, s2, _, s4⟩ := h
  unfold sqB at s1 s2
  simp only [Bool.and_eq_true, decide_eq_true_eq] at s1 s2
  refine ⟨r.mv.fr.toNat, r.mv.tg.toNat, by omega, by omega, ?_, ?_⟩
  ·have : (r.mv.fr.toNat : Int) < ((F * R : Nat) : Int) := by rw [Int.natCast_mul]; omega
   omega
  ·have : (r.mv.tg.toNat : Int) < ((F * R : Nat) : Int) := by rw [Int.natCast_mul]; omega
   omega
 obtain ⟨a, b, hra, hrb, hal, hbl⟩ := hab
 have hl64 : xs.length ≤ 64 := by
  have := Nat.mul_le_mul hF.2 hR.2
  omega
 have h6 := orth6 hor
 have hmay := fun W hg hx => may_any F R xs bl can pa ha fu r pp cc a b hra hrb (by omega) (by omega) hl64 h6 (fun h1 h2 => by subst h1 h2; omega) hha (by omega) hrc W hg hx
 unfold MayR at hmay
 clear hra hrb hal hbl hbt hor hc15 h88 h6
 replace hlen := Lib.hid hlen
 obtain ⟨W1, hW1⟩ : ∃ W1, W1 = (w.alloc (.cells (posCs F R pp xs.length cc bl can pa ha fu).toArray 26)).alloc (.cells r.cs.toArray 42) := ⟨_, rfl⟩
 have hB : RowKit.Below w.heap.size w W1 := by
  subst hW1
  exact ((below_box w _).alloc (by simp) _)
 have hP : HasO W1 w.heap.size (.cells (posCs F R pp xs.length cc bl can pa ha fu).toArray 26 (0, 0)) := by
  subst hW1
  exact (HasO.new w _).alloc _ 
 have hM : HasO W1 (w.heap.size + 1) (.cells r.cs.toArray 42 (0, 0)) := by
  subst hW1
  exact (HasO.new' _ _ (by simp))
 have hpv := fun W hg hx => posValid_any F R can pa ha fu bl pp cc xs (by omega) (by omega) hcc W hg hx
 have hmv := fun W => mvValid_any F R r.mv W
 rw [hv] at hpv
 rw [hmb] at hmv
 have c0 := hP.cells
 have l0 := hP.lt
 replace hW1 := Lib.hid hW1
 go_enter Tryz.func20, Tryz.ntmps20
 go_upto_region 1 with fail
 change Code.wp Tryz.prog _ _ _ ((w.alloc (.cells (posCs F R pp xs.length cc bl can pa ha fu).toArray 26)).alloc (.cells r.cs.toArray 42))
 rw [← hW1.out]
 go_wp2_with fail
 refine (hpv _ (hg.1.call hB) (hx.call hB)).mono ?_
 rintro e W2 ⟨rfl, hb2⟩
 have hP2 := hP.call hb2
 have hM2 := hM.call hb2
 have hB2 := below_call hB hB.size hb2
 clear c0 l0 hP hM hB hb2 hpv
 have c0 := hP2.cells
 have l0 := hP2.lt
 have c1 := hM2.cells
 have l1 := hM2.lt
 go_wp2_with fail
 refine (hmv _).mono ?_
 rintro e W3 ⟨rfl, hb3⟩
 have hP3 := hP2.call hb3
 have hM3 := hM2.call hb3
 have hB3 := below_call hB2 hB2.size hb3
 clear c0 l0 c1 l1 hP2 hM2 hB2 hb3 hmv
 have c0 := hP3.cells
 have l0 := hP3.lt
 have c1 := hM3.cells
 have l1 := hM3.lt
 go_wp2_with fail
 refine (hmay _ (hg.call hB3) (hx.call hB3)).mono ?_
 rintro e W4 ⟨qb, capb, rfl, hb4, hqb, hY⟩
 have hsz := hB3.size
 have hB4 := below_call hB3 hB3.size hb4
 clear c0 l0 c1 l1
 generalize befW ⟨F, R, xs, bl, can, pa, ha, fu⟩ r = B at *
 have hZ := HasO.new W4 (.cells zeroPos.toArray 26)
 have hi : Hid ((Tryz.prog.info? 26).map (·.size) = some ((posCs B.F B.R (some ⟨qb, 0, none⟩) B.xs.length capb B.bl B.ca B.pa B.ha B.fu).toArray).size) := Lib.hid (by kernel_rfl)
 have ho : Hid (((posCs B.F B.R (some ⟨qb, 0, none⟩) B.xs.length capb B.bl B.ca B.pa B.ha B.fu).toArray).all (·.oneCell') = true) := Lib.hid (by simp [Value.oneCell'])
 have hBa := hB4.alloc (by have := hb4.size; omega) (.cells zeroPos.toArray 26)
 have hB5 := setRow_below (cells := (posCs B.F B.R (some ⟨qb, 0, none⟩) B.xs.length capb B.bl B.ca B.pa B.ha B.fu).toArray) hBa (g := W4.heap.size) (by have := hb4.size; omega) hBa.size
 go_wp2_with (first | ((refine wpList_storeAgg rfl 26 (.tmp 6) (.tmp 23) rfl W4.heap.size ((posCs B.F B.R (some ⟨qb, 0, none⟩) B.xs.length capb B.bl B.ca B.pa B.ha B.fu).toArray) rfl rfl 26 _ hZ hi.out rfl ho.out ?_); rintro w3 rfl) | fail)
 go_ret2
 exact ⟨rfl, hB5⟩
def BefR (P : Pos) (r : Ret) (w : World) (e : Ending) (w' : World) : Prop := RowKit.Below w.heap.size w w' ∧ if mayW P r then ∃ q cap, e = .returned (.tuple #[.agg (posCs (befW P r).F (befW P r).R (some ⟨q, 0, none⟩) (befW P r).xs.length cap (befW P r).bl (befW P r).ca (befW P r).pa (befW P r).ha (befW P r).fu).toArray, .int .i64 0]) ∧ w.heap.size ≤ q ∧ OArr w' q cap (befW P r).xs
 else e = .returned (.tuple #[.agg zeroPos.toArray, .int .i64 10])
set_option maxRecDepth 100000 in
theorem bef19_good (F R : Nat) (xs : List Int) (bl : Bool) (can : Nat) (pa ha fu : Int) (r : Ret) (pp : Option Addr) (cc : Nat) (h : (pvW F R xs bl can pa ha fu && mvB F R r.mv) = true) (hca : can < 256) (hrc : 0 ≤ r.ca ∧ r.ca < 256) (hcc : xs.length ≤ cc) (w : World) (hg : GlobU w) (hx : Arr .i8 w pp xs) :
  Calls Tryz.prog 19 #[.agg (posCs F R pp xs.length cc bl can pa ha fu).toArray, .agg r.cs.toArray] w (BefR ⟨F, R, xs, bl, can, pa, ha, fu⟩ r w) := by
 obtain ⟨B, hBe⟩ : ∃ B, B = befW ⟨F, R, xs, bl, can, pa, ha, fu⟩ r := ⟨_, rfl⟩
 obtain ⟨MW, hMe⟩ : ∃ B, B = mayW ⟨F, R, xs, bl, can, pa, ha, fu⟩ r := ⟨_, rfl⟩
 have hbt := h
 simp only [Bool.and_eq_true] at h
 obtain ⟨hv, hmb⟩ := h
 obtain ⟨F', R', e1, e2, hF, hR, hlen, hor, hc15, h88, hha, hfu⟩ := ok_fact hv (by omega)
 obtain rfl : F = F' := by omega
 obtain rfl : R = R' := by omega
 have hab : ∃ a b : Nat, r.mv.fr = a ∧ r.mv.tg = b ∧ a < F * R ∧ b < F * R := by
  have h := hmb
  unfold mvB at h
  simp only [Bool.and_eq_true, Bool.or_eq_true, decide_eq_true_eq] at h
  obtain ⟨s1, s2, _, s4⟩ := h
  unfold sqB at s1 s2
  simp only [Bool.and_eq_true, decide_eq_true_eq] at s1 s2
  refine ⟨r.mv.fr.toNat, r.mv.tg.toNat, by omega, by omega, ?_, ?_⟩
  ·have : (r.mv.fr.toNat : Int) < ((F * R : Nat) : Int) := by rw [Int.natCast_mul]; omega
   omega
  ·have : (r.mv.tg.toNat : Int) < ((F * R : Nat) : Int) := by rw [Int.natCast_mul]; omega
   omega
 obtain ⟨a, b, hra, hrb, hal, hbl⟩ := hab
 have hl64 : xs.length ≤ 64 := by
  have := Nat.mul_le_mul hF.2 hR.2
  omega
 have h6 := orth6 hor
 have hmay := fun W hg hx => may_any F R xs bl can pa ha fu r pp cc a b hra hrb (by omega) (by omega) hl64 h6 (fun h1 h2 => by subst h1 h2; omega) hha (by omega) hrc W hg hx
 unfold MayR at hmay
 rw [← hBe, ← hMe] at hmay
 replace hBe := Lib.hid hBe
 replace hMe := Lib.hid hMe
 clear hra hrb hal hbl hbt hor hc15 h88 h6
 replace hlen := Lib.hid hlen
 obtain ⟨W1, hW1⟩ : ∃ W1, W1 = ((w.alloc (.cells (posCs F R pp xs.length cc bl can pa ha fu).toArray 26)).alloc (.cells r.cs.toArray 42)).alloc (.cells zeroPos.toArray 26) := ⟨_, rfl⟩
 have hB : RowKit.Below w.heap.size w W1 := by
  subst hW1
  exact ((below_box w _).alloc (by simp) _).alloc (by simp <;> omega) _
 have hP : HasO W1 w.heap.size (.cells (posCs F R pp xs.length cc bl can pa ha fu).toArray 26 (0, 0)) := by
  subst hW1
  exact (HasO.new w _).alloc _ |>.alloc _
 have hM : HasO W1 (w.heap.size + 1) (.cells r.cs.toArray 42 (0, 0)) := by
  subst hW1
  exact (HasO.new' _ _ (by simp)).alloc _
 have hO : HasO W1 (w.heap.size + 1 + 1) (.cells zeroPos.toArray 26 (0, 0)) := by
  subst hW1
  exact HasO.new' _ _ (by simp)
 have hpv := fun W hg hx => posValid_any F R can pa ha fu bl pp cc xs (by omega) (by omega) hcc W hg hx
 have hmv := fun W => mvValid_any F R r.mv W
 rw [hv] at hpv
 rw [hmb] at hmv
 have c0 := hP.cells
 have l0 := hP.lt
 replace hW1 := Lib.hid hW1
 go_enter Tryz.func19, Tryz.ntmps19
 go_upto_region 1 with fail
 change Code.wp Tryz.prog _ _ _ (((w.alloc (.cells (posCs F R pp xs.length cc bl can pa ha fu).toArray 26)).alloc (.cells r.cs.toArray 42)).alloc (.cells zeroPos.toArray 26))
 rw [← hW1.out]
 go_wp2_with fail
 refine (hpv _ (hg.1.call hB) (hx.call hB)).mono ?_
 rintro e W2 ⟨rfl, hb2⟩
 have hP2 := hP.call hb2
 have hM2 := hM.call hb2
 have hO2 := hO.call hb2
 have hB2 := below_call hB hB.size hb2
 clear c0 l0 hP hM hB hb2 hpv
 have c0 := hP2.cells
 have l0 := hP2.lt
 have c1 := hM2.cells
 have l1 := hM2.lt
 go_wp2_with fail
 refine (hmv _).mono ?_
 rintro e W3 ⟨rfl, hb3⟩
 have hP3 := hP2.call hb3
 have hM3 := hM2.call hb3
 have hO3 := hO2.call hb3
 have hB3 := below_call hB2 hB2.size hb3
 clear c0 l0 c1 l1 hP2 hM2 hB2 hb3 hmv
 have c0 := hP3.cells
 have l0 := hP3.lt
 have c1 := hM3.cells
 have l1 := hM3.lt
 go_wp2_with fail
 refine (hmay _ (hg.call hB3) (hx.call hB3)).mono ?_
 rintro e W4 ⟨qb, capb, rfl, hb4, hqb, hY⟩
 have hsz := hB3.size
 have hO4 := hO3.call hb4
 have hB4 := below_call hB3 hB3.size hb4
 clear c0 l0 c1 l1
 have hZ := HasO.new W4 (.cells zeroPos.toArray 26)
 have hi : Hid ((Tryz.prog.info? 26).map (·.size) = some ((posCs B.F B.R (some ⟨qb, 0, none⟩) B.xs.length capb B.bl B.ca B.pa B.ha B.fu).toArray).size) := Lib.hid (by kernel_rfl)
 have ho : Hid (((posCs B.F B.R (some ⟨qb, 0, none⟩) B.xs.length capb B.bl B.ca B.pa B.ha B.fu).toArray).all (·.oneCell') = true) := Lib.hid (by simp [Value.oneCell'])
 have hl4 := hO4.lt
 have hl3 := hO3.lt
 have hbx := hb4.size
 have hBa := hB4.alloc (by omega) (.cells zeroPos.toArray 26)
 have hB5 := setRow_below (cells := (posCs B.F B.R (some ⟨qb, 0, none⟩) B.xs.length capb B.bl B.ca B.pa B.ha B.fu).toArray) hBa (g := W4.heap.size) (by omega) hBa.size
 have hT5 := setRow_hasO (cells := (posCs B.F B.R (some ⟨qb, 0, none⟩) B.xs.length capb B.bl B.ca B.pa B.ha B.fu).toArray) hZ
 have hO5 := (hO4.alloc (.cells zeroPos.toArray 26)).setRow_far (g := W4.heap.size) (cells := (posCs B.F B.R (some ⟨qb, 0, none⟩) B.xs.length capb B.bl B.ca B.pa B.ha B.fu).toArray) (by omega)
 have hY5 := (hY.call (below_box W4 (.cells zeroPos.toArray 26))).farR (g := W4.heap.size) (by have := hY.lt; omega) ((posCs B.F B.R (some ⟨qb, 0, none⟩) B.xs.length capb B.bl B.ca B.pa B.ha B.fu).toArray)
 go_upto_region 4 with (first | ((refine wpList_storeAgg rfl 26 (.tmp 6) (.tmp 24) rfl W4.heap.size ((posCs B.F B.R (some ⟨qb, 0, none⟩) B.xs.length capb B.bl B.ca B.pa B.ha B.fu).toArray) rfl rfl 26 _ hZ hi.out rfl ho.out ?_); rintro w3 rfl) | fail)
 change Code.wp Tryz.prog _ _ _ ((W4.alloc (.cells zeroPos.toArray 26)).setRow W4.heap.size ((posCs B.F B.R (some ⟨qb, 0, none⟩) B.xs.length capb B.bl B.ca B.pa B.ha B.fu).toArray))
 generalize (W4.alloc (.cells zeroPos.toArray 26)).setRow W4.heap.size ((posCs B.F B.R (some ⟨qb, 0, none⟩) B.xs.length capb B.bl B.ca B.pa B.ha B.fu).toArray) = W5 at *
 generalize W4.heap.size = q6 at *
 clear hZ hBa hO4 hB4
 cases MW
 ·have hi0 : Hid ((Tryz.prog.info? 26).map (·.size) = some (zeroPos.toArray).size) := Lib.hid (by kernel_rfl)
  have ho0 : Hid ((zeroPos.toArray).all (·.oneCell') = true) := Lib.hid (by simp [Value.oneCell'])
  go_wp2_with (first | ((refine wpList_storeAgg rfl 26 (.tmp 4) (.tmp 28) rfl (w.heap.size + 1 + 1) (zeroPos.toArray) rfl rfl 26 _ hO5 hi0.out rfl ho0.out ?_); rintro w3 rfl) | fail)
  refine bodyPost_ret (results_ct (fn := Tryz.f19) Tryz.results19 rfl (setRow_hasO (cells := zeroPos.toArray) hO5) (by kernel_rfl) (by kernel_rfl) rfl) rfl ?_
  unfold BefR
  rw [← hMe.out, if_neg (by decide)]
  exact ⟨setRow_below hB5 (by omega) hB5.size, rfl⟩
 ·go_wp2_with (first | (refine wpList_loadO rfl 26 (.tmp 6) rfl q6 _ 26 rfl hT5 (by kernel_rfl) ?_) | ((refine wpList_storeAgg rfl 26 (.tmp 4) (.tmp 29) rfl (w.heap.size + 1 + 1) ((posCs B.F B.R (some ⟨qb, 0, none⟩) B.xs.length capb B.bl B.ca B.pa B.ha B.fu).toArray) rfl rfl 26 _ hO5 hi.out rfl ho.out ?_); rintro w3 rfl) | fail)
  refine bodyPost_ret (results_ct (fn := Tryz.f19) Tryz.results19 rfl (setRow_hasO (cells := (posCs B.F B.R (some ⟨qb, 0, none⟩) B.xs.length capb B.bl B.ca B.pa B.ha B.fu).toArray) hO5) (by kernel_rfl) (by kernel_rfl) rfl) rfl ?_
  unfold BefR
  rw [← hMe.out, if_pos rfl, ← hBe.out]
  exact ⟨setRow_below hB5 (by omega) hB5.size, qb, capb, rfl, by omega, hY5.farR (by omega) _⟩
end Go.Proofs.YtefmplccbkmalaaGreatDoor
