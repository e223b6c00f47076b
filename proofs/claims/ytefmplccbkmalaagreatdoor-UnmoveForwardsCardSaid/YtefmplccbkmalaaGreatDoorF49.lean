import Derived.Test.YtefmplccbkmalaaGreatDoorF40
import Derived.Test.YtefmplccbkmalaaGreatDoorF48
set_option maxHeartbeats 12800000
namespace Go.Proofs.YtefmplccbkmalaaGreatDoor
open Go.RowKit Go.Sort Go.BigFrame

theorem wpList_pushR {W : World} {ops : Array Oper} {rest : List Oper} {o : Oper} {a : Act} {Q : Exit → Act → World → Prop} (hgd : o.guard = none) (s x : Operand) (ho : o.op = .call { callee := .builtin .append, args := #[s, x], argTypes := #[30, 30] })
  (base : Nat) (v : Value) (L : List Ret) (hs : a.eval s = v) (hown : W.ownsRow base 42 7 v L.length (L.flatMap Ret.cs)) (r : Ret) (q : Nat) (hq : q < W.heap.size) (hqv : HasO W q (.cells r.cs.toArray 42 (0, 0))) (hx : a.eval x = .slice (some ⟨q, 0, none⟩) 1 1)
  (hbytes : L.length ≤ 1000000000) (hbase : base ≤ W.heap.size)
  (h : ∀ v' w', w'.ownsRow base 42 7 v' (L ++ [r]).length ((L ++ [r]).flatMap Ret.cs) → W.grownBy w' v.ownBlock → Near W v v' → wpList Tryz.prog ops Q rest (a.put o.dst v') w') : wpList Tryz.prog ops Q (o :: rest) a W :=
 wpList_plain hgd fun _ hK => wp_pushR s x ho base v L hs hown r q hq hqv hx hbytes hbase (fun v' w' h1 h2 h3 => hK _ _ (h v' w' h1 h2 h3))
theorem wnt_s {i j : Nat} (hi : i < 2) (hj : j < 4) {fr : Int} (hf : fr = if i = 0 then 1 else 5) : wntL (4 * i + j + 1) = wntL (4 * i + j) ++ [⟨⟨fr, 2, 0⟩, (j : Int) - 5, 2, 0, -1⟩] := by
 have e1 : (4 * i + j < 4) ↔ i = 0 := by omega
 have e2 : (4 * i + j) % 4 = j := by omega
 simp only [wntL, e2, hf]
 by_cases h : i = 0
 ·rw [if_pos (e1.2 h), if_pos h]
 ·rw [if_neg (fun h2 => h (e1.1 h2)), if_neg h]
theorem wntL_len : ∀ k, (wntL k).length = k := by
 intro k
 induction k with
 | zero => rfl
 | succ k ih => simp [wntL, ih]

def kwF (q5 : Nat) (q6 : Nat) (X : Nat → Value) : Array Value := #[X 0, X 1, X 2, X 3, X 4, .pointer (some ⟨q5, 0, none⟩), .pointer (some ⟨q6, 0, none⟩), .slice none 0 0, X 8, X 9, X 10, X 11, X 12, X 13, X 14, X 15, X 16, X 17, X 18, X 19, X 20, X 21, X 22, X 23, X 24, X 25, X 26, X 27, X 28, X 29, X 30, X 31, X 32, X 33, X 34, X 35, X 36, X 37, X 38, X 39, X 40, X 41, X 42, X 43, X 44, X 45, X 46, X 47, X 48, X 49, X 50, X 51, X 52, X 53, X 54, X 55, X 56, X 57, X 58, X 59, X 60, X 61, X 62, X 63, X 64, X 65, X 66, X 67, X 68, X 69, X 70, X 71, X 72, X 73, X 74, X 75, X 76, X 77, X 78, X 79, X 80, X 81, X 82, X 83, X 84, X 85, X 86, X 87, X 88, X 89, X 90, X 91, X 92, X 93, X 94, X 95, X 96, X 97, X 98, X 99, X 100, X 101, X 102, X 103, X 104, X 105, X 106, X 107, X 108, X 109, X 110, X 111, X 112, X 113, X 114, X 115, X 116, X 117, X 118, X 119, X 120, X 121, X 122, X 123, X 124, X 125, X 126, X 127, X 128, X 129, X 130, X 131, X 132, X 133, X 134, X 135, X 136, X 137, X 138, X 139, X 140, X 141, X 142, X 143, X 144, X 145, X 146, X 147, X 148, X 149, X 150, X 151]
def kwT (T : Array Value) (q5 : Nat) (q6 : Nat) : Prop := T.size = 152 ∧ ofA T 5 = .pointer (some ⟨q5, 0, none⟩) ∧ ofA T 6 = .pointer (some ⟨q6, 0, none⟩) ∧ ofA T 7 = .slice none 0 0
set_option maxRecDepth 100000 in
theorem kwT.fr {T : Array Value} {q5 : Nat} {q6 : Nat} (h : kwT T q5 q6) : ∃ X, T = kwF q5 q6 X := by
 obtain ⟨hs, h5, h6, h7⟩ := h
 have h := kaL T hs
 rw [h5, h6, h7] at h
 exact ⟨ofA T, h⟩
set_option maxRecDepth 100000 in
theorem kn6 (w : World) (hg : GlobU w) (ht : TzOk w) (q5 q6 : Nat) (T : Array Value) (hT : kwT T q5 q6) (W : World) (hB : RowKit.Below w.heap.size w W) (h5 : HasO W q5 (.cells #[.int .i64 1, .int .i64 2, .int .i8 0] 40 (0, 0))) (h6 : HasO W q6 (.cells #[.int .i64 5, .int .i64 2, .int .i8 0] 40 (0, 0)))
  (cd : Code) (hcd : Tryz.f9.body.map (sufC 6) = some cd) : cd.wp Tryz.prog (bodyPost Tryz.prog Tryz.f9 fun e w' => e = .returned (.bool true) ∧ RowKit.Below w.heap.size w w') { tmps := T, defers := [] } W := by
 obtain rfl := Option.some.inj ((show Tryz.f9.body.map (sufC 6) = some _ from rfl).symm.trans hcd)
 clear hcd
 simp only [sufC]
 obtain ⟨X, rfl⟩ := hT.fr
 clear hT
 unfold kwF
 obtain ⟨Rs, hRs⟩ : ∃ Rs : Ending → World → Prop, Rs = fun e w' => e = .returned (.bool true) ∧ RowKit.Below w.heap.size w w' := ⟨_, rfl⟩
 rw [← hRs]
 replace hRs := Lib.hid hRs
 have hws := fun i j hi hj fr hf => wnt_s (i := i) (j := j) hi hj (fr := fr) hf
 have hwl := wntL_len
 have hw0 : wntL 0 = [] := rfl
 obtain ⟨WL, hWL⟩ : ∃ WL, WL = wntL := ⟨_, rfl⟩
 rw [← hWL] at hws hwl hw0
 replace hWL := Lib.hid hWL
 have c5 := h5.cells
 have l5 := h5.lt
 have c6 := h6.cells
 have l6 := h6.lt
 have hb1 := below_box W (.cells #[.int .i64 1, .int .i64 2, .int .i8 0, .int .i64 5, .int .i64 2, .int .i8 0] 40)
 have hM := HasO.new W (.cells #[.int .i64 1, .int .i64 2, .int .i8 0, .int .i64 5, .int .i64 2, .int .i8 0] 40)
 have hz : (W.alloc (.cells #[.int .i64 1, .int .i64 2, .int .i8 0, .int .i64 5, .int .i64 2, .int .i8 0] 40)).heap.size = W.heap.size + 1 := by simp
 have hgW : w.heap.size ≤ W.heap.size := hB.size
 go_upto_region 7 with fail
 rename_i k1 hk1 k0 hk0
 replace hk1 := Lib.hid hk1
 go_wp2_with fail
 change Code.wp _ _ _ _ (W.alloc (.cells #[.int .i64 1, .int .i64 2, .int .i8 0, .int .i64 5, .int .i64 2, .int .i8 0] 40))
 generalize W.alloc (.cells #[.int .i64 1, .int .i64 2, .int .i8 0, .int .i64 5, .int .i64 2, .int .i8 0] 40) = W1 at *
 obtain ⟨gM, hgM⟩ : ∃ g, g = W.heap.size := ⟨_, rfl⟩
 rw [← hgM] at hM hz hgW hb1 ⊢
 replace hgM := Lib.hid hgM
 have hnil : W1.ownsRow gM 42 7 (.slice none 0 0) (WL 0).length (retsV (WL 0)) := by rw [hw0]; exact ⟨rfl, .inl ⟨rfl, rfl⟩⟩
 clear c5 l5 c6 l6
 go_loopg [7, 56] 4 (fun q v7 iv wr => ∃ i : Nat, q + i = 4 ∧ i ≤ 2 ∧ iv = .int .i64 i ∧ wr.ownsRow gM 42 7 v7 (WL (4 * i)).length (retsV (WL (4 * i))) ∧ RowKit.Below gM W wr ∧ HasO wr gM (.cells #[.int .i64 1, .int .i64 2, .int .i8 0, .int .i64 5, .int .i64 2, .int .i8 0] 40 (0, 0)) ∧ gM + 1 ≤ wr.heap.size)
 case atStart => exact ⟨0, rfl, Nat.zero_le _, rfl, hnil, hb1, hM, by omega⟩
 case round =>
  clear hnil hb1 hM hz
  obtain ⟨i, hq, hi, rfl, hown, hBr, hMr, hzr⟩ := hrel
  by_cases hlt : i < 2
  ·have hii : (i : Int) < 2 := by omega
   obtain ⟨fr, hfr⟩ : ∃ fr : Int, fr = if i = 0 then 1 else 5 := ⟨_, rfl⟩
   have hm0 : wr.cell? ⟨gM, i * 3, none⟩ = some (.int .i64 fr) := by
    rw [hMr.cells, hfr]
    rcases (by omega : i = 0 ∨ i = 1) with rfl | rfl <;> rfl
   have hm1 : wr.cell? ⟨gM, i * 3 + 1, none⟩ = some (.int .i64 2) := by
    rw [hMr.cells]
    rcases (by omega : i = 0 ∨ i = 1) with rfl | rfl <;> rfl
   have hm2 : wr.cell? ⟨gM, i * 3 + 2, none⟩ = some (.int .i8 0) := by
    rw [hMr.cells]
    rcases (by omega : i = 0 ∨ i = 1) with rfl | rfl <;> rfl
   have hlM := hMr.lt
   have hws2 := fun j hj => hws i j hlt hj fr hfr
   replace hfr := Lib.hid hfr
   have hbx := below_box wr (.cells #[.int .i64 fr, .int .i64 2, .int .i8 0] 40)
   have hF := HasO.new wr (.cells #[.int .i64 fr, .int .i64 2, .int .i8 0] 40)
   have hown1 := own_call hown hbx
   have hM1 := hMr.call hbx
   have hB1 := below_call hBr (by omega) hbx
   have hz1 : wr.heap.size + 1 ≤ (wr.alloc (.cells #[.int .i64 fr, .int .i64 2, .int .i8 0] 40)).heap.size := by simp
   go_upto_region 10 with fail
   change Code.wp _ _ _ _ (wr.alloc (.cells #[.int .i64 fr, .int .i64 2, .int .i8 0] 40))
   generalize wr.alloc (.cells #[.int .i64 fr, .int .i64 2, .int .i8 0] 40) = w2 at *
   clear hm0 hm1 hm2 hlM hown hMr hbx
   obtain ⟨q9, hq9⟩ : ∃ q, q = wr.heap.size := ⟨_, rfl⟩
   rw [← hq9] at hF hz1 ⊢
   have hq9g : gM < q9 := by omega
   replace hq9 := Lib.hid hq9
   go_wp2_with fail
   obtain ⟨g1, hg1⟩ : ∃ x, x = gk := ⟨_, rfl⟩
   subst hg1
   go_loopg [7, 10] 5 (fun q v7 iv wr => ∃ (j : Nat) (wz : World), wz = wr ∧ q + j = 5 ∧ j ≤ 4 ∧ iv = .int .i8 ((j : Int) - 5) ∧ wz.ownsRow gM 42 7 v7 (WL (4 * i + j)).length (retsV (WL (4 * i + j))) ∧ RowKit.Below gM W wz ∧ HasO wz gM (.cells #[.int .i64 1, .int .i64 2, .int .i8 0, .int .i64 5, .int .i64 2, .int .i8 0] 40 (0, 0)) ∧ HasO wz q9 (.cells #[.int .i64 fr, .int .i64 2, .int .i8 0] 40 (0, 0)))
   case atStart => exact ⟨0, _, rfl, rfl, Nat.zero_le _, rfl, hown1, hB1, hM1, hF⟩
   case round =>
    clear hown1 hB1 hM1 hF hz1
    obtain ⟨j, wz, rfl, hqj, hj, rfl, hown, hBz, hMz, hFz⟩ := hrel
    by_cases hjl : j < 4
    ·have hji : (j : Int) - 5 ≤ -2 := by omega
     have hwn := Lib.hid (hws2 j hjl)
     have hF0 := hFz.cells
     have hFl := hFz.lt
     have hbx := below_box wz (.cells (⟨⟨fr, 2, 0⟩, (j : Int) - 5, 2, 0, -1⟩ : Ret).cs.toArray 42)
     have hX := HasO.new wz (.cells (⟨⟨fr, 2, 0⟩, (j : Int) - 5, 2, 0, -1⟩ : Ret).cs.toArray 42)
     have hMx := hMz.call hbx
     have hFx := hFz.call hbx
     have hwz : gM ≤ wz.heap.size := by omega
     have hBx := below_call hBz hwz hbx
     have hownx := own_call hown hbx
     have hzx : wz.heap.size < (wz.alloc (.cells (⟨⟨fr, 2, 0⟩, (j : Int) - 5, 2, 0, -1⟩ : Ret).cs.toArray 42)).heap.size := by simp
     have hbzx := Nat.le_trans hwz (Nat.le_of_lt hzx)
     have hneM := own_ne hownx hMx (by simp)
     have hneF := own_ne hownx hFx (by simp)
     have hll := hwl (4 * i + j)
     have hltx := fun k e => (hownx.lt k e).1
     have hBxs := hBx.size
     go_wp2_with (at_builtin; refine wpList_pushR rfl (.tmp 64) (.tmp 68) rfl gM _ (WL (4 * i + j)) rfl hownx ⟨⟨fr, 2, 0⟩, (j : Int) - 5, 2, 0, -1⟩ wz.heap.size hzx hX rfl (by omega) hbzx ?_)
     intro v8 w8 ho8 hg8 _
     have hM8 := hMx.grown hg8 hneM
     have hF8 := hFx.grown hg8 hneF
     have hB8 := hBx.grown hg8 hbzx hltx
     have ho9 : w8.ownsRow gM 42 7 v8 (WL (4 * i + j + 1)).length (retsV (WL (4 * i + j + 1))) := by
      rw [hwl, hwn.out, retsV_app]; exact ho8
     clear ho8
     have hsz8 := hM8.lt
     clear hownx hMx hFx hBx hX hbx hneM hneF hltx hg8 hown hBz hMz hFz hF0 hFl hzx hbzx hBxs
     go_wp2_with fail
     go_roundg (gk - 1)
     case measure => omega
     case rel => exact ⟨j + 1, _, rfl, by omega, by omega, by go_num, ho9, hB8, hM8, hF8⟩
    ·obtain rfl : j = 4 := by omega
     have h44 : 4 * i + 4 = 4 * (i + 1) := by omega
     rw [h44] at hown
     have hlm := hFz.lt
     have hzz : gM + 1 ≤ wz.heap.size := by omega
     clear hFz
     go_wp2_with fail
     go_roundg (g1 - 1)
     case measure => omega
     case rel => exact ⟨i + 1, by omega, by omega, by go_num, hown, hBz, hMz, hzz⟩
  ·obtain rfl : i = 2 := by omega
   rw [hWL.out] at hown
   have hown8 : wr.ownsRow gM 42 7 u7 (wntL 8).length (retsV (wntL 8)) := hown
   obtain ⟨p7, c7, e7, hr7⟩ := own_rarr hown8
   rw [show (wntL 8).length = 8 from by decide] at e7
   clear hown hown8
   subst e7
   go_wp2_with fail
   refine hk1.out _ _ ?_
   rw [hRs.out]
   refine kn7 w hg ht p7 c7 _ ?_ wr (hB.trans (hBr.mono hgW)) hr7 _ rfl
   exact ⟨rfl, rfl⟩
def kL2 : List Ret := [⟨⟨1, 2, 0⟩, 0, -1, 0, -1⟩, ⟨⟨5, 2, 0⟩, 0, -1, 0, -1⟩]

def kxF (v1 : Value) (v3 : Value) (q5 : Nat) (q6 : Nat) (X : Nat → Value) : Array Value := #[X 0, v1, .int .i64 0, v3, .int .i64 0, .pointer (some ⟨q5, 0, none⟩), .pointer (some ⟨q6, 0, none⟩), X 7, X 8, X 9, X 10, X 11, X 12, X 13, X 14, X 15, X 16, X 17, X 18, X 19, X 20, X 21, X 22, X 23, X 24, X 25, X 26, X 27, X 28, X 29, X 30, X 31, X 32, X 33, X 34, X 35, X 36, X 37, X 38, X 39, X 40, X 41, X 42, X 43, X 44, X 45, X 46, X 47, X 48, X 49, X 50, X 51, X 52, X 53, X 54, X 55, X 56, X 57, X 58, X 59, X 60, X 61, X 62, X 63, X 64, X 65, X 66, X 67, X 68, X 69, X 70, X 71, X 72, X 73, X 74, X 75, X 76, X 77, X 78, X 79, X 80, X 81, X 82, X 83, X 84, X 85, X 86, X 87, X 88, X 89, X 90, X 91, X 92, X 93, X 94, X 95, X 96, X 97, X 98, X 99, X 100, X 101, X 102, X 103, X 104, X 105, X 106, X 107, X 108, X 109, X 110, X 111, X 112, X 113, X 114, X 115, X 116, X 117, X 118, X 119, X 120, X 121, X 122, X 123, X 124, X 125, X 126, X 127, X 128, X 129, X 130, X 131, X 132, X 133, X 134, X 135, X 136, X 137, X 138, X 139, X 140, X 141, X 142, X 143, X 144, X 145, X 146, X 147, X 148, X 149, X 150, X 151]
def kxT (T : Array Value) (v1 : Value) (v3 : Value) (q5 : Nat) (q6 : Nat) : Prop := T.size = 152 ∧ ofA T 1 = v1 ∧ ofA T 2 = .int .i64 0 ∧ ofA T 3 = v3 ∧ ofA T 4 = .int .i64 0 ∧ ofA T 5 = .pointer (some ⟨q5, 0, none⟩) ∧ ofA T 6 = .pointer (some ⟨q6, 0, none⟩)
set_option maxRecDepth 100000 in
theorem kxT.fr {T : Array Value} {v1 : Value} {v3 : Value} {q5 : Nat} {q6 : Nat} (h : kxT T v1 v3 q5 q6) : ∃ X, T = kxF v1 v3 q5 q6 X := by
 obtain ⟨hs, h1, h2, h3, h4, h5, h6⟩ := h
 have h := kaL T hs
 rw [h1, h2, h3, h4, h5, h6] at h
 exact ⟨ofA T, h⟩
set_option maxRecDepth 100000 in
theorem kn4s (w : World) (hg : GlobU w) (ht : TzOk w) (q5 q6 : Nat) (p1 p3 : Option Addr) (c1 c3 : Nat) (T : Array Value) (hT : kxT T (.slice p1 0 c1) (.slice p3 2 c3) q5 q6) (W : World) (hB : RowKit.Below w.heap.size w W) (h5 : HasO W q5 (.cells #[.int .i64 1, .int .i64 2, .int .i8 0] 40 (0, 0))) (h6 : HasO W q6 (.cells #[.int .i64 5, .int .i64 2, .int .i8 0] 40 (0, 0))) (hR3 : RArr W p3 kL2)
  (cd : Code) (hcd : Tryz.f9.body.map (sufC 4) = some cd) : cd.wp Tryz.prog (bodyPost Tryz.prog Tryz.f9 fun e w' => e = .returned (.bool true) ∧ RowKit.Below w.heap.size w w') { tmps := T, defers := [] } W := by
 obtain rfl := Option.some.inj ((show Tryz.f9.body.map (sufC 4) = some _ from rfl).symm.trans hcd)
 clear hcd
 simp only [sufC]
 obtain ⟨X, rfl⟩ := hT.fr
 clear hT
 unfold kxF
 obtain ⟨Rs, hRs⟩ : ∃ Rs : Ending → World → Prop, Rs = fun e w' => e = .returned (.bool true) ∧ RowKit.Below w.heap.size w w' := ⟨_, rfl⟩
 rw [← hRs]
 replace hRs := Lib.hid hRs
 have c5 := h5.cells
 have l5 := h5.lt
 have c6 := h6.cells
 have l6 := h6.lt
 have hbx := below_box W (.cells (retsV kL2).toArray 42)
 have hB1 := below_call hB hB.size hbx
 have h51 := h5.call hbx
 have h61 := h6.call hbx
 have hR31 := hR3.call hbx
 have hR7 : RArr (W.alloc (.cells (retsV kL2).toArray 42)) (some ⟨W.heap.size, 0, none⟩) kL2 := by
  refine .inr ⟨W.heap.size, rfl, by simp, fun j hj i v hv => ?_⟩
  have hx := HasO.new W (.cells (retsV kL2).toArray 42)
  rw [hx.cells]
  have h7 : i < 7 := (List.getElem?_eq_some_iff.1 hv).1
  have hg := retsV_get kL2 j i v hj hv
  rw [List.getElem?_toArray]
  exact hg
 have hsm := same14_any p3 (some ⟨W.heap.size, 0, none⟩) c3 2 kL2 kL2 (by decide) (W.alloc (.cells (retsV kL2).toArray 42)) hR31 hR7
 rw [show kL2.length = 2 from rfl, show decide (kL2 = kL2) = true from by simp] at hsm
 go_wp2_with fail
 refine hsm.mono ?_
 rintro e W2 ⟨rfl, hb2⟩
 have h52 := h51.call hb2
 have h62 := h61.call hb2
 have hB2 := below_call hB1 hB1.size hb2
 clear hsm c5 l5 c6 l6 hbx hB1 h51 h61 hR31 hR7 hb2
 go_upto_region 6 with fail
 rename_i k0 hk0
 replace hk0 := Lib.hid hk0
 go_wp2_with fail
 refine hk0.out _ _ ?_
 rw [hRs.out]
 refine kn6 w hg ht q5 q6 _ ?_ W2 hB2 h52 h62 _ rfl
 exact ⟨rfl, rfl, rfl, rfl⟩
set_option maxRecDepth 100000 in
theorem known_any (w : World) (hg : GlobU w) (ht : TzOk w) : Calls Tryz.prog 9 #[] w fun e w' => e = .returned (.bool true) ∧ RowKit.Below w.heap.size w w' := by
 obtain ⟨Rs, hRs⟩ : ∃ Rs : Ending → World → Prop, Rs = fun e w' => e = .returned (.bool true) ∧ RowKit.Below w.heap.size w w' := ⟨_, rfl⟩
 rw [← hRs]
 replace hRs := Lib.hid hRs
 have hm1 := mvs1
 have hm2 := mvs2
 obtain ⟨K2, hK2⟩ : ∃ K2, K2 = kL2 := ⟨_, rfl⟩
 have hm2 : ∀ (W : World) (p : Option Addr) (c : Nat), kP2.xs.length ≤ c → GlobU W → TzOk W → Arr .i8 W p kP2.xs → Calls Tryz.prog 11 #[.agg (posCs 3 3 p kP2.xs.length c true 0 (-1) 1 1).toArray] W fun e w' => (∃ p' c', e = .returned (.tuple #[.slice p' 2 c', .int .i64 0]) ∧ RArr w' p' K2) ∧ RowKit.Below W.heap.size W w' := by
  rw [hK2]; exact hm2
 replace hK2 := Lib.hid hK2
 have hp1 := pos1 w
 have hp2 := fun W => pos2 W
 go_enter Tryz.func9, Tryz.ntmps9
 go_wp2_with fail
 refine hp1.mono ?_
 rintro e W2 ⟨⟨p, c, rfl, hc, hx⟩, hb2⟩
 have hmm := hm1 W2 p c hc (hg.call hb2) (ht.call hb2) hx
 clear hp1 hm1
 go_wp2_with fail
 refine hmm.mono ?_
 rintro e W3 ⟨⟨p1, c1, rfl, hR1⟩, hb3⟩
 have hB3 := below_call hb2 hb2.size hb3
 clear hmm hb2 hb3 hx hR1
 go_wp2_with fail
 refine (hp2 W3).mono ?_
 rintro e W4 ⟨⟨p', c', rfl, hc', hx'⟩, hb4⟩
 have hB4 := below_call hB3 hB3.size hb4
 have hmm := hm2 W4 p' c' hc' (hg.call hB4) (ht.call hB4) hx'
 clear hp2 hB3 hb4 hm2
 go_wp2_with fail
 refine hmm.mono ?_
 rintro e W5 ⟨⟨p3, c3, rfl, hR3⟩, hb5⟩
 have hB5 := below_call hB4 hB4.size hb5
 clear hmm hB4 hb5 hx'
 have hbb := (below_box W5 (.cells #[.int .i64 1, .int .i64 2, .int .i8 0] 40)).alloc (by simp) (.cells #[.int .i64 5, .int .i64 2, .int .i8 0] 40)
 have h5 := (HasO.new W5 (.cells #[.int .i64 1, .int .i64 2, .int .i8 0] 40)).alloc (.cells #[.int .i64 5, .int .i64 2, .int .i8 0] 40)
 have h6 := HasO.new' (W5.alloc (.cells #[.int .i64 1, .int .i64 2, .int .i8 0] 40)) (.cells #[.int .i64 5, .int .i64 2, .int .i8 0] 40) (q := W5.heap.size + 1) (by simp)
 have hR35 := hR3.call hbb
 have hB6 := below_call hB5 hB5.size hbb
 go_upto_region 3 with fail
 rename_i k0 hk0
 replace hk0 := Lib.hid hk0
 go_wp2_with fail
 refine hk0.out _ _ ?_
 rw [hRs.out]
 rw [hK2.out] at hR35
 refine kn4s w hg ht W5.heap.size (W5.heap.size + 1) p1 p3 c1 c3 _ ?_ _ hB6 h5 h6 hR35 _ rfl
 exact ⟨rfl, rfl, rfl, rfl, rfl, rfl, rfl⟩
set_option maxRecDepth 100000 in
theorem small_any (f r : Int) (pp : Option Addr) (n cc : Nat) (bl : Bool) (ca pa ha fu : Int) (w : World) :
  Calls Tryz.prog 8 #[.agg (posCs f r pp n cc bl ca pa ha fu).toArray] w fun e w' => e = .returned (.bool (decide ((n : Int) ≤ 64))) ∧ RowKit.Below w.heap.size w w' := by
 have hB := below_box w (.cells (posCs f r pp n cc bl ca pa ha fu).toArray 26)
 have hA := HasO.new w (.cells (posCs f r pp n cc bl ca pa ha fu).toArray 26)
 have c0 := hA.cells
 have l0 := hA.lt
 go_enter Tryz.func8, Tryz.ntmps8
 go_wp2_with fail
 go_ret
 exact ⟨rfl, hB⟩
def bxR (n0 : Nat) (x : Ret) (w : World) : Bool → Bool → Value → Prop
 | _, true, u => ∃ q, u = .pointer (some ⟨q, 0, none⟩) ∧ n0 ≤ q ∧ HasO w q (.cells x.cs.toArray 42 (0, 0))
 | true, false, u => ∃ q, u = .pointer (some ⟨q, 0, none⟩) ∧ n0 ≤ q ∧ HasO w q (.cells zeroRet.cs.toArray 42 (0, 0))
 | false, false, _ => True
theorem bxR.call {n0 : Nat} {x : Ret} {w w' : World} {a b : Bool} {u : Value} (h : bxR n0 x w a b u) (hb : RowKit.Below w.heap.size w w') : bxR n0 x w' a b u := by
 rcases b with _ | _
 ·rcases a with _ | _
  ·trivial
  ·obtain ⟨q, e1, e2, e3⟩ := h; exact ⟨q, e1, e2, e3.call hb⟩
 ·obtain ⟨q, e1, e2, e3⟩ := h; exact ⟨q, e1, e2, e3.call hb⟩
theorem bxR.far {n0 : Nat} {x : Ret} {w : World} {a b : Bool} {u : Value} {q : Nat} (h : bxR n0 x w a b u) (cs : Array Value) (hq : a = true → u ≠ .pointer (some ⟨q, 0, none⟩)) (hab : b = true → a = true) : bxR n0 x (w.setRow q cs) a b u := by
 rcases b with _ | _
 ·rcases a with _ | _
  ·trivial
  ·obtain ⟨q', e1, e2, e3⟩ := h; exact ⟨q', e1, e2, e3.setRow_far (fun e => hq rfl (by rw [e1, e]))⟩
 ·obtain ⟨q', e1, e2, e3⟩ := h; exact ⟨q', e1, e2, e3.setRow_far (fun e => hq (hab rfl) (by rw [e1, e]))⟩
theorem boxed_b (W : World) (old new : Array Value) (t : TypeId) : RowKit.Below W.heap.size W ((W.alloc (.cells old t)).setRow W.heap.size new) := setRow_below (below_box W _) (Nat.le_refl _) (by simp)
theorem boxed_o (W : World) (old new : Array Value) (t : TypeId) : HasO ((W.alloc (.cells old t)).setRow W.heap.size new) W.heap.size (.cells new t (0, 0)) := setRow_hasO (HasO.new W _)
theorem posE_self (xs : List Int) (b : Bool) (c p : Int) : posE xs xs b b c c p p = true := by simp [posE]
end Go.Proofs.YtefmplccbkmalaaGreatDoor
