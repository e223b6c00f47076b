import Derived.Test.YtefmplccbkmalaaGreatDoorH19
import Derived.Test.YtefmplccbkmalaaGreatDoorH20
import Derived.Laws.OwnMore
import Derived.WalkSpells
set_option maxHeartbeats 12800000
namespace Go.Proofs.YtefmplccbkmalaaGreatDoor
open Go.RowKit Go.Sort Go.BigFrame

def OArr (W : World) (q cap : Nat) (xs : List Int) : Prop := ∃ cur : Array Value, HasO W q (.cells cur 38 (0, 0)) ∧ xs.length ≤ cap ∧ cur.size = cap ∧ ∀ j, j < xs.length → cur[j]? = some (.int .i8 (xs[j]?.getD 0))
theorem OArr.arr {W : World} {q cap : Nat} {xs : List Int} (h : OArr W q cap xs) : Arr .i8 W (some ⟨q, 0, none⟩) xs := by
 obtain ⟨cur, h1, h2, h3, h4⟩ := h
 exact .inr ⟨q, 0, rfl, h1.lt, fun j hj => by rw [Nat.zero_add, h1.cells j]; exact h4 j hj⟩
theorem OArr.call {W W' : World} {q cap : Nat} {xs : List Int} (h : OArr W q cap xs) (hb : RowKit.Below W.heap.size W W') : OArr W' q cap xs := by
 obtain ⟨cur, h1, h2⟩ := h
 exact ⟨cur, h1.call hb, h2⟩
theorem OArr.lt {W : World} {q cap : Nat} {xs : List Int} (h : OArr W q cap xs) : q < W.heap.size := by
 obtain ⟨cur, h1, _⟩ := h
 exact h1.lt
theorem OArr.far {W : World} {q cap : Nat} {xs : List Int} (h : OArr W q cap xs) {p : Addr} (hp : q ≠ p.block) (u : Value) : OArr (W.setCell p u) q cap xs := by
 obtain ⟨cur, h1, h2⟩ := h
 exact ⟨cur, h1.far hp u, h2⟩
theorem OArr.farR {W : World} {q g cap : Nat} {xs : List Int} (h : OArr W q cap xs) (hp : q ≠ g) (cs : Array Value) : OArr (W.setRow g cs) q cap xs := by
 obtain ⟨cur, h1, h2⟩ := h
 exact ⟨cur, h1.setRow_far hp, h2⟩
theorem OArr.set {W : World} {q cap : Nat} {xs : List Int} (h : OArr W q cap xs) (i : Nat) (v : Int) : OArr (W.setCell ⟨q, i, none⟩ (.int .i8 v)) q cap (xs.set i v) := by
 obtain ⟨cur, h1, h2, h3, h4⟩ := h
 refine ⟨cur.setIfInBounds i (.int .i8 v), h1.set_ i _, by simpa using h2, by simpa using h3, fun j hj => ?_⟩
 rw [List.length_set] at hj
 rw [Array.getElem?_setIfInBounds]
 by_cases e : i = j
 ·subst e
  rw [if_pos rfl, if_pos (by omega), List.getElem?_set_self hj]; rfl
 ·rw [if_neg e, List.getElem?_set_ne e]; exact h4 j hj
theorem OArr.cell {W : World} {q cap : Nat} {xs : List Int} (h : OArr W q cap xs) {j : Nat} (hj : j < xs.length) : W.cell? ⟨q, j, none⟩ = some (.int .i8 (xs[j]?.getD 0)) := by
 obtain ⟨cur, h1, h2, h3, h4⟩ := h
 rw [h1.cells j]; exact h4 j hj
theorem OArr.frozen {W : World} {q cap : Nat} {xs : List Int} (h : OArr W q cap xs) (j : Nat) : W.frozen? ⟨q, j, none⟩ = false := by
 obtain ⟨cur, h1, _⟩ := h
 exact h1.frozen j
theorem OArr.of {W : World} {base : Nat} {v : Value} {xs : List Int} (h : W.ownsRow base 38 1 v xs.length (xs.map (.int .i8))) (h0 : 0 < xs.length) : ∃ q cap, v = .slice (some ⟨q, 0, none⟩) xs.length cap ∧ base ≤ q ∧ OArr W q cap xs := by
 rcases h.2 with ⟨_, h2⟩ | ⟨g, cap, cur, rfl, hg, hh, hc, _, hcs, ht⟩
 ·omega
 ·refine ⟨g, cap, rfl, hg, cur, hh, hc, by omega, fun j hj => ?_⟩
  have h1 : (cur.toList.take (xs.length * 1))[j]? = some (.int .i8 (xs[j]?.getD 0)) := by rw [ht]; simp [hj]
  rw [List.getElem?_take_of_lt (by omega)] at h1
  simpa using h1
theorem Tryz.info38 : (Tryz.prog.info? 38).map (fun i => (i.zero, i.size, i.bytes)) = some (some (.int .i8 0), 1, 1) := by kernel_rfl
theorem arr_news {W : World} {g o : Nat} {xs : List Int} (h : Arr .i8 W (some ⟨g, o, none⟩) xs) : ∀ j u, (xs.map (Value.int .i8))[j]? = some u → W.cell? ((⟨g, o, none⟩ : Addr).add j) = some u := by
 intro j u hu
 have hj : j < xs.length := by have := (List.getElem?_eq_some_iff.1 hu).1; simpa using this
 obtain ⟨b, o', e', hb, hc⟩ := h.at (i := j) hj
 injection e' with e'
 injection e' with e1 e2
 subst e1 e2
 rw [Addr.add_lit, hc j hj]
 simp [hj] at hu ⊢
 exact hu
set_option maxRecDepth 100000 in
theorem clone_any (g o c : Nat) (xs : List Int) (w : World) (hx : Arr .i8 w (some ⟨g, o, none⟩) xs) (h0 : 0 < xs.length) (hl : xs.length ≤ 1000) :
  Calls Tryz.prog 122 #[.slice (some ⟨g, o, none⟩) xs.length c] w fun e w' => ∃ q cap, e = .returned (.slice (some ⟨q, 0, none⟩) xs.length cap) ∧ RowKit.Below w.heap.size w w' ∧ w.heap.size ≤ q ∧ OArr w' q cap xs := by
 obtain ⟨i3, hi3, hz3, hs3, hy3⟩ := info_parts Tryz.info38
 have hown := own_new w w.heap.size 38 [] (Nat.le_refl _) (by simp [maxLen])
 have hb := below_box w (.cells (#[] : Array Value) 38)
 have hx1 := hx.call hb
 have hli : ¬ (xs.length : Int) = 0 := by omega
 have hnil := Lib.run_eql_slice_nil (P := Tryz.prog) w 24 38 (some ⟨g, o, none⟩) xs.length c 0 0 Tryz.underlying24
 go_enter Tryz.func122, Tryz.ntmps122
 go_wp2_with (refine wpList_append_own _ rfl (.tmp 5) (.tmp 6) 24 rfl w.heap.size 38 i3 (.int .i8 0) 1 1 Tryz.underlying24 hi3 hz3 hs3 hy3 rfl (by decide) _ 0 [] rfl hown ⟨g, o, none⟩ xs.length c (xs.map (.int .i8)) rfl (by simp) (arr_news hx1) (by intro u hu; obtain ⟨y, _, rfl⟩ := List.mem_map.1 hu; rfl) (by unfold maxLen; omega) (by omega) (by simp) ?_)
 intro v' w' ho hgr _
 obtain ⟨q, cap, rfl, hq, hO⟩ := OArr.of ho h0
 have hB := (hb.grown hgr (Nat.le_of_lt (by simp)) (fun j e => by simp [Value.ownBlock] at e; omega))
 go_wp2_with fail
 go_ret
 exact ⟨q, cap, rfl, hB, hq, hO⟩
def CopyR (F R ca pa ha fu : Int) (bl : Bool) (xs : List Int) (w : World) (e : Ending) (w' : World) : Prop :=
 ∃ q cap, e = .returned (.agg (posCs F R (some ⟨q, 0, none⟩) xs.length cap bl ca pa ha fu).toArray) ∧ RowKit.Below w.heap.size w w' ∧ w.heap.size ≤ q ∧ OArr w' q cap xs
set_option maxRecDepth 100000 in
theorem copy_any (F R ca pa ha fu : Int) (bl : Bool) (g o c : Nat) (xs : List Int) (w : World) (hx : Arr .i8 w (some ⟨g, o, none⟩) xs) (h0 : 0 < xs.length) (hl : xs.length ≤ 1000) :
  Calls Tryz.prog 65 #[.agg (posCs F R (some ⟨g, o, none⟩) xs.length c bl ca pa ha fu).toArray] w (CopyR F R ca pa ha fu bl xs w) := by
 have hA := (HasO.new w (.cells (posCs F R (some ⟨g, o, none⟩) xs.length c bl ca pa ha fu).toArray 26)).alloc (.cells (posCs 0 0 none 0 0 false 0 0 0 0).toArray 26)
 have hZ := HasO.new' (w.alloc (.cells (posCs F R (some ⟨g, o, none⟩) xs.length c bl ca pa ha fu).toArray 26)) (.cells (posCs 0 0 none 0 0 false 0 0 0 0).toArray 26) (q := w.heap.size + 1) (by simp)
 have hB := (below_box w (.cells (posCs F R (some ⟨g, o, none⟩) xs.length c bl ca pa ha fu).toArray 26)).alloc (by simp) (.cells (posCs 0 0 none 0 0 false 0 0 0 0).toArray 26)
 have hx1 := hx.call hB
 have hc1 := hA.cells
 have hl1 := hA.lt
 have hlZ := hZ.lt
 go_enter Tryz.func65, Tryz.ntmps65
 go_wp2_with fail
 generalize (w.alloc (.cells (posCs F R (some ⟨g, o, none⟩) xs.length c bl ca pa ha fu).toArray 26)).alloc (.cells (posCs 0 0 none 0 0 false 0 0 0 0).toArray 26) = w1 at *
 refine (clone_any g o c xs w1 hx1 h0 hl).mono ?_
 rintro e w2 ⟨q, cap, rfl, hb2, hq, hO⟩
 have hA2 := hA.call hb2
 have hZ2 := hZ.call hb2
 have hB2 := below_call hB hB.size hb2
 clear hc1 hl1 hA hZ hB hx1 hx
 have hqa : q ≠ w.heap.size := by omega
 have hqz : q ≠ w.heap.size + 1 := by omega
 have hqw : w.heap.size ≤ q := by omega
 have hc1 := hA2.cells
 have hf1 := hA2.frozen
 have hl1 := hA2.lt
 have hi : Hid ((Tryz.prog.info? 26).map (·.size) = some (posCs F R (some ⟨q, 0, none⟩) xs.length cap bl ca pa ha fu).toArray.size) := Lib.hid (by kernel_rfl)
 have ho : Hid ((posCs F R (some ⟨q, 0, none⟩) xs.length cap bl ca pa ha fu).toArray.all (·.oneCell') = true) := Lib.hid (by simp [Value.oneCell'])
 have hA3 : HasO (w2.setCell ⟨w.heap.size, 2, none⟩ (.slice (some ⟨q, 0, none⟩) xs.length cap)) w.heap.size (.cells (posCs F R (some ⟨q, 0, none⟩) xs.length cap bl ca pa ha fu).toArray 26 (0, 0)) := hA2.set_ 2 (.slice (some ⟨q, 0, none⟩) xs.length cap)
 have hZ3 := hZ2.far (p := ⟨w.heap.size, 2, none⟩) (by simp) (.slice (some ⟨q, 0, none⟩) xs.length cap)
 have hO3 := hO.far (p := ⟨w.heap.size, 2, none⟩) hqa (.slice (some ⟨q, 0, none⟩) xs.length cap)
 have hB3 : RowKit.Below w.heap.size w (w2.setCell ⟨w.heap.size, 2, none⟩ (.slice (some ⟨q, 0, none⟩) xs.length cap)) := hB2.setCell (by simp) _
 clear hA2 hZ2 hB2 hO
 go_wp2_with (first | (refine wpList_loadO rfl 26 (.tmp 1) rfl w.heap.size _ 26 rfl hA3 (by kernel_rfl) ?_) | ((refine wpList_storeAgg rfl 26 (.tmp 2) (.tmp 7) rfl (w.heap.size + 1) _ rfl rfl 26 _ hZ3 hi.out rfl ho.out ?_); rintro w3 rfl) | fail)
 refine bodyPost_ret (results_cell (fn := Tryz.f65) Tryz.results65 rfl (setRow_hasO (cells := (posCs F R (some ⟨q, 0, none⟩) xs.length cap bl ca pa ha fu).toArray) hZ3) (by kernel_rfl)) rfl ⟨q, cap, rfl, setRow_below hB3 (by omega) hB3.size, hqw, hO3.farR hqz _⟩
theorem arr_at {W : World} {p : Option Addr} {xs : List Int} {j : Nat} (h : Arr .i8 W p xs) (hj : j < xs.length) : ∃ g o, p = some ⟨g, o, none⟩ ∧ W.cell? ⟨g, o + j, none⟩ = some (.int .i8 (xs[j]?.getD 0)) := by
 obtain ⟨g, o, e, _, hc⟩ := h.at hj
 exact ⟨g, o, e, hc j hj⟩
theorem eqTo_s {xs ys : List Int} {i : Nat} (hx : i < xs.length) (hy : i < ys.length) : (xs.take (i + 1) = ys.take (i + 1)) ↔ (xs.take i = ys.take i ∧ xs[i]?.getD 0 = ys[i]?.getD 0) := by
 rw [List.take_succ_eq_append_getElem hx, List.take_succ_eq_append_getElem hy]
 simp only [List.getElem?_eq_getElem hx, List.getElem?_eq_getElem hy, Option.getD_some]
 constructor
 ·intro h
  have h2 := List.append_inj h (by simp; omega)
  exact ⟨h2.1, by simpa using h2.2⟩
 ·rintro ⟨h1, h2⟩
  rw [h1, h2]
set_option maxRecDepth 100000 in
theorem slEqual_any (p1 p2 : Option Addr) (c1 c2 : Nat) (xs ys : List Int) (w : World) (hx : Arr .i8 w p1 xs) (hy : Arr .i8 w p2 ys) (hl : xs.length ≤ 1000) (hl2 : ys.length ≤ 1000) :
  Calls Tryz.prog 192 #[.slice p1 xs.length c1, .slice p2 ys.length c2] w fun e w' => e = .returned (.bool (decide (xs = ys))) ∧ RowKit.Below w.heap.size w w' := by
 by_cases hn : xs.length = ys.length
 rotate_left
 ·have hne : (((xs.length : Nat) : Int) != ys.length) = true := by simp; omega
  have hV : Hid (decide (xs = ys) = false) := Lib.hid (by simp; intro h; exact hn (by rw [h]))
  go_enter Tryz.func192, Tryz.ntmps192
  go_wp2_with fail
  go_ret
  exact ⟨by rw [hV.out]; rfl, Below.refl _ _⟩
 ·rw [← hn]
  replace hn := Lib.hid hn
  go_enter Tryz.func192, Tryz.ntmps192
  go_wp2_with fail
  go_loopg [13] 1001 (fun q iv wr => ∃ i : Nat, q + i = 1001 ∧ i ≤ xs.length ∧ iv = .int .i64 i ∧ Hid (xs.take i = ys.take i) ∧ RowKit.Below w.heap.size w wr)
  case atStart => exact ⟨0, rfl, Nat.zero_le _, rfl, Lib.hid rfl, Below.refl _ _⟩
  case round =>
   obtain ⟨i, hq, hi, rfl, ht, hbr⟩ := hrel
   by_cases hlt : i < xs.length
   ·have hii : (i : Int) < xs.length := by omega
    obtain ⟨g1, o1, rfl, h1⟩ := arr_at (hx.call hbr) hlt
    obtain ⟨g2, o2, rfl, h2⟩ := arr_at (hy.call hbr) (by rw [← hn.out]; exact hlt)
    have hnx := eqTo_s (xs := xs) (ys := ys) hlt (by rw [← hn.out]; exact hlt)
    have hne2 : xs[i]?.getD 0 ≠ ys[i]?.getD 0 → Hid (decide (xs = ys) = false) := fun h => Lib.hid (by simp; rintro rfl; exact h rfl)
    generalize xs[i]?.getD 0 = x at *
    generalize ys[i]?.getD 0 = y at *
    have m1 := cell_regrown h1
    have m2 := cell_regrown h2
    rcases z : (x != y) with _ | _
    ·have ht2 : Hid (xs.take (i + 1) = ys.take (i + 1)) := Lib.hid (hnx.2 ⟨ht.out, by simpa using z⟩)
     clear hnx hne2
     go_wp2_with fail
     refine wp_region_all (by kernel_rfl) (by kernel_rfl) ?_
     repeat (go_big_quiet_step (fail))
     refine wpQuiet_nil ?_
     intro w5 hb5
     clear m1 m2
     go_wp2_with fail
     go_roundg (gk - 1)
     case measure => omega
     case rel => exact ⟨i + 1, by omega, by omega, by go_num, ht2, below_call hbr hbr.size hb5⟩
    ·have hV := hne2 (by simpa using z)
     clear hnx hne2
     go_wp2_with fail
     refine wp_region_all (by kernel_rfl) (by kernel_rfl) ?_
     repeat (go_big_quiet_step (fail))
     refine wpQuiet_nil ?_
     intro w5 hb5
     clear m1 m2
     go_wp2_with fail
     go_ret
     exact ⟨by rw [hV.out]; rfl, below_call hbr hbr.size hb5⟩
   ·obtain rfl : i = xs.length := by omega
    have hV : Hid (decide (xs = ys) = true) := Lib.hid (by have h1 := ht.out; rw [List.take_length, hn.out, List.take_length] at h1; simpa using h1)
    go_wp2_with fail
    go_ret
    exact ⟨by rw [hV.out]; rfl, hbr⟩
theorem size_eql (F R : Int) (w : World) : (binOp .eql 23 (.agg #[.int .i64 F, .int .i64 R]) (.agg #[.int .i64 F, .int .i64 R])).run Tryz.prog w = .ok (.bool true) w := by
 simp [go_sem]
def posE (xs ys : List Int) (b1 b2 : Bool) (c1 c2 p1 p2 : Int) : Bool := decide (xs = ys) && ((b1 == b2) && ((c1 == c2) && (p1 == p2)))
set_option maxRecDepth 100000 in
theorem posSame_any (F R : Int) (x1 x2 : Option Addr) (c1 c2 : Nat) (xs ys : List Int) (b1 b2 : Bool) (ca1 ca2 pa1 pa2 ha1 ha2 fu1 fu2 : Int) (w : World) (hx : Arr .i8 w x1 xs) (hy : Arr .i8 w x2 ys) (hl : xs.length ≤ 1000) (hl2 : ys.length ≤ 1000) :
  Calls Tryz.prog 162 #[.agg (posCs F R x1 xs.length c1 b1 ca1 pa1 ha1 fu1).toArray, .agg (posCs F R x2 ys.length c2 b2 ca2 pa2 ha2 fu2).toArray] w fun e w' => e = .returned (.bool (posE xs ys b1 b2 ca1 ca2 pa1 pa2)) ∧ RowKit.Below w.heap.size w w' := by
 have hA := (HasO.new w (.cells (posCs F R x1 xs.length c1 b1 ca1 pa1 ha1 fu1).toArray 26)).alloc (.cells (posCs F R x2 ys.length c2 b2 ca2 pa2 ha2 fu2).toArray 26)
 have hD := HasO.new' (w.alloc (.cells (posCs F R x1 xs.length c1 b1 ca1 pa1 ha1 fu1).toArray 26)) (.cells (posCs F R x2 ys.length c2 b2 ca2 pa2 ha2 fu2).toArray 26) (q := w.heap.size + 1) (by simp)
 have hB := (below_box w (.cells (posCs F R x1 xs.length c1 b1 ca1 pa1 ha1 fu1).toArray 26)).alloc (by simp) (.cells (posCs F R x2 ys.length c2 b2 ca2 pa2 ha2 fu2).toArray 26)
 have hse := slEqual_any x1 x2 c1 c2 xs ys _ (hx.call hB) (hy.call hB) hl hl2
 have hV : posE xs ys b1 b2 ca1 ca2 pa1 pa2 = (decide (xs = ys) && ((b1 == b2) && ((ca1 == ca2) && (pa1 == pa2)))) := rfl
 generalize posE xs ys b1 b2 ca1 ca2 pa1 pa2 = V at *
 generalize decide (xs = ys) = D at *
 have hsz := fun w => size_eql F R w
 have h1 := hA.cells
 have h2 := hD.cells
 have l1 := hA.lt
 have l2 := hD.lt
 replace hV := Lib.hid hV
 go_enter Tryz.func162, Tryz.ntmps162
 go_wp2_with fail
 refine hse.mono ?_
 rintro e w2 ⟨rfl, hb2⟩
 have hA2 := hA.call hb2
 have hD2 := hD.call hb2
 have hB2 := below_call hB hB.size hb2
 clear h1 h2 l1 l2 hA hD hB hb2 hse
 have h1 := hA2.cells
 have h2 := hD2.cells
 have l1 := hA2.lt
 have l2 := hD2.lt
 cases D
 ·go_wp2_with fail
  go_ret
  exact ⟨by rw [hV.out]; rfl, hB2⟩
 ·rcases z1 : (b1 == b2) with _ | _
  ·go_wp2_with fail
   go_ret
   exact ⟨by rw [hV.out, z1]; rfl, hB2⟩
  ·rcases z2 : (ca1 == ca2) with _ | _
   ·go_wp2_with fail
    go_ret
    exact ⟨by rw [hV.out, z1, z2]; rfl, hB2⟩
   ·go_wp2_with fail
    go_ret
    exact ⟨by rw [hV.out, z1, z2]; rfl, hB2⟩
set_option maxRecDepth 100000 in
theorem posEqual_any (F R : Int) (x1 x2 : Option Addr) (c1 c2 : Nat) (xs ys : List Int) (b1 b2 : Bool) (ca1 ca2 pa1 pa2 ha1 ha2 fu1 fu2 : Int) (w : World) (hx : Arr .i8 w x1 xs) (hy : Arr .i8 w x2 ys) (hl : xs.length ≤ 1000) (hl2 : ys.length ≤ 1000) :
  Calls Tryz.prog 111 #[.agg (posCs F R x1 xs.length c1 b1 ca1 pa1 ha1 fu1).toArray, .agg (posCs F R x2 ys.length c2 b2 ca2 pa2 ha2 fu2).toArray] w fun e w' => e = .returned (.bool (posE xs ys b1 b2 ca1 ca2 pa1 pa2 && ((ha1 == ha2) && (fu1 == fu2)))) ∧ RowKit.Below w.heap.size w w' := by
 have hA := (HasO.new w (.cells (posCs F R x1 xs.length c1 b1 ca1 pa1 ha1 fu1).toArray 26)).alloc (.cells (posCs F R x2 ys.length c2 b2 ca2 pa2 ha2 fu2).toArray 26)
 have hD := HasO.new' (w.alloc (.cells (posCs F R x1 xs.length c1 b1 ca1 pa1 ha1 fu1).toArray 26)) (.cells (posCs F R x2 ys.length c2 b2 ca2 pa2 ha2 fu2).toArray 26) (q := w.heap.size + 1) (by simp)
 have hB := (below_box w (.cells (posCs F R x1 xs.length c1 b1 ca1 pa1 ha1 fu1).toArray 26)).alloc (by simp) (.cells (posCs F R x2 ys.length c2 b2 ca2 pa2 ha2 fu2).toArray 26)
 have hse := posSame_any F R x1 x2 c1 c2 xs ys b1 b2 ca1 ca2 pa1 pa2 ha1 ha2 fu1 fu2 _ (hx.call hB) (hy.call hB) hl hl2
 generalize posE xs ys b1 b2 ca1 ca2 pa1 pa2 = D at *
 have h1 := hA.cells
 have h2 := hD.cells
 have l1 := hA.lt
 have l2 := hD.lt
 go_enter Tryz.func111, Tryz.ntmps111
 go_wp2_with fail
 refine hse.mono ?_
 rintro e w2 ⟨rfl, hb2⟩
 have hA2 := hA.call hb2
 have hD2 := hD.call hb2
 have hB2 := below_call hB hB.size hb2
 clear h1 h2 l1 l2 hA hD hB hb2 hse
 have h1 := hA2.cells
 have h2 := hD2.cells
 have l1 := hA2.lt
 have l2 := hD2.lt
 cases D
 ·go_wp2_with fail
  go_ret
  exact ⟨rfl, hB2⟩
 ·rcases z1 : (ha1 == ha2) with _ | _
  ·go_wp2_with fail
   go_ret
   exact ⟨ret_bool (by rw [z1]; rfl), hB2⟩
  ·go_wp2_with fail
   go_ret
   exact ⟨ret_bool (by rw [z1]; rfl), hB2⟩
set_option maxRecDepth 100000 in
theorem mvValid_any (F R : Int) (m : Mv) (w : World) :
  Calls Tryz.prog 54 #[.agg #[.int .i64 F, .int .i64 R], .agg m.cs.toArray] w fun e w' => e = .returned (.bool (mvB F R m)) ∧ RowKit.Below w.heap.size w w' := by
 have hA := (HasO.new w (.cells #[.int .i64 F, .int .i64 R] 23)).alloc (.cells m.cs.toArray 40)
 have hD := HasO.new' (w.alloc (.cells #[.int .i64 F, .int .i64 R] 23)) (.cells m.cs.toArray 40) (q := w.heap.size + 1) (by simp)
 have hB := (below_box w (.cells #[.int .i64 F, .int .i64 R] 23)).alloc (by simp) (.cells m.cs.toArray 40)
 have hsv := fun a W => sqValid_any F R a W
 have hV : mvB F R m = (sqB F R m.fr && (sqB F R m.tg && ((m.fr != m.tg) && ((m.pr == 0) || (decide (2 ≤ m.pr) && decide (m.pr ≤ 5)))))) := by
  unfold mvB
  have e1 : decide (m.fr ≠ m.tg) = (m.fr != m.tg) := by by_cases h : m.fr = m.tg <;> simp [h]
  rw [e1]; rfl
 generalize mvB F R m = V at *
 have h1 := hA.cells
 have h2 := hD.cells
 have l1 := hA.lt
 have l2 := hD.lt
 go_enter Tryz.func54, Tryz.ntmps54
 go_wp2_with fail
 refine (hsv _ _).mono ?_
 rintro e w2 ⟨rfl, hb2⟩
 have hA2 := hA.call hb2
 have hD2 := hD.call hb2
 have hB2 := below_call hB hB.size hb2
 clear h1 h2 l1 l2 hA hD hB hb2
 have h1 := hA2.cells
 have h2 := hD2.cells
 have l1 := hA2.lt
 have l2 := hD2.lt
 rcases z1 : sqB F R m.fr with _ | _
 ·have hV : Hid (V = false) := Lib.hid (by rw [hV, z1]; rfl)
  go_wp2_with fail
  go_ret
  exact ⟨by rw [hV.out]; rfl, hB2⟩
 ·rw [z1, Bool.true_and] at hV
  replace hV := Lib.hid hV
  go_wp2_with fail
  refine (hsv _ _).mono ?_
  rintro e w3 ⟨rfl, hb3⟩
  have hD3 := hD2.call hb3
  have hB3 := below_call hB2 hB2.size hb3
  clear h1 h2 l1 l2 hA2 hD2 hB2 hb3
  have h2 := hD3.cells
  have l2 := hD3.lt
  rcases z2 : sqB F R m.tg with _ | _
  ·go_wp2_with fail
   go_ret
   exact ⟨by rw [hV.out, z2]; rfl, hB3⟩
  ·rcases z3 : (m.fr != m.tg) with _ | _
   ·go_wp2_with fail
    go_ret
    exact ⟨by rw [hV.out, z2, z3]; rfl, hB3⟩
   ·rcases z4 : (m.pr == 0) with _ | _
    ·rcases z5 : decide (2 ≤ m.pr) with _ | _
     ·go_wp2_with fail
      go_ret
      exact ⟨by rw [hV.out, z2, z3, z4, z5]; rfl, hB3⟩
     ·go_wp2_with fail
      go_ret
      exact ⟨ret_bool (by rw [hV.out, z2, z3, z4, z5]; rfl), hB3⟩
    ·go_wp2_with fail
     go_ret
     exact ⟨by rw [hV.out, z2, z3, z4]; rfl, hB3⟩
theorem size_neqS (F R : Int) (w : World) : (binOp .neq 23 (.agg #[.int .i64 F, .int .i64 R]) (.agg #[.int .i64 F, .int .i64 R])).run Tryz.prog w = .ok (.bool false) w := by
 simp [go_sem]
set_option maxRecDepth 100000 in
theorem refSame3_any (f r : Int) (p1 p2 : Option Addr) (c1 c2 : Nat) (xs ys : List Int) (hn : ys.length = xs.length) (hn2 : xs.length ≤ 900) (w : World) (h1 : Arr .i8 w p1 xs) (h2 : Arr .i8 w p2 ys) :
  Calls Tryz.prog 69 #[.agg (bdCs f r p1 xs.length c1).toArray, .agg (bdCs f r p2 ys.length c2).toArray] w fun e w' => e = .returned (.bool (decide (xs = ys))) ∧ Below w.heap.size w w' := by
 rw [hn]
 have hA := (HasO.new w (.cells (bdCs f r p1 xs.length c1).toArray 68)).alloc (.cells (bdCs f r p2 xs.length c2).toArray 68)
 have hD := HasO.new' (w.alloc (.cells (bdCs f r p1 xs.length c1).toArray 68)) (.cells (bdCs f r p2 xs.length c2).toArray 68) (q := w.heap.size + 1) (by simp)
 have hB := (below_box w (.cells (bdCs f r p1 xs.length c1).toArray 68)).alloc (by simp) (.cells (bdCs f r p2 xs.length c2).toArray 68)
 have hsz := size_neqS f r
 replace h1 := h1.call hB
 replace h2 := h2.call hB
 replace hn := Lib.hid hn
 go_enter Tryz.func69, Tryz.ntmps69
 go_upto_region 1 with fail
 show Code.wp _ _ _ _ ((w.alloc (.cells (bdCs f r p1 xs.length c1).toArray 68)).alloc (.cells (bdCs f r p2 xs.length c2).toArray 68))
 generalize (w.alloc (.cells (bdCs f r p1 xs.length c1).toArray 68)).alloc (.cells (bdCs f r p2 xs.length c2).toArray 68) = w1 at *
 obtain ⟨q, hq⟩ : ∃ q, q = w.heap.size := ⟨_, rfl⟩
 rw [← hq] at hA hD ⊢
 replace hq := Lib.hid hq
 have hcA := hA.cells
 have hcD := hD.cells
 have hlA := hA.lt
 have hlD := hD.lt
 go_wp2_with fail
 go_loopg [5] 1000 (fun g kv wr => ∃ j : Nat, ∃ wz, wz = wr ∧ g + j = 1000 ∧ j ≤ xs.length ∧ kv = .int .i64 ((j : Nat) : Int) ∧ Hid (xs.take j = ys.take j) ∧ Below w1.heap.size w1 wr)
 case atStart => exact ⟨0, _, rfl, rfl, by omega, rfl, Lib.hid rfl, Below.refl _ _⟩
 case round =>
  clear hcA hcD hlA hlD
  obtain ⟨j, w2, rfl, hg, hj, rfl, ht, hB2⟩ := hrel
  replace hA := hA.call hB2
  replace hD := hD.call hB2
  by_cases hlt : j < xs.length
  ·have hii : (j : Int) < xs.length := by omega
   have hcA := hA.cells
   have hlA := hA.lt
   obtain ⟨b1, o1, rfl, h1⟩ := arr_at (h1.call hB2) hlt
   obtain ⟨b2, o2, rfl, h2⟩ := arr_at (h2.call hB2) (j := j) (by rw [hn.out]; exact hlt)
   have hnx := eqTo_s (xs := xs) (ys := ys) hlt (by rw [hn.out]; exact hlt)
   have hne2 : xs[j]?.getD 0 ≠ ys[j]?.getD 0 → Hid (decide (xs = ys) = false) := fun h => Lib.hid (by simp; rintro rfl; exact h rfl)
   generalize xs[j]?.getD 0 = x at *
   generalize ys[j]?.getD 0 = y at *
   have m1 := cell_regrown h1
   have m2 := cell_regrown h2
   have m3 := row_gr hA
   have m4 := row_gr hD
   rcases z : (x != y) with _ | _
   ·have ht2 : Hid (xs.take (j + 1) = ys.take (j + 1)) := Lib.hid (hnx.2 ⟨ht.out, by simpa using z⟩)
    clear hnx hne2
    go_wp2_with fail
    refine wp_region_all (by kernel_rfl) (by kernel_rfl) ?_
    repeat (go_big_quiet_step (fail))
    refine wpQuiet_nil ?_
    intro w5 hb5
    clear m1 m2 m3 m4
    go_wp2_with fail
    go_roundg (gk - 1)
    case measure => omega
    case rel => exact ⟨j + 1, _, rfl, by omega, by omega, by go_num, ht2, below_call hB2 hB2.size hb5⟩
   ·have hV := hne2 (by simpa using z)
    clear hnx hne2
    go_wp2_with fail
    refine wp_region_all (by kernel_rfl) (by kernel_rfl) ?_
    repeat (go_big_quiet_step (fail))
    refine wpQuiet_nil ?_
    intro w5 hb5
    clear m1 m2 m3 m4
    go_wp2_with fail
    go_ret
    exact ⟨by rw [hV.out]; rfl, below_call hB hB.size (below_call hB2 hB2.size hb5)⟩
  ·obtain rfl : j = xs.length := by omega
   have hV : Hid (decide (xs = ys) = true) := Lib.hid (by have h1 := ht.out; rw [List.take_length, ← hn.out, List.take_length] at h1; simpa using h1)
   have hcA := hA.cells
   have hlA := hA.lt
   go_wp2_with fail
   go_ret
   exact ⟨by rw [hV.out]; rfl, below_call hB hB.size hB2⟩
set_option maxRecDepth 100000 in
theorem refSame6_any (F R : Int) (x1 x2 : Option Addr) (c1 c2 : Nat) (xs ys : List Int) (b1 b2 : Bool) (ca1 ca2 pa1 pa2 ha1 ha2 fu1 fu2 : Int) (hn : ys.length = xs.length) (hn2 : xs.length ≤ 900) (w : World) (hx : Arr .i8 w x1 xs) (hy : Arr .i8 w x2 ys) :
  Calls Tryz.prog 24 #[.agg (posCs F R x1 xs.length c1 b1 ca1 pa1 ha1 fu1).toArray, .agg (posCs F R x2 ys.length c2 b2 ca2 pa2 ha2 fu2).toArray] w fun e w' => e = .returned (.bool (posE xs ys b1 b2 ca1 ca2 pa1 pa2)) ∧ RowKit.Below w.heap.size w w' := by
 obtain ⟨W1, hW1⟩ : ∃ W1, W1 = (w.alloc (.cells (posCs F R x1 xs.length c1 b1 ca1 pa1 ha1 fu1).toArray 26)).alloc (.cells (posCs F R x2 ys.length c2 b2 ca2 pa2 ha2 fu2).toArray 26) := ⟨_, rfl⟩
 have hB : RowKit.Below w.heap.size w W1 := by
  subst hW1
  exact (below_box w _).alloc (by simp) _
 have hA : HasO W1 w.heap.size (.cells (posCs F R x1 xs.length c1 b1 ca1 pa1 ha1 fu1).toArray 26 (0, 0)) := by
  subst hW1
  exact (HasO.new w _).alloc _
 have hC : HasO W1 (w.heap.size + 1) (.cells (posCs F R x2 ys.length c2 b2 ca2 pa2 ha2 fu2).toArray 26 (0, 0)) := by
  subst hW1
  exact HasO.new' _ _ (by simp)
 have t1 := call_gr (w := W1) (fun W _ => (show Calls Tryz.prog 35 #[.agg #[.int .i64 F, .int .i64 R, .slice x1 xs.length c1, .bool b1, .int .u8 ca1, .int .i64 pa1, .int .i64 ha1, .int .i64 fu1]] W fun e w' => e = .returned (.agg (bdCs F R x1 xs.length c1).toArray) ∧ RowKit.Below W.heap.size W w' from refOf_any F R ca1 pa1 ha1 fu1 b1 x1 xs.length c1 W))
 have t2 := call_gr (w := W1) (fun W _ => (show Calls Tryz.prog 35 #[.agg #[.int .i64 F, .int .i64 R, .slice x2 ys.length c2, .bool b2, .int .u8 ca2, .int .i64 pa2, .int .i64 ha2, .int .i64 fu2]] W fun e w' => e = .returned (.agg (bdCs F R x2 ys.length c2).toArray) ∧ RowKit.Below W.heap.size W w' from refOf_any F R ca2 pa2 ha2 fu2 b2 x2 ys.length c2 W))
 have t3 := call_gr (w := W1) (fun W h => (show Calls Tryz.prog 69 #[.agg #[.int .i64 F, .int .i64 R, .slice x1 xs.length c1], .agg #[.int .i64 F, .int .i64 R, .slice x2 ys.length c2]] W fun e w' => e = .returned (.bool (decide (xs = ys))) ∧ RowKit.Below W.heap.size W w' from refSame3_any F R x1 x2 c1 c2 xs ys hn hn2 W ((hx.call hB).call h) ((hy.call hB).call h)))
 have m1 : ∀ d os j, (grow (redrawn W1 d) os).cell? ⟨w.heap.size, j, none⟩ = (#[.int .i64 F, .int .i64 R, .slice x1 xs.length c1, .bool b1, .int .u8 ca1, .int .i64 pa1, .int .i64 ha1, .int .i64 fu1] : Array Value)[j]? := row_gr hA
 have m2 : ∀ d os j, (grow (redrawn W1 d) os).cell? ⟨w.heap.size + 1, j, none⟩ = (#[.int .i64 F, .int .i64 R, .slice x2 ys.length c2, .bool b2, .int .u8 ca2, .int .i64 pa2, .int .i64 ha2, .int .i64 fu2] : Array Value)[j]? := row_gr hC
 have hV : posE xs ys b1 b2 ca1 ca2 pa1 pa2 = (decide (xs = ys) && ((b1 == b2) && ((ca1 == ca2) && (pa1 == pa2)))) := rfl
 generalize posE xs ys b1 b2 ca1 ca2 pa1 pa2 = V at *
 generalize decide (xs = ys) = D at *
 replace hV := Lib.hid hV
 replace hW1 := Lib.hid hW1
 replace hn := Lib.hid hn
 go_enter Tryz.func24, Tryz.ntmps24
 go_upto_region 1 with fail
 change Code.wp Tryz.prog _ _ _ ((w.alloc (.cells (posCs F R x1 xs.length c1 b1 ca1 pa1 ha1 fu1).toArray 26)).alloc (.cells (posCs F R x2 ys.length c2 b2 ca2 pa2 ha2 fu2).toArray 26))
 rw [← hW1.out]
 cases D
 ·refine wp_region_all (by kernel_rfl) (by kernel_rfl) ?_
  repeat (go_big_quiet_step (first | with_reducible exact t1 _ _ | with_reducible exact t2 _ _ | with_reducible exact t3 _ _ | fail))
  refine wpQuiet_nil ?_
  intro w2 hb2
  go_wp2_with fail
  go_ret
  exact ⟨by rw [hV.out]; rfl, below_call hB hB.size hb2⟩
 ·rcases z1 : (b1 == b2) with _ | _
  ·refine wp_region_all (by kernel_rfl) (by kernel_rfl) ?_
   repeat (go_big_quiet_step (first | with_reducible exact t1 _ _ | with_reducible exact t2 _ _ | with_reducible exact t3 _ _ | fail))
   refine wpQuiet_nil ?_
   intro w2 hb2
   go_wp2_with fail
   go_ret
   exact ⟨by rw [hV.out, z1]; rfl, below_call hB hB.size hb2⟩
  ·rcases z2 : (ca1 == ca2) with _ | _
   ·refine wp_region_all (by kernel_rfl) (by kernel_rfl) ?_
    repeat (go_big_quiet_step (first | with_reducible exact t1 _ _ | with_reducible exact t2 _ _ | with_reducible exact t3 _ _ | fail))
    refine wpQuiet_nil ?_
    intro w2 hb2
    go_wp2_with fail
    go_ret
    exact ⟨by rw [hV.out, z1, z2]; rfl, below_call hB hB.size hb2⟩
   ·rcases z3 : (pa1 == pa2) with _ | _
    ·refine wp_region_all (by kernel_rfl) (by kernel_rfl) ?_
     repeat (go_big_quiet_step (first | with_reducible exact t1 _ _ | with_reducible exact t2 _ _ | with_reducible exact t3 _ _ | fail))
     refine wpQuiet_nil ?_
     intro w2 hb2
     go_wp2_with fail
     go_ret
     exact ⟨by rw [hV.out, z1, z2, z3]; rfl, below_call hB hB.size hb2⟩
    ·refine wp_region_all (by kernel_rfl) (by kernel_rfl) ?_
     repeat (go_big_quiet_step (first | with_reducible exact t1 _ _ | with_reducible exact t2 _ _ | with_reducible exact t3 _ _ | fail))
     refine wpQuiet_nil ?_
     intro w2 hb2
     go_wp2_with fail
     go_ret
     exact ⟨by rw [hV.out, z1, z2, z3]; rfl, below_call hB hB.size hb2⟩
set_option maxRecDepth 100000 in
theorem refEqualG_any (F R : Int) (x1 x2 : Option Addr) (c1 c2 : Nat) (xs ys : List Int) (b1 b2 : Bool) (ca1 ca2 pa1 pa2 ha1 ha2 fu1 fu2 : Int) (hn : ys.length = xs.length) (hn2 : xs.length ≤ 900) (w : World) (hx : Arr .i8 w x1 xs) (hy : Arr .i8 w x2 ys) :
  Calls Tryz.prog 12 #[.agg (posCs F R x1 xs.length c1 b1 ca1 pa1 ha1 fu1).toArray, .agg (posCs F R x2 ys.length c2 b2 ca2 pa2 ha2 fu2).toArray] w fun e w' => e = .returned (.bool (posE xs ys b1 b2 ca1 ca2 pa1 pa2 && ((ha1 == ha2) && (fu1 == fu2)))) ∧ RowKit.Below w.heap.size w w' := by
 have hA := (HasO.new w (.cells (posCs F R x1 xs.length c1 b1 ca1 pa1 ha1 fu1).toArray 26)).alloc (.cells (posCs F R x2 ys.length c2 b2 ca2 pa2 ha2 fu2).toArray 26)
 have hD := HasO.new' (w.alloc (.cells (posCs F R x1 xs.length c1 b1 ca1 pa1 ha1 fu1).toArray 26)) (.cells (posCs F R x2 ys.length c2 b2 ca2 pa2 ha2 fu2).toArray 26) (q := w.heap.size + 1) (by simp)
 have hB := (below_box w (.cells (posCs F R x1 xs.length c1 b1 ca1 pa1 ha1 fu1).toArray 26)).alloc (by simp) (.cells (posCs F R x2 ys.length c2 b2 ca2 pa2 ha2 fu2).toArray 26)
 have hse := refSame6_any F R x1 x2 c1 c2 xs ys b1 b2 ca1 ca2 pa1 pa2 ha1 ha2 fu1 fu2 hn hn2 _ (hx.call hB) (hy.call hB)
 generalize posE xs ys b1 b2 ca1 ca2 pa1 pa2 = D at *
 replace hn := Lib.hid hn
 have h1 := hA.cells
 have h2 := hD.cells
 have l1 := hA.lt
 have l2 := hD.lt
 go_enter Tryz.func12, Tryz.ntmps12
 go_wp2_with fail
 refine hse.mono ?_
 rintro e w2 ⟨rfl, hb2⟩
 have hA2 := hA.call hb2
 have hD2 := hD.call hb2
 have hB2 := below_call hB hB.size hb2
 clear h1 h2 l1 l2 hA hD hB hb2 hse
 have h1 := hA2.cells
 have h2 := hD2.cells
 have l1 := hA2.lt
 have l2 := hD2.lt
 cases D
 ·go_wp2_with fail
  go_ret
  exact ⟨rfl, hB2⟩
 ·rcases z1 : (ha1 == ha2) with _ | _
  ·go_wp2_with fail
   go_ret
   exact ⟨ret_bool (by rw [z1]; rfl), hB2⟩
  ·go_wp2_with fail
   go_ret
   exact ⟨ret_bool (by rw [z1]; rfl), hB2⟩
end Go.Proofs.YtefmplccbkmalaaGreatDoor
