import Derived.Test.YtefmplccbkmalaaGreatDoorF23
import Derived.Test.YtefmplccbkmalaaGreatDoorF39
set_option maxHeartbeats 12800000
namespace Go.Proofs.YtefmplccbkmalaaGreatDoor
open Go.RowKit Go.Sort Go.BigFrame

theorem size_neqS (F R : Int) (w : World) : (binOp .neq 23 (.agg #[.int .i64 F, .int .i64 R]) (.agg #[.int .i64 F, .int .i64 R])).run Tryz.prog w = .ok (.bool false) w := by
 simp [go_sem]
set_option maxRecDepth 100000 in
theorem refSame3_any (f r : Int) (p1 p2 : Option Addr) (c1 c2 : Nat) (xs ys : List Int) (hn : ys.length = xs.length) (hn2 : xs.length ≤ 900) (w : World) (h1 : Arr .i8 w p1 xs) (h2 : Arr .i8 w p2 ys) :
  Calls Tryz.prog 69 #[.agg (bdCs f r p1 xs.length c1).toArray, .agg (bdCs f r p2 ys.length c2).toArray] w fun e w' => e = .returned (.bool (decide (xs = ys))) ∧ Below w.heap.size w w' := by
 rw [hn]
 have hA := (HasO.new w (.cells (bdCs f r p1 xs.length c1).toArray 68)).alloc (.cells (bdCs f r p2 xs.length c2).toArray 68)
 have hD := HasO.new' (w.alloc (.cells (bdCs f r p1 xs.length c1).toArray 68)) (.cells (bdCs f r p2 xs.length c2).toArray 68) (q := w.heap.size + 1) (by simp)
 have hB := (below_box w (.cells (bdCs f r p1 xs.length c1).toArray 68)).alloc (by simp) (.cells (bdCs f r p2 xs.length c2).toArray 68)
 have hsz := size_neqS f r
 replace h1 := h1.call hB
 replace h2 := h2.call hB
 replace hn := Lib.hid hn
 go_enter Tryz.func69, Tryz.ntmps69
 go_upto_region 1 with fail
 show Code.wp _ _ _ _ ((w.alloc (.cells (bdCs f r p1 xs.length c1).toArray 68)).alloc (.cells (bdCs f r p2 xs.length c2).toArray 68))
 generalize (w.alloc (.cells (bdCs f r p1 xs.length c1).toArray 68)).alloc (.cells (bdCs f r p2 xs.length c2).toArray 68) = w1 at *
 obtain ⟨q, hq⟩ : ∃ q, q = w.heap.size := ⟨_, rfl⟩
 rw [← hq] at hA hD ⊢
 replace hq := Lib.hid hq
 have hcA := hA.cells
 have hcD := hD.cells
 have hlA := hA.lt
 have hlD := hD.lt
 go_wp2_with fail
 go_loopg [5] 1000 (fun g kv wr => ∃ j : Nat, ∃ wz, wz = wr ∧ g + j = 1000 ∧ j ≤ xs.length ∧ kv = .int .i64 ((j : Nat) : Int) ∧ Hid (xs.take j = ys.take j) ∧ Below w1.heap.size w1 wr)
 case atStart => exact ⟨0, _, rfl, rfl, by omega, rfl, Lib.hid rfl, Below.refl _ _⟩
 case round =>
  clear hcA hcD hlA hlD
  obtain ⟨j, w2, rfl, hg, hj, rfl, ht, hB2⟩ := hrel
  replace hA := hA.call hB2
  replace hD := hD.call hB2
  by_cases hlt : j < xs.length
  ·have hii : (j : Int) < xs.length := by omega
   have hcA := hA.cells
   have hlA := hA.lt
   obtain ⟨b1, o1, rfl, h1⟩ := arr_at (h1.call hB2) hlt
   obtain ⟨b2, o2, rfl, h2⟩ := arr_at (h2.call hB2) (j := j) (by rw [hn.out]; exact hlt)
   have hnx := eqTo_s (xs := xs) (ys := ys) hlt (by rw [hn.out]; exact hlt)
   have hne2 : xs[j]?.getD 0 ≠ ys[j]?.getD 0 → Hid (decide (xs = ys) = false) := fun h => Lib.hid (by simp; rintro rfl; exact h rfl)
   generalize xs[j]?.getD 0 = x at *
   generalize ys[j]?.getD 0 = y at *
   have m1 := cell_regrown h1
   have m2 := cell_regrown h2
   have m3 := row_gr hA
   have m4 := row_gr hD
   rcases z : (x != y) with _ | _
   ·have ht2 : Hid (xs.take (j + 1) = ys.take (j + 1)) := Lib.hid (hnx.2 ⟨ht.out, by simpa using z⟩)
    clear hnx hne2
    go_wp2_with fail
    refine wp_region_all (by kernel_rfl) (by kernel_rfl) ?_
    repeat (go_big_quiet_step (fail))
    refine wpQuiet_nil ?_
    intro w5 hb5
    clear m1 m2 m3 m4
    go_wp2_with fail
    go_roundg (gk - 1)
    case measure => omega
    case rel => exact ⟨j + 1, _, rfl, by omega, by omega, by go_num, ht2, below_call hB2 hB2.size hb5⟩
   ·have hV := hne2 (by simpa using z)
    clear hnx hne2
    go_wp2_with fail
    refine wp_region_all (by kernel_rfl) (by kernel_rfl) ?_
    repeat (go_big_quiet_step (fail))
    refine wpQuiet_nil ?_
    intro w5 hb5
    clear m1 m2 m3 m4
    go_wp2_with fail
    go_ret
    exact ⟨by rw [hV.out]; rfl, below_call hB hB.size (below_call hB2 hB2.size hb5)⟩
  ·obtain rfl : j = xs.length := by omega
   have hV : Hid (decide (xs = ys) = true) := Lib.hid (by have h1 := ht.out; rw [List.take_length, ← hn.out, List.take_length] at h1; simpa using h1)
   have hcA := hA.cells
   have hlA := hA.lt
   go_wp2_with fail
   go_ret
   exact ⟨by rw [hV.out]; rfl, below_call hB hB.size hB2⟩
set_option maxRecDepth 100000 in
theorem refSame6_any (F R : Int) (x1 x2 : Option Addr) (c1 c2 : Nat) (xs ys : List Int) (b1 b2 : Bool) (ca1 ca2 pa1 pa2 ha1 ha2 fu1 fu2 : Int) (hn : ys.length = xs.length) (hn2 : xs.length ≤ 900) (w : World) (hx : Arr .i8 w x1 xs) (hy : Arr .i8 w x2 ys) :
  Calls Tryz.prog 24 #[.agg (posCs F R x1 xs.length c1 b1 ca1 pa1 ha1 fu1).toArray, .agg (posCs F R x2 ys.length c2 b2 ca2 pa2 ha2 fu2).toArray] w fun e w' => e = .returned (.bool (posE xs ys b1 b2 ca1 ca2 pa1 pa2)) ∧ RowKit.Below w.heap.size w w' := by
 obtain ⟨W1, hW1⟩ : ∃ W1, W1 = (w.alloc (.cells (posCs F R x1 xs.length c1 b1 ca1 pa1 ha1 fu1).toArray 26)).alloc (.cells (posCs F R x2 ys.length c2 b2 ca2 pa2 ha2 fu2).toArray 26) := ⟨_, rfl⟩
 have hB : RowKit.Below w.heap.size w W1 := by
  subst hW1
  exact (below_box w _).alloc (by simp) _
 have hA : HasO W1 w.heap.size (.cells (posCs F R x1 xs.length c1 b1 ca1 pa1 ha1 fu1).toArray 26 (0, 0)) := by
  subst hW1
  exact (HasO.new w _).alloc _
 have hC : HasO W1 (w.heap.size + 1) (.cells (posCs F R x2 ys.length c2 b2 ca2 pa2 ha2 fu2).toArray 26 (0, 0)) := by
  subst hW1
  exact HasO.new' _ _ (by simp)
 have t1 := call_gr (w := W1) (fun W _ => (show Calls Tryz.prog 35 #[.agg #[.int .i64 F, .int .i64 R, .slice x1 xs.length c1, .bool b1, .int .u8 ca1, .int .i64 pa1, .int .i64 ha1, .int .i64 fu1]] W fun e w' => e = .returned (.agg (bdCs F R x1 xs.length c1).toArray) ∧ RowKit.Below W.heap.size W w' from refOf_any F R ca1 pa1 ha1 fu1 b1 x1 xs.length c1 W))
 have t2 := call_gr (w := W1) (fun W _ => (show Calls Tryz.prog 35 #[.agg #[.int .i64 F, .int .i64 R, .slice x2 ys.length c2, .bool b2, .int .u8 ca2, .int .i64 pa2, .int .i64 ha2, .int .i64 fu2]] W fun e w' => e = .returned (.agg (bdCs F R x2 ys.length c2).toArray) ∧ RowKit.Below W.heap.size W w' from refOf_any F R ca2 pa2 ha2 fu2 b2 x2 ys.length c2 W))
 have t3 := call_gr (w := W1) (fun W h => (show Calls Tryz.prog 69 #[.agg #[.int .i64 F, .int .i64 R, .slice x1 xs.length c1], .agg #[.int .i64 F, .int .i64 R, .slice x2 ys.length c2]] W fun e w' => e = .returned (.bool (decide (xs = ys))) ∧ RowKit.Below W.heap.size W w' from refSame3_any F R x1 x2 c1 c2 xs ys hn hn2 W ((hx.call hB).call h) ((hy.call hB).call h)))
 have m1 : ∀ d os j, (grow (redrawn W1 d) os).cell? ⟨w.heap.size, j, none⟩ = (#[.int .i64 F, .int .i64 R, .slice x1 xs.length c1, .bool b1, .int .u8 ca1, .int .i64 pa1, .int .i64 ha1, .int .i64 fu1] : Array Value)[j]? := row_gr hA
 have m2 : ∀ d os j, (grow (redrawn W1 d) os).cell? ⟨w.heap.size + 1, j, none⟩ = (#[.int .i64 F, .int .i64 R, .slice x2 ys.length c2, .bool b2, .int .u8 ca2, .int .i64 pa2, .int .i64 ha2, .int .i64 fu2] : Array Value)[j]? := row_gr hC
 have hV : posE xs ys b1 b2 ca1 ca2 pa1 pa2 = (decide (xs = ys) && ((b1 == b2) && ((ca1 == ca2) && (pa1 == pa2)))) := rfl
 generalize posE xs ys b1 b2 ca1 ca2 pa1 pa2 = V at *
 generalize decide (xs = ys) = D at *
 replace hV := Lib.hid hV
 replace hW1 := Lib.hid hW1
 replace hn := Lib.hid hn
 go_enter Tryz.func24, Tryz.ntmps24
 go_upto_region 1 with fail
 change Code.wp Tryz.prog _ _ _ ((w.alloc (.cells (posCs F R x1 xs.length c1 b1 ca1 pa1 ha1 fu1).toArray 26)).alloc (.cells (posCs F R x2 ys.length c2 b2 ca2 pa2 ha2 fu2).toArray 26))
 rw [← hW1.out]
 cases D
 ·refine wp_region_all (by kernel_rfl) (by kernel_rfl) ?_
  repeat (go_big_quiet_step (first | with_reducible exact t1 _ _ | with_reducible exact t2 _ _ | with_reducible exact t3 _ _ | fail))
  refine wpQuiet_nil ?_
  intro w2 hb2
  go_wp2_with fail
  go_ret
  exact ⟨by rw [hV.out]; rfl, below_call hB hB.size hb2⟩
 ·rcases z1 : (b1 == b2) with _ | _
  ·refine wp_region_all (by kernel_rfl) (by kernel_rfl) ?_
   repeat (go_big_quiet_step (first | with_reducible exact t1 _ _ | with_reducible exact t2 _ _ | with_reducible exact t3 _ _ | fail))
   refine wpQuiet_nil ?_
   intro w2 hb2
   go_wp2_with fail
   go_ret
   exact ⟨by rw [hV.out, z1]; rfl, below_call hB hB.size hb2⟩
  ·rcases z2 : (ca1 == ca2) with _ | _
   ·refine wp_region_all (by kernel_rfl) (by kernel_rfl) ?_
    repeat (go_big_quiet_step (first | with_reducible exact t1 _ _ | with_reducible exact t2 _ _ | with_reducible exact t3 _ _ | fail))
    refine wpQuiet_nil ?_
    intro w2 hb2
    go_wp2_with fail
    go_ret
    exact ⟨by rw [hV.out, z1, z2]; rfl, below_call hB hB.size hb2⟩
   ·rcases z3 : (pa1 == pa2) with _ | _
    ·refine wp_region_all (by kernel_rfl) (by kernel_rfl) ?_
     repeat (go_big_quiet_step (first | with_reducible exact t1 _ _ | with_reducible exact t2 _ _ | with_reducible exact t3 _ _ | fail))
     refine wpQuiet_nil ?_
     intro w2 hb2
     go_wp2_with fail
     go_ret
     exact ⟨by rw [hV.out, z1, z2, z3]; rfl, below_call hB hB.size hb2⟩
    ·refine wp_region_all (by kernel_rfl) (by kernel_rfl) ?_
     repeat (go_big_quiet_step (first | with_reducible exact t1 _ _ | with_reducible exact t2 _ _ | with_reducible exact t3 _ _ | fail))
     refine wpQuiet_nil ?_
     intro w2 hb2
     go_wp2_with fail
     go_ret
     exact ⟨by rw [hV.out, z1, z2, z3]; rfl, below_call hB hB.size hb2⟩
theorem mkW_ok {p : Pos} {m : Mv} {q : Pos} {u : Und} (h : mkW p m = .ok (q, u)) : (p.ok && mvB p.F p.R m) = true ∧ u = undW p m := by
 unfold mkW at h
 rcases e : (p.ok && mvB p.F p.R m) with _ | _
 ·rw [e] at h; simp at h
 ·rw [e] at h
  refine ⟨rfl, ?_⟩
  simp only [Bool.true_eq_false, if_false] at h
  split at h
  ·cases h
  split at h
  ·cases h
  generalize (if ((castW p m).2 && !goesW p m) = true then (castW p m).1 else none) = way at h
  split at h
  ·cases h
  split at h
  ·cases h
  injection h with h
  injection h with _ h
  exact h.symm
end Go.Proofs.YtefmplccbkmalaaGreatDoor
namespace Go.Proofs.YtefmplccbkmalaaGreatDoor
open Go.RowKit

def gx (xs : List Int) (k : Nat) : Int := xs[k]?.getD 0
theorem gx_set (xs : List Int) {i : Nat} (hi : i < xs.length) (k : Nat) (v : Int) : gx (xs.set i v) k = if i = k then v else gx xs k := by
 unfold gx
 rw [List.getElem?_set]
 split
 ·rename_i h; subst h; simp
 ·rfl
theorem gx_out {xs : List Int} {k : Nat} (h : xs.length ≤ k) : gx xs k = 0 := by
 unfold gx; rw [List.getElem?_eq_none h]; rfl
theorem gx_lt {xs : List Int} {k : Nat} (h : gx xs k ≠ 0) : k < xs.length := by
 rcases Nat.lt_or_ge k xs.length with h1 | h1
 ·exact h1
 ·exact absurd (gx_out h1) h
theorem gx_mem {xs : List Int} {k : Nat} (h : k < xs.length) : gx xs k ∈ xs := by
 unfold gx; rw [List.getElem?_eq_getElem h]; exact List.getElem_mem h
theorem gx_ext {l r : List Int} (h : l.length = r.length) (hg : ∀ k, gx l k = gx r k) : l = r := by
 refine List.ext_getElem h fun k h1 h2 => ?_
 have := hg k
 unfold gx at this
 rwa [List.getElem?_eq_getElem h1, List.getElem?_eq_getElem h2] at this
def KG (xs : List Int) (b : Bool) (k : Nat) : Prop := gx xs k = 6 * sdI b ∧ ∀ j, gx xs j = 6 * sdI b → j = k
theorem sd6 (b : Bool) : 6 * sdI b ≠ 0 := by cases b <;> decide
theorem kg_iff {xs : List Int} {b : Bool} {k : Nat} : kgI xs b = k ↔ KG xs b k := by
 have hm := fun i => idxs_mem (· == 6 * sdI b) xs i xs.length
 simp only [beq_iff_eq] at hm
 have h6 := sd6 b
 constructor
 ·intro h
  unfold kgI at h
  split at h
  ·rename_i h1
   obtain ⟨y, hy⟩ := List.length_eq_one_iff.1 h1
   rw [hy] at h
   have h : y = k := by simpa using h
   subst h
   have hm2 : ∀ i, i ∈ kgL xs b ↔ ∃ j : Nat, j < xs.length ∧ gx xs j = 6 * sdI b ∧ i = j := hm
   rw [hy] at hm2
   obtain ⟨j, _, h2, h3⟩ := (hm2 k).1 (by simp)
   refine ⟨by rw [show k = j by omega]; exact h2, fun j hj => ?_⟩
   have := (hm2 j).2 ⟨j, gx_lt (by rw [hj]; exact h6), hj, rfl⟩
   have : (j : Int) = k := by simpa using this
   omega
  ·omega
 ·rintro ⟨h1, h2⟩
  have hk := gx_lt (by rw [h1]; exact h6)
  have hL : ∀ n, idxs (· == 6 * sdI b) xs n = if k < n then [(k : Int)] else [] := by
   intro n
   induction n with
   | zero => rfl
   | succ n ih =>
    simp only [idxs, ih, beq_iff_eq]
    by_cases hn : n = k
    ·subst hn
     have h1 : xs[n]?.getD 0 = 6 * sdI b := h1
     simp [h1]
    ·have : ¬ xs[n]?.getD 0 = 6 * sdI b := fun h => hn (h2 n h)
     rw [if_neg this]
     by_cases h3 : k < n
     ·rw [if_pos h3, if_pos (by omega)]
     ·rw [if_neg h3, if_neg (by omega)]
  have : kgL xs b = [(k : Int)] := by unfold kgL; rw [hL, if_pos hk]
  unfold kgI
  rw [this]; rfl
theorem kg_some {xs : List Int} {b : Bool} (h : ¬ kgI xs b < 0) : ∃ k, KG xs b k := ⟨(kgI xs b).toNat, kg_iff.1 (by omega)⟩
def wayW (P : Pos) (m : Mv) : Option Cas := if (castW P m).2 && !goesW P m then (castW P m).1 else none
def CanM (P : Pos) (m : Mv) : Prop :=
 (P.ok && mvB P.F P.R m) = true ∧ isW (P.at_ m.fr) P.bl = true ∧ (isW (P.at_ m.tg) P.bl || (!goesW P m && (!(castW P m).2 || decide (m.pr ≠ 0)))) = false ∧
 (decide (chkS P.F P.R (aftW P m (wayW P m)).xs P.bl ≠ 0) || ((wayW P m).isSome && (decide (chkS P.F P.R P.xs P.bl ≠ 0) || decide (atrW P.F P.R (setW gNon P.xs P.xs.length) P.xs (((wayW P m).map Cas.cr).getD 0) (!P.bl) P.xs.length ≠ 0)))) = false ∧
 ¬ (10000 < (aftW P m (wayW P m)).ha ∨ 10000 < (aftW P m (wayW P m)).fu)
theorem mk_iff {P : Pos} {m : Mv} {q : Pos} {u : Und} : mkW P m = .ok (q, u) ↔ CanM P m ∧ q = aftW P m (wayW P m) ∧ u = undW P m := by
 unfold mkW CanM wayW
 simp only
 generalize (P.ok && mvB P.F P.R m) = b1
 generalize isW (P.at_ m.fr) P.bl = b2
 generalize (isW (P.at_ m.tg) P.bl || (!goesW P m && (!(castW P m).2 || decide (m.pr ≠ 0)))) = b3
 generalize (if ((castW P m).2 && !goesW P m) = true then (castW P m).1 else none) = way
 generalize (decide (chkS P.F P.R (aftW P m way).xs P.bl ≠ 0) || (way.isSome && (decide (chkS P.F P.R P.xs P.bl ≠ 0) || decide (atrW P.F P.R (setW gNon P.xs P.xs.length) P.xs ((way.map Cas.cr).getD 0) (!P.bl) P.xs.length ≠ 0)))) = b4
 cases b1
 ·simp
 cases b2
 ·simp
 cases b3
 ·cases b4
  ·by_cases h : 10000 < (aftW P m way).ha ∨ 10000 < (aftW P m way).fu
   ·simp [h]
   ·simp only [if_neg h]
    simp [h, eq_comm]
  ·simp
 ·simp
theorem ok_iff {P : Pos} : P.ok = true ↔ orthB P.F P.R P.xs = true ∧ ¬ kgI P.xs P.bl < 0 ∧ ¬ kgI P.xs (!P.bl) < 0 ∧ chkW P.F P.R P.xs (!P.bl) = 0 ∧ pawnsB P.F P.xs = true ∧ cstB P.F P.R P.xs P.ca = true ∧ passB P.F P.R P.xs P.bl P.pa P.ha = true ∧ cntB P.ha P.fu = true := by
 have hW : P.ok = ((((((true && boardB P.F P.R P.xs) && kingsB P.F P.R P.xs P.bl) && pawnsB (P.F : Int).toNat P.xs) && cstB P.F P.R P.xs P.ca) && passB (P.F : Int).toNat (P.R : Int).toNat P.xs P.bl P.pa P.ha) && cntB P.ha P.fu) := rfl
 rw [hW, Int.toNat_natCast, Int.toNat_natCast]
 unfold kingsB
 rw [Int.toNat_natCast, Int.toNat_natCast]
 have hb : orthB P.F P.R P.xs = true → boardB P.F P.R P.xs = true := fun h => by unfold orthB at h; rw [Bool.and_eq_true] at h; exact h.1
 simp only [Bool.and_eq_true, Bool.not_eq_true', decide_eq_false_iff_not, decide_eq_true_eq]
 constructor
 ·rintro ⟨⟨⟨⟨⟨⟨_, _⟩, h1, h2, h3, h4⟩, h5⟩, h6⟩, h7⟩, h8⟩
  exact ⟨h1, h2, h3, h4, h5, h6, h7, h8⟩
 ·rintro ⟨h1, h2, h3, h4, h5, h6, h7, h8⟩
  exact ⟨⟨⟨⟨⟨⟨trivial, hb h1⟩, h1, h2, h3, h4⟩, h5⟩, h6⟩, h7⟩, h8⟩
theorem orth_g {f r : Int} {xs ys : List Int} (h : orthB f r xs = true) (hl : ys.length = xs.length) (h6 : ∀ k, -6 ≤ gx ys k ∧ gx ys k ≤ 6) : orthB f r ys = true := by
 unfold orthB boardB at h ⊢
 simp only [Bool.and_eq_true, List.all_eq_true, decide_eq_true_eq] at h ⊢
 rw [hl]
 have h7 : ∀ x ∈ ys, -6 ≤ x ∧ x ≤ 6 := by
  intro x hx
  obtain ⟨k, hk, rfl⟩ := List.getElem_of_mem hx
  have := h6 k
  unfold gx at this
  rwa [List.getElem?_eq_getElem hk] at this
 exact ⟨⟨h.1.1, h.1.2.1, fun x hx => by have := h7 x hx; simp [pOk]; omega⟩, fun x hx => by have := h7 x hx; simp [orB]; omega⟩
theorem orth_6 {f r : Int} {xs : List Int} (h : orthB f r xs = true) (k : Nat) : -6 ≤ gx xs k ∧ gx xs k ≤ 6 := by
 rcases Nat.lt_or_ge k xs.length with h1 | h1
 ·exact orth6 h _ (gx_mem h1)
 ·rw [gx_out h1]; omega
theorem pawn_last {F R : Nat} {xs : List Int} (hF : 3 ≤ F ∧ F ≤ 8) (hR : 3 ≤ R ∧ R ≤ 8) (hlen : xs.length = F * R) : pawnsB F xs = true ↔ ∀ k, kindI (gx xs k) = 1 → ((k / F : Nat) : Int) ≠ lastI R (decide (gx xs k < 0)) := by
 rw [← last_eq hF hR hlen, lastK_iff]
 constructor
 ·intro h k h1 h2
  have := h k (gx_lt (by intro e; rw [e] at h1; simp [kindI] at h1))
  unfold gx at h1 h2
  simp [h1, h2] at this
 ·intro h k _
  rw [Bool.eq_false_iff]
  intro h2
  simp only [Bool.and_eq_true, beq_iff_eq] at h2
  exact h k h2.1 h2.2
theorem chk_none {F R : Nat} {xs : List Int} {b : Bool} {k j : Nat} (h : chkW F R xs b = 0) (hk : KG xs b k) (hs : sgnI (gx xs j) = sdI (!b)) : (atW F R (setW gNon xs xs.length) (gx xs j) j).testBit k = false := by
 unfold chkW at h
 rw [atrW_zero, kg_iff.2 hk, Int.toNat_natCast] at h
 have hj : j < xs.length := gx_lt (by intro e; rw [e] at hs; cases b <;> simp [sgnI, sdI] at hs)
 have := h j hj
 unfold gx at hs ⊢
 simpa [hs] using this
theorem isW_sgn {x : Int} {b : Bool} : isW x b = true ↔ sgnI x = sdI b := by
 unfold isW sgnI sdI
 cases b <;> simp <;> (repeat' split) <;> omega
theorem pawn_pc {x : Int} {b : Bool} (h : isW x b = true) (hk : kindI x = 1) : x = pcI 1 b := by
 unfold isW at h; unfold kindI at hk; unfold pcI
 cases b <;> simp at h ⊢ <;> split at hk <;> omega
theorem occ_bit (P : Pos) (i : Nat) : P.occ.testBit i = decide (gx P.xs i ≠ 0) := by
 unfold Pos.occ
 rw [setW_bit]
 by_cases h : i < P.xs.length
 ·simp [h, gNon, gx]
 ·rw [gx_out (by omega)]; simp [h]
theorem not_bit {x oc i : Nat} (ho : oc < 2 ^ 64) : (x &&& (2 ^ 64 - 1 - oc)).testBit i = (x.testBit i && (decide (i < 64) && !oc.testBit i)) := by
 rw [Nat.testBit_and, show 2 ^ 64 - 1 - oc = 2 ^ 64 - (oc + 1) by omega, Nat.testBit_two_pow_sub_succ ho]
theorem sq_at {F a f0 : Nat} {k : Int} (h1 : a % F = f0) (h2 : ((a / F : Nat) : Int) = k) : sqN F f0 k = a := by
 subst h1 h2
 unfold sqN
 rw [Int.toNat_natCast]
 exact Nat.div_add_mod' a F
inductive GoS (P : Pos) (a b : Nat) (pr : Int) : Prop
 | piece (hk : kindI (gx P.xs a) ≠ 1) (hp : pr = 0) (hr : reachB P.F P.R (kindI (gx P.xs a)) a b P.occ = true)
 | step (hk : gx P.xs a = pcI 1 P.bl) (hb : gx P.xs b = 0) (hd : dF P.F a b = 0) (hr : dR P.F a b = sdI P.bl) (hl : pr ≠ 0 ↔ ((b / P.F : Nat) : Int) = lastI P.R P.bl)
 | two (hk : gx P.xs a = pcI 1 P.bl) (hb : gx P.xs b = 0) (hd : dF P.F a b = 0) (hr : dR P.F a b = 2 * sdI P.bl) (h6 : 6 ≤ P.R) (hs : ((a / P.F : Nat) : Int) = if P.bl then (P.R : Int) - 2 else 1) (c : Nat) (hc : c < P.F * P.R ∧ dF P.F a c = 0 ∧ dR P.F a c = sdI P.bl ∧ gx P.xs c = 0) (hl : pr ≠ 0 ↔ ((b / P.F : Nat) : Int) = lastI P.R P.bl)
 | diag (hk : gx P.xs a = pcI 1 P.bl) (hd : dF P.F a b = 1 ∨ dF P.F a b = -1) (hr : dR P.F a b = sdI P.bl) (hc : gx P.xs b ≠ 0 ∨ (b : Int) = P.pa) (hl : pr ≠ 0 ↔ ((b / P.F : Nat) : Int) = lastI P.R P.bl)
theorem kind_bd {x : Int} (h : -6 ≤ x ∧ x ≤ 6) (h0 : x ≠ 0) : 1 ≤ kindI x ∧ kindI x ≤ 6 := by unfold kindI; split <;> omega
theorem isW_ne {x : Int} {b : Bool} (h : isW x b = true) : x ≠ 0 := by rintro rfl; cases b <;> simp [isW] at h
theorem goes_shape {P : Pos} (ho : orthB P.F P.R P.xs = true) (hF : 3 ≤ P.F ∧ P.F ≤ 8) (hR : 3 ≤ P.R ∧ P.R ≤ 8) (hlen : P.xs.length = P.F * P.R) {a b : Nat} {pr : Int} (ha : a < P.F * P.R) (hb : b < P.F * P.R) (h2 : isW (gx P.xs a) P.bl = true) (hg : goesW P ⟨a, b, pr⟩ = true) : GoS P a b pr := by
 have hl64 : P.F * P.R ≤ 64 := Nat.mul_le_mul hF.2 hR.2
 have h0 := isW_ne h2
 have hkb := kind_bd (orth_6 ho a) h0
 unfold goesW at hg
 simp only [show P.at_ (a : Int) = gx P.xs a from rfl, show P.at_ (b : Int) = gx P.xs b from rfl, Int.toNat_natCast] at hg
 by_cases hk : kindI (gx P.xs a) = 1
 ·rw [if_neg (by rw [hk]; decide)] at hg
  have hk1 := pawn_pc h2 hk
  simp only [Bool.and_eq_true, Nat.testBit_or, Bool.or_eq_true, beq_iff_eq, decide_eq_decide] at hg
  obtain ⟨hm, hl⟩ := hg
  have hl : pr ≠ 0 ↔ ((b / P.F : Nat) : Int) = lastI P.R P.bl := hl
  have ho64 : P.occ < 2 ^ 64 := setW_lt _ _ (by omega)
  have l1 := fun (s : Int × Int) (c : Nat) (hc : c < P.F * P.R) => leapW_any (F := P.F) (a := a) [s] hF hc
  simp only [List.length_singleton, List.any_cons, List.any_nil, Bool.or_false] at l1
  have hone : ∀ c, (leapW P.F P.R a [(0, sdI P.bl)] 1 &&& (2 ^ 64 - 1 - P.occ)).testBit c = true → c < P.F * P.R ∧ dF P.F a c = 0 ∧ dR P.F a c = sdI P.bl ∧ gx P.xs c = 0 := by
   intro c hc
   rw [not_bit ho64] at hc
   simp only [Bool.and_eq_true, occ_bit, Bool.not_eq_true', decide_eq_false_iff_not, decide_eq_true_eq, ne_eq, Decidable.not_not] at hc
   have hcl : c < P.F * P.R := by
    rcases Nat.lt_or_ge c (P.F * P.R) with h | h
    ·exact h
    ·have := Nat.testBit_lt_two_pow (Nat.lt_of_lt_of_le (leapW_lt (F := P.F) (R := P.R) (a := a) [(0, sdI P.bl)] 1) (Nat.pow_le_pow_right (by decide) h))
     rw [this] at hc; exact absurd hc.1 (by decide)
   have h1 := hc.1
   rw [l1 _ _ hcl] at h1
   simp only [Bool.and_eq_true, beq_iff_eq] at h1
   exact ⟨hcl, h1.1, h1.2, hc.2.2⟩
  rcases hm with hm | hm
  ·unfold stpW at hm
   simp only at hm
   generalize hst : (if P.bl = true then (P.R : Int) - 2 else 1) = st at hm
   split at hm
   ·obtain ⟨_, e1, e2, e3⟩ := hone b hm
    exact .step hk1 e3 e1 e2 hl
   ·rename_i hn
    rw [not_or, not_or] at hn
    rw [Nat.testBit_or, Bool.or_eq_true] at hm
    rcases hm with hm | hm
    ·obtain ⟨_, e1, e2, e3⟩ := hone b hm
     exact .step hk1 e3 e1 e2 hl
    ·rw [not_bit ho64, l1 _ _ hb] at hm
     simp only [Bool.and_eq_true, beq_iff_eq, occ_bit, Bool.not_eq_true', decide_eq_false_iff_not, ne_eq, Decidable.not_not] at hm
     obtain ⟨c, hc⟩ := Nat.exists_testBit_of_ne_zero hn.1
     exact .two hk1 hm.2.2 hm.1.1 hm.1.2 (by omega) (by have := hn.2.2; rw [hst]; omega) c (hone c hc) hl
  ·split at hm
   ·simp at hm
   ·rename_i hn
    have l2 := leapW_any (F := P.F) (a := a) (pwnL P.bl) hF hb
    rw [show (pwnL P.bl).length = 2 from rfl] at l2
    rw [l2] at hm
    simp only [pwnL, List.any_cons, List.any_nil, Bool.or_false, Bool.or_eq_true, Bool.and_eq_true, beq_iff_eq] at hm
    refine .diag hk1 ?_ ?_ ?_ hl
    ·rcases hm with hm | hm
     ·exact .inr hm.1
     ·exact .inl hm.1
    ·rcases hm with hm | hm <;> exact hm.2
    ·by_cases e : gx P.xs b = 0
     ·right
      by_cases e2 : (b : Int) = P.pa
      ·exact e2
      ·exact absurd ⟨e, e2⟩ hn
     ·exact .inl e
 ·rw [if_pos hk] at hg
  simp only [Bool.and_eq_true, decide_eq_true_eq] at hg
  refine .piece hk hg.1 ?_
  rw [← reach_eq hF hR ha hb (by omega)]
  exact hg.2
theorem cap_gx (P : Pos) (a b : Nat) (pr : Int) : capW P ⟨a, b, pr⟩ = (if gx P.xs (capK P.F (gx P.xs a) P.pa a b) = 0 then -1 else (capK P.F (gx P.xs a) P.pa a b : Int), gx P.xs (capK P.F (gx P.xs a) P.pa a b)) := cap_eq P.F P.R P.xs P.bl 0 P.pa P.ha P.fu a b pr
theorem pass_fact {F R : Nat} {xs : List Int} {bl : Bool} {pa ha : Int} {b : Nat} (h : passB F R xs bl pa ha = true) (hb : (b : Int) = pa) : 6 ≤ R ∧ ha = 0 ∧ 2 * ((b / F : Nat) : Int) = rankI R (!bl) 2 + rankI R (!bl) 4 ∧ gx xs b = 0 ∧ gx xs (sqN F (b % F) (rankI R (!bl) 2)) = 0 ∧ gx xs (sqN F (b % F) (rankI R (!bl) 4)) = pcI 1 (!bl) := by
 subst hb
 unfold passB psB at h
 simp only [Bool.or_eq_true, Bool.and_eq_true, Bool.not_eq_true', beq_iff_eq, decide_eq_false_iff_not, Int.toNat_natCast] at h
 rcases h with h | h
 ·omega
 ·exact ⟨by omega, h.2.1, h.2.2.2.1, h.2.2.2.2.1, h.2.2.2.2.2.1, h.2.2.2.2.2.2⟩
inductive CapS (P : Pos) (a b : Nat) : Int → Int → Prop
 | none (hb : gx P.xs b = 0) (hp : kindI (gx P.xs a) = 1 → (b : Int) ≠ P.pa) : CapS P a b (-1) 0
 | take (hb : gx P.xs b ≠ 0) : CapS P a b b (gx P.xs b)
 | pass (e : Nat) (he : e < P.F * P.R) (hx : gx P.xs e = pcI 1 (!P.bl)) (hb : gx P.xs b = 0) (ha : gx P.xs a = pcI 1 P.bl) (hee : e = a / P.F * P.F + b % P.F) (hp : (b : Int) = P.pa) (hd : dF P.F a b = 1 ∨ dF P.F a b = -1) : CapS P a b e (pcI 1 (!P.bl))
theorem pc_ne (b : Bool) : pcI 1 b ≠ pcI 1 (!b) ∧ pcI 1 b ≠ 0 := by cases b <;> decide
theorem df_eq {F a b : Nat} (h : dF F a b = 0) : a % F = b % F := by unfold dF at h; omega
theorem cap_shape {P : Pos} (hpas : passB P.F P.R P.xs P.bl P.pa P.ha = true) {a b : Nat} {pr : Int} (hlen : P.xs.length = P.F * P.R) (h : GoS P a b pr) : CapS P a b (capW P ⟨a, b, pr⟩).1 (capW P ⟨a, b, pr⟩).2 := by
 have hno : (kindI (gx P.xs a) = 1 → (b : Int) ≠ P.pa) → CapS P a b (capW P ⟨a, b, pr⟩).1 (capW P ⟨a, b, pr⟩).2 := by
  intro hq
  have e : capK P.F (gx P.xs a) P.pa a b = b := by unfold capK; rw [if_neg (fun h => hq h.1 h.2)]
  rw [cap_gx, e]
  by_cases e0 : gx P.xs b = 0
  ·rw [if_pos e0]; simp only [e0]; exact .none e0 hq
  ·rw [if_neg e0]; exact .take e0
 have hk1 : kindI (pcI 1 P.bl) = 1 := by cases P.bl <;> decide
 obtain ⟨n1, n2⟩ := pc_ne P.bl
 rcases h with ⟨hk, _, _⟩ | ⟨hk, hb, hd, hr, _⟩ | ⟨hk, hb, hd, hr, h6, hs, c, ⟨_, c1, c2, c3⟩, _⟩ | ⟨hk, hd, hr, hc, _⟩
 ·exact hno (fun h => absurd h hk)
 ·refine hno fun _ hp => ?_
  obtain ⟨p1, _, p3, _, _, p6⟩ := pass_fact hpas hp
  rw [sq_at (df_eq hd) (a := a), hk] at p6
  ·exact n1 p6
  ·unfold dR at hr
   unfold rankI at p3 ⊢
   unfold sdI at hr
   revert hr p3
   cases P.bl <;> simp <;> omega
 ·refine hno fun _ hp => ?_
  obtain ⟨p1, _, p3, _, _, p6⟩ := pass_fact hpas hp
  rw [sq_at (a := c) ((df_eq c1).symm.trans (df_eq hd)), c3] at p6
  ·exact (pc_ne (!P.bl)).2 p6.symm
  ·unfold dR at hr c2
   unfold rankI at p3 ⊢
   unfold sdI at hr c2
   revert hr p3 c2 hs
   cases P.bl <;> simp <;> omega
 ·by_cases hp : (b : Int) = P.pa
  ·obtain ⟨p1, _, p3, p4, _, p6⟩ := pass_fact hpas hp
   have e : capK P.F (gx P.xs a) P.pa a b = a / P.F * P.F + b % P.F := by unfold capK; rw [if_pos ⟨by rw [hk]; exact hk1, hp⟩]
   have e2 : sqN P.F (b % P.F) (rankI P.R (!P.bl) 4) = a / P.F * P.F + b % P.F := by
    unfold sqN
    have : (rankI P.R (!P.bl) 4).toNat = a / P.F := by
     unfold dR at hr
     unfold rankI at p3 ⊢
     unfold sdI at hr
     revert hr p3
     cases P.bl <;> simp <;> omega
    rw [this]
   rw [e2] at p6
   rw [cap_gx, e, p6, if_neg (pc_ne (!P.bl)).2]
   exact .pass _ (by rw [← hlen]; exact gx_lt (by rw [p6]; exact (pc_ne (!P.bl)).2)) p6 p4 hk rfl hp hd
  ·exact hno fun _ => hp
theorem cas_fact {P : Pos} {m : Mv} : ∀ {l : List Cas} {c : Cas}, casW P m l = (some c, true) → c ∈ l ∧ c.bl = P.bl ∧ P.ca.toNat &&& c.bit ≠ 0 ∧ (c.fr : Int) = m.fr ∧ (c.tg : Int) = m.tg ∧ btwW P.F P.R c.fr c.co &&& P.occ = 0
 | [], c, h => by cases h
 | d :: l, c, h => by
  unfold casW at h
  split at h
  ·have := cas_fact h
   exact ⟨List.mem_cons_of_mem _ this.1, this.2⟩
  ·rename_i hc
   injection h with h1 h2
   injection h1 with h1
   subst h1
   simp only [not_or, ne_eq, Decidable.not_not] at hc
   exact ⟨List.mem_cons_self, hc.1, hc.2.1, hc.2.2.1, hc.2.2.2, of_decide_eq_true h2⟩
theorem cast_fact {P : Pos} {m : Mv} {c : Cas} (h : castW P m = (some c, true)) : kindI (P.at_ m.fr) = 6 ∧ c ∈ casL ∧ c.bl = P.bl ∧ P.ca.toNat &&& c.bit ≠ 0 ∧ (c.fr : Int) = m.fr ∧ (c.tg : Int) = m.tg ∧ btwW P.F P.R c.fr c.co &&& P.occ = 0 := by
 unfold castW at h
 split at h
 ·cases h
 ·rename_i hk
  exact ⟨by omega, cas_fact h⟩
theorem cst_iff {F R : Nat} {xs : List Int} {can : Nat} : cstB F R xs can = true ↔ can ≤ 15 ∧ ∀ c ∈ casL, can &&& c.bit ≠ 0 → F = 8 ∧ R = 8 ∧ gx xs c.fr = pcI 6 c.bl ∧ gx xs c.co = pcI 4 c.bl := by
 by_cases h : can ≤ 15
 ·have h1 : ∀ n, n < 16 → ((n : Nat) : Int) / 1 % 2 = 1 ∨ n &&& 1 = 0 := by decide
  have hb : ∀ n, n < 16 → ∀ k, k < 4 → ((((n : Nat) : Int) / bitI k % 2 == 1) = decide (n &&& 2 ^ k ≠ 0)) := by decide
  have b0 := hb can (by omega) 0 (by decide)
  have b1 := hb can (by omega) 1 (by decide)
  have b2 := hb can (by omega) 2 (by decide)
  have b3 := hb can (by omega) 3 (by decide)
  have hh : ∀ k, homeB F R xs k = true ↔ F = 8 ∧ R = 8 ∧ homeV xs k = true := by
   intro k
   unfold homeB
   simp only [Bool.and_eq_true, beq_iff_eq]
   constructor <;> rintro ⟨h1, h2, h3⟩ <;> exact ⟨by omega, by omega, h3⟩
  unfold cstB
  simp only [cstK, b0, b1, b2, b3, Bool.and_eq_true, Bool.or_eq_true, Bool.not_eq_true', decide_eq_false_iff_not, ne_eq, Decidable.not_not, hh]
  simp only [casL, List.mem_cons, List.not_mem_nil, or_false, forall_eq_or_imp, forall_eq, homeV, bitI, gx, pcI]
  simp
  have h2 : (can % 2 = 1) = ¬ can % 2 = 0 := by rw [eq_iff_iff]; omega
  have hz : (can : Int) ≤ 15 := by omega
  simp only [Decidable.or_iff_not_imp_left, h2, and_assoc, h, hz, true_and]
 ·have : cstB F R xs can = false := by unfold cstB; simp; omega
  rw [this]; simp [h]
end Go.Proofs.YtefmplccbkmalaaGreatDoor
