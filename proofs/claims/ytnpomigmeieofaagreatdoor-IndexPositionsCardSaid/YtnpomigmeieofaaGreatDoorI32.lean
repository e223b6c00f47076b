import Derived.Test.YtnpomigmeieofaaGreatDoorI31
import Derived.Maps.AppendAt
namespace Go.Proofs.YtnpomigmeieofaaGreatDoor
open Go.RowKit

theorem Tryz.has3 : (Tryz.prog.info? 3).isSome = true := by kernel_rfl
theorem Tryz.cells3 : Tryz.prog.cellsOf 3 = 1 := by kernel_rfl
theorem five_eq (d : Nat) (a0 a1 a2 a3 a4 b0 b1 b2 b3 b4 : Int) (W : World) : (Op.equalIn (d + 2) 24 (.agg #[.int .i64 a0, .int .i64 a1, .int .i64 a2, .int .i64 a3, .int .i64 a4]) (.agg #[.int .i64 b0, .int .i64 b1, .int .i64 b2, .int .i64 b3, .int .i64 b4])).run Tryz.prog W = .ok (a0 == b0 && (a1 == b1 && (a2 == b2 && (a3 == b3 && a4 == b4)))) W := by
 obtain ⟨i, hi⟩ := Option.isSome_iff_exists.1 Tryz.has3
 rw [run_equalIn_array W (d + 1) _ _ Tryz.underlying24 hi, Tryz.cells3]
 rw [show List.range 5 = [0, 1, 2, 3, 4] from rfl]
 simp only [Op.eqItems, go_sem]
 simp [go_sem]
 by_cases h0 : a0 = b0 <;> by_cases h1 : a1 = b1 <;> by_cases h2 : a2 = b2 <;> by_cases h3 : a3 = b3 <;> by_cases h4 : a4 = b4 <;> simp [h0, h1, h2, h3, h4]
theorem men_eqs (m m' : Men) (W : World) : (Op.equalIn 10000 26 (.agg m.cs.toArray) (.agg m'.cs.toArray)).run Tryz.prog W = .ok (decide (m = m')) W := by
 have e := fun a0 a1 a2 a3 a4 b0 b1 b2 b3 b4 => five_eq 9997 a0 a1 a2 a3 a4 b0 b1 b2 b3 b4 W
 simp [go_sem, e]
 obtain ⟨f, r, w0, w1, w2, w3, w4, b0, b1, b2, b3, b4⟩ := m
 obtain ⟨f', r', w0', w1', w2', w3', w4', b0', b1', b2', b3', b4'⟩ := m'
 simp only [Men.mk.injEq]
 by_cases h0 : f = f' <;> by_cases h1 : r = r' <;> simp [h0, h1]
 clear e
 by_cases h2 : w0 = w0' <;> by_cases h3 : w1 = w1' <;> by_cases h4 : w2 = w2' <;> by_cases h5 : w3 = w3' <;> by_cases h6 : w4 = w4' <;> simp [h2, h3, h4, h5, h6]
 by_cases g2 : b0 = b0' <;> by_cases g3 : b1 = b1' <;> by_cases g4 : b2 = b2' <;> by_cases g5 : b3 = b3' <;> by_cases g6 : b4 = b4' <;> simp [g2, g3, g4, g5, g6]
theorem men_neq (m m' : Men) (W : World) : (binOp .neq 26 (.agg m.cs.toArray) (.agg m'.cs.toArray)).run Tryz.prog W = .ok (.bool (!decide (m = m'))) W := by
 rw [run_neq_struct, men_eqs]; rfl
theorem men_eql (m m' : Men) (W : World) : (binOp .eql 26 (.agg m.cs.toArray) (.agg m'.cs.toArray)).run Tryz.prog W = .ok (.bool (decide (m = m'))) W := by
 rw [run_eql_struct, men_eqs]; rfl
theorem men_guard (op : BinOp) (x y : Operand) (xs ys : Array Value) (W : World) : (eqGuard op 26 x y (.agg xs) (.agg ys)).run Tryz.prog W = .ok () W := run_eqGuard_agg _ op 26 x y xs ys (by kernel_rfl)
def apart (L : List Men) : Prop := ∀ j, j + 1 < L.length → L[j + 1]?.getD zeroMen ≠ L[j]?.getD zeroMen
set_option maxRecDepth 100000 in
set_option maxHeartbeats 1600000 in
theorem compact_any (base n : Nat) (v : Value) (L : List Men) (hn : n = L.length) (hn2 : n ≤ 900) (hap : apart L) (w : World) (hown : w.ownsRow base 26 12 v n (mensV L)) :
  Calls Tryz.prog 122 #[v] w fun e w' => e = .returned v ∧ Below w.heap.size w w' := by
 obtain ⟨p, cap, rfl⟩ := own_form hown
 replace hap := Lib.hid hap
 replace hn := Lib.hid hn
 by_cases h2 : n < 2
 ·have h2i : (n : Int) < 2 := by omega
  go_enter Tryz.func122, Tryz.ntmps122
  go_wp2_with fail
  go_ret
  exact ⟨rfl, Below.refl _ _⟩
 ·have h2i : ¬ (n : Int) < 2 := by omega
  obtain ⟨g, hp⟩ : ∃ g, p = some ⟨g, 0, none⟩ := by
   rcases hown.2 with ⟨h1, h2⟩ | ⟨g, c, cur, h1, _⟩
   ·omega
   ·injection h1 with h1; exact ⟨g, h1⟩
  subst hp
  go_enter Tryz.func122, Tryz.ntmps122
  go_wp2_with fail
  go_loopg [3] 1001 (fun q kv wr => ∃ j : Nat, ∃ wz, wz = wr ∧ q + j = 1001 ∧ j + 1 ≤ n ∧ kv = .int .i64 ((j + 1 : Nat) : Int) ∧ Below w.heap.size w wr)
  case atStart => exact ⟨0, _, rfl, rfl, by omega, rfl, Below.refl _ _⟩
  case round =>
   obtain ⟨j, w2, rfl, hq, hj, rfl, hB⟩ := hrel
   by_cases hlt : j + 1 < n
   ·have hii : ((j + 1 : Nat) : Int) < n := by omega
    have hown2 := own_call hown hB
    obtain ⟨x, hx⟩ : ∃ x, x = L[j + 1]?.getD zeroMen := ⟨_, rfl⟩
    obtain ⟨y, hy⟩ : ∃ y, y = L[j]?.getD zeroMen := ⟨_, rfl⟩
    have hxy : x ≠ y := by rw [hx, hy]; exact hap.out j (by rw [← hn.out]; exact hlt)
    have hme := fun W => men_eql x y W
    rw [decide_eq_false hxy] at hme
    have hgl := (hown2.lt g rfl).2
    have hcx : ∀ i v, x.cs[i]? = some v → w2.cell? ⟨g, (j + 1) * 12 + i, none⟩ = some v := fun i v hv => own_at hown2 (by omega) (by rw [← hx]; exact hv)
    have hcy : ∀ i v, y.cs[i]? = some v → w2.cell? ⟨g, j * 12 + i, none⟩ = some v := fun i v hv => own_at hown2 (by omega) (by rw [← hy]; exact hv)
    have hj1 : IntKind.i64.wrap (((j + 1 : Nat) : Int) - 1) = (j : Nat) := by rw [IntWalk.i64_in _ (by omega)]; omega
    replace hx := Lib.hid hx
    replace hy := Lib.hid hy
    clear hown2
    go_wp2_with fail
    refine wp_region_valsL (by kernel_rfl) (by kernel_rfl) [some 16, some 17, some 18, some 19, some 20, some 21, some 22, some 23, some 24, some 25] (by rfl) (by rfl) (fun i8 => match i8 with | 0 => .slice (some ⟨g, 0, none⟩) n cap | 1 => .int .i64 ((j + 1 : Nat) : Int) | 2 => .pointer (some ⟨g, (j + 1) * 12, none⟩) | 3 => .agg x.cs.toArray | 4 => .slice (some ⟨g, 0, none⟩) n cap | 5 => .int .i64 ((j + 1 : Nat) : Int) | 6 => .int .i64 (j : Nat) | 7 => .pointer (some ⟨g, j * 12, none⟩) | 8 => .agg y.cs.toArray | 9 => .bool false | _ => undef) (fun W => Below w2.heap.size w2 W) ((Below.refl _ _).drew) ?hstep ?hend
    case hstep =>
     intro i9 o9 f9 W ho hi hC hf K hK
     have hi : i9 < 10 := hi
     rcases (by omega : i9 = 0 ∨ i9 = 1 ∨ i9 = 2 ∨ i9 = 3 ∨ i9 = 4 ∨ i9 = 5 ∨ i9 = 6 ∨ i9 = 7 ∨ i9 = 8 ∨ i9 = 9) with rfl | rfl | rfl | rfl | rfl | rfl | rfl | rfl | rfl | rfl
     ·exact st_move (og ho rfl) (.tmp 0) (oo ho rfl) (rd_out rfl rfl) (hK _ hC)
     ·exact st_move (og ho rfl) (.tmp 3) (oo ho rfl) (rd_out rfl rfl) (hK _ hC)
     ·exact st_index (og ho rfl) 57 (.tmp 16) (.tmp 17) (oo ho rfl) (ri 0 (hf ⟨0, .data⟩ (oa ho rfl) rfl)) (ri 1 (hf ⟨1, .data⟩ (oa ho rfl) rfl)) (index57 W g n cap (j + 1) (by omega)) (hK _ hC)
     ·exact st_loadA (og ho rfl) 26 (.tmp 18) (oo ho rfl) (ri 2 (hf ⟨2, .data⟩ (oa ho rfl) rfl)) x.cs (by kernel_rfl) (fun i v hv => (hC.cell (p := ⟨g, (j + 1) * 12 + i, none⟩) hgl).trans (hcx i v hv)) (hK _ hC)
     ·exact st_move (og ho rfl) (.tmp 0) (oo ho rfl) (rd_out rfl rfl) (hK _ hC)
     ·exact st_move (og ho rfl) (.tmp 3) (oo ho rfl) (rd_out rfl rfl) (hK _ hC)
     ·exact st_bin (og ho rfl) .sub 3 3 (.tmp 21) (.const (.int .i64 1)) (oo ho rfl) (ri 5 (hf ⟨5, .data⟩ (oa ho rfl) rfl)) rfl (gu_i _ _ _ _ _ _ _ _) (bin_subE hj1) (hK _ hC)
     ·exact st_index (og ho rfl) 57 (.tmp 20) (.tmp 22) (oo ho rfl) (ri 4 (hf ⟨4, .data⟩ (oa ho rfl) rfl)) (ri 6 (hf ⟨6, .data⟩ (oa ho rfl) rfl)) (index57 W g n cap j (by omega)) (hK _ hC)
     ·exact st_loadA (og ho rfl) 26 (.tmp 23) (oo ho rfl) (ri 7 (hf ⟨7, .data⟩ (oa ho rfl) rfl)) y.cs (by kernel_rfl) (fun i v hv => (hC.cell (p := ⟨g, j * 12 + i, none⟩) hgl).trans (hcy i v hv)) (hK _ hC)
     ·exact st_bin (og ho rfl) .eql 26 26 (.tmp 19) (.tmp 24) (oo ho rfl) (ri 3 (hf ⟨3, .data⟩ (oa ho rfl) rfl)) (ri 8 (hf ⟨8, .data⟩ (oa ho rfl) rfl)) (men_guard .eql _ _ _ _ _) (hme W) (hK _ hC)
    case hend =>
     intro W hC
     simp only [putL, Act.put, List.setIfInBounds_toArray, List.set_cons_succ, List.set_cons_zero]
     have hB5 := below_call hB hB.size hC
     clear hcx hcy hgl hme hB hC
     go_wp2_with fail
     go_roundg (gk - 1)
     case measure => omega
     case rel => exact ⟨j + 1, _, rfl, by omega, by omega, by go_num, hB5⟩
   ·have hii : ¬ ((j + 1 : Nat) : Int) < n := by omega
    go_wp2_with fail
    go_ret
    exact ⟨rfl, hB⟩
end Go.Proofs.YtnpomigmeieofaaGreatDoor
namespace Go.Proofs.YtnpomigmeieofaaGreatDoor
open Go.RowKit

def nextL (m : Men) : List Men := playedL m ++ (playedL (flipM m)).map flipM
def nextS (m : Men) : List Men := insS (ltc cmpT) (nextL m) ((nextL m).length - 1)
theorem MArr.grown {w w' : World} {p : Option Addr} {L : List Men} {row : Option Nat} (h : MArr w p L) (hg : w.grownBy w' row) (hne : ∀ g, p = some ⟨g, 0, none⟩ → row ≠ some g) : MArr w' p L := by
 rcases h with h | ⟨g, rfl, hl, hc⟩
 ·exact .inl h
 ·exact .inr ⟨g, rfl, Nat.lt_of_lt_of_le hl hg.size, fun j hj i v hv => hg.cell (a := ⟨g, j * 12 + i, none⟩) (hc j hj i v hv) (fun e => hne g rfl e.symm)⟩
theorem playedL_len (m : Men) : (playedL m).length ≤ 29 := by
 unfold playedL
 split
 ·exact plyL_len m 4
 ·have := tkL_len m; omega
set_option maxRecDepth 100000 in
set_option maxHeartbeats 6400000 in
theorem next_any (m : Men) (hb : mB m 50) (h12 : (nextL m).length ≤ 12) (hv : ∀ x ∈ nextL m, validB x = true) (hap : apart (nextS m)) (w : World) :
  Calls Tryz.prog 68 #[.agg m.cs.toArray] w fun e w' => (∃ v, e = .returned v ∧ w'.ownsRow (w.heap.size + 1) 26 12 v (nextS m).length (mensV (nextS m))) ∧ Below w.heap.size w w' := by
 obtain ⟨i0, hi00, hz0, hz1, hz2⟩ := info_parts info26
 have hM := HasO.new w (.cells m.cs.toArray 26)
 have hB := below_box w (.cells m.cs.toArray 26)
 have hpl := fun W => played_any m W hb
 have hfl := fun W => flip_any m W
 have hpf := fun W => played_any (flipM m) W (mB_flip hb)
 have hlen1 := playedL_len m
 have hlen2 := playedL_len (flipM m)
 go_enter Tryz.func68, Tryz.ntmps68
 go_upto_region 1 with fail
 show Code.wp _ _ _ _ (w.alloc (.cells m.cs.toArray 26))
 have hs1 : (w.alloc (.cells m.cs.toArray 26)).heap.size = w.heap.size + 1 := by simp
 generalize w.alloc (.cells m.cs.toArray 26) = w1 at *
 go_wp2_with (first | (refine wpList_loadO rfl 26 (.tmp 1) rfl w.heap.size _ 26 rfl hM (by kernel_rfl) ?_) | fail)
 refine (hpl w1).mono ?_
 rintro e w2 ⟨⟨v1, rfl, hown1⟩, hb2⟩
 have hM2 := hM.call hb2
 have hB2 := below_call hB hB.size hb2
 replace hown1 := own_mono hown1 (show w.heap.size + 1 ≤ w1.heap.size + 1 by omega)
 have hs2 : w.heap.size + 1 ≤ w2.heap.size := by have := hb2.size; omega
 clear hM hB hb2 hpl hs1
 go_wp2_with (first | (refine wpList_loadO rfl 26 (.tmp 1) rfl w.heap.size _ 26 rfl hM2 (by kernel_rfl) ?_) | fail)
 refine (hfl w2).mono ?_
 rintro e w3 ⟨rfl, hb3⟩
 have hB3 := below_call hB2 hB2.size hb3
 have hown3 := own_call hown1 hb3
 have hlo3 : ∀ g, v1.ownBlock = some g → g < w2.heap.size := fun g e => (hown1.lt g e).2
 go_wp2_with fail
 refine (hpf w3).mono ?_
 rintro e w4 ⟨⟨v2, rfl, hown2⟩, hb4⟩
 have hB4 := below_call hB3 hB3.size hb4
 have hown4 := own_call hown3 hb4
 obtain ⟨p2, c2, rfl, hArr⟩ := own_marr hown2
 have hdis : ∀ g, p2 = some ⟨g, 0, none⟩ → v1.ownBlock ≠ some g := by
  intro g e h
  have h1 := hlo3 g h
  have h2 := (hown2.lt g (by rw [e]; rfl)).1
  have := hb3.size
  omega
 have hs4 : w.heap.size + 1 ≤ w4.heap.size := by have := hb3.size; have := hb4.size; omega
 obtain ⟨L2, hL2⟩ : ∃ L2, L2 = playedL (flipM m) := ⟨_, rfl⟩
 obtain ⟨L1, hL1⟩ : ∃ L1, L1 = playedL m := ⟨_, rfl⟩
 have hnl : nextL m = L1 ++ L2.map flipM := by rw [hL1, hL2]; rfl
 rw [← hL2] at hArr hlen2 ⊢
 rw [← hL1] at hown4 hlen1
 replace hL1 := Lib.hid hL1
 replace hL2 := Lib.hid hL2
 replace hnl := Lib.hid hnl
 replace h12 := Lib.hid h12
 replace hv := Lib.hid hv
 replace hap := Lib.hid hap
 clear hfl hpf hM2 hB2 hB3 hb3 hb4 hown1 hown3 hown2 hlo3 hs2
 go_wp2_with fail
 go_loopg [3, 12] 30 (fun q lv iv wr => ∃ j : Nat, ∃ wz, wz = wr ∧ q + j = 30 ∧ j ≤ L2.length ∧ iv = .int .i64 (j : Nat) ∧ wr.ownsRow (w.heap.size + 1) 26 12 lv (L1 ++ (L2.take j).map flipM).length (mensV (L1 ++ (L2.take j).map flipM)) ∧ Below w.heap.size w wr ∧ w.heap.size + 1 ≤ wr.heap.size ∧ MArr wr p2 L2 ∧ ∀ g, p2 = some ⟨g, 0, none⟩ → lv.ownBlock ≠ some g)
 case atStart => exact ⟨0, _, rfl, rfl, Nat.zero_le _, rfl, by simpa using hown4, hB4, hs4, hArr, hdis⟩
 case round =>
  clear hown4 hB4 hs4 hArr hdis
  obtain ⟨j, w4, rfl, hq, hj, rfl, hown, hBr, hs, hArr, hdis⟩ := hrel
  by_cases hlt : j < L2.length
  ·have hjj : (j : Int) < L2.length := by omega
   have hArr0 := hArr
   obtain ⟨g, rfl, hgl, hc⟩ := hArr0.at hlt
   obtain ⟨x, hx⟩ : ∃ x, x = L2[j]?.getD zeroMen := ⟨_, rfl⟩
   rw [← hx] at hc
   have hfl := fun W => flip_any x W
   obtain ⟨T, hT⟩ : ∃ T, T = L1 ++ (L2.take j).map flipM := ⟨_, rfl⟩
   have htj : L1 ++ (L2.take (j + 1)).map flipM = T ++ [flipM x] := by
    rw [hT, List.take_add_one, hx, List.getElem?_eq_getElem hlt]
    simp only [Option.toList_some, List.map_append, List.map_cons, List.map_nil, Option.getD_some, List.append_assoc]
   have htl : T.length ≤ 58 := by rw [hT, List.length_append, List.length_map, List.length_take]; omega
   rw [← hT] at hown
   replace hT := Lib.hid hT
   replace hx := Lib.hid hx
   replace htj := Lib.hid htj
   have hX := HasO.new w4 (.cells x.cs.toArray 26)
   have hbX := below_box w4 (.cells x.cs.toArray 26)
   have hB5 := below_call hBr hBr.size hbX
   have hown5 := own_call hown hbX
   have hArr5 := hArr.call hbX
   have hs5 := Nat.le_trans hs hbX.size
   go_upto_region 5 with (first | (refine wpList_loadA rfl 26 (.tmp 14) rfl rfl x.cs (by kernel_rfl) hc ?_) | fail)
   show Code.wp _ _ _ _ (w4.alloc (.cells x.cs.toArray 26))
   generalize w4.alloc (.cells x.cs.toArray 26) = w5 at *
   generalize w4.heap.size = q5 at *
   clear hBr hown hgl hc hArr hArr0 hbX hs
   go_wp2_with (first | (refine wpList_loadO rfl 26 (.tmp 5) rfl q5 _ 26 rfl hX (by kernel_rfl) ?_) | fail)
   refine (hfl w5).mono ?_
   rintro e w6 ⟨rfl, hb6⟩
   have hN := HasO.new w6 (.cells (flipM x).cs.toArray 26)
   have hbN := below_box w6 (.cells (flipM x).cs.toArray 26)
   have hB6 := below_call (below_call hB5 hB5.size hb6) (Nat.le_trans hB5.size hb6.size) hbN
   have hown6 := own_call (own_call hown5 hb6) hbN
   have hArr6 := (hArr5.call hb6).call hbN
   have hs6 := Nat.le_trans hs5 (Nat.le_trans hb6.size hbN.size)
   have hg6 : g < w6.heap.size := by
    rcases hArr5 with h | ⟨g', e', hl', _⟩
    ·rw [h] at hlt; simp at hlt
    ·injection e' with e'; injection e' with e'; rw [e']; exact Nat.lt_of_lt_of_le hl' hb6.size
   clear hfl hB5 hown5 hArr5 hX hb6 hbN hs5
   go_wp2_with (at_builtin; refine wpList_append_own_at _ rfl (.tmp 16) (.tmp 19) 57 rfl (w.heap.size + 1) 26 i0 _ 12 96 Tryz.underlying57 hi00 hz0 hz1 hz2 rfl (by decide) _ T.length (mensV T) rfl hown6 ⟨w6.heap.size, 0, none⟩ 1 1 (flipM x).cs rfl rfl (fun i u hu => by rw [Addr.add_lit, Nat.zero_add, hN.cells i]; simpa using hu) (men_one26 _) (by unfold maxLen; omega) (by omega) hs6 ?_)
   intro v' w9 hown9 hg9 _ hat
   have hb9 := hB6.grown hg9 hB6.size (fun j e => by have := (hown6.lt j e).1; omega)
   have hArr9 := hArr6.grown hg9 hdis
   have hdis9 : ∀ g', (some ⟨g, 0, none⟩ : Option Addr) = some ⟨g', 0, none⟩ → v'.ownBlock ≠ some g' := by
    intro g' e h
    injection e with e; injection e with e; subst e
    rcases hat with h2 | h2
    ·exact hdis g rfl (h2 ▸ h)
    ·rw [h2] at h; injection h with h; have hh : w6.heap.size ≤ g := by first | omega | (rw [← h]; exact Nat.le_refl _)
     omega
   have hs9 := Nat.le_trans hs6 hg9.size
   replace hown9 : w9.ownsRow (w.heap.size + 1) 26 12 v' (L1 ++ (L2.take (j + 1)).map flipM).length (mensV (L1 ++ (L2.take (j + 1)).map flipM)) := by rw [htj.out, mensV_snoc, List.length_append]; exact hown9
   clear hown6 hg9 hB6 hArr6 hdis hat hN hs6
   go_wp2_with fail
   go_roundg (gk - 1)
   case measure => omega
   case rel => exact ⟨j + 1, _, rfl, by omega, by omega, by go_num, hown9, hb9, hs9, hArr9, hdis9⟩
  ·have hjj : ¬ (j : Int) < L2.length := by omega
   obtain rfl : j = L2.length := by omega
   rw [List.take_length, ← hnl.out] at hown
   obtain ⟨N, hN⟩ : ∃ N, N = nextL m := ⟨_, rfl⟩
   have hns : nextS m = insS (ltc cmpT) N (N.length - 1) := by rw [hN]; rfl
   have hvN := hv.out
   have h12N := h12.out
   rw [← hN] at hown hvN h12N
   have hsort := sortFunc_any 121 cmpT _ cmpText_ok (w.heap.size + 1) N.length u3 N rfl h12N hvN w4 hown
   rw [← hns] at hsort
   have hnsl : (nextS m).length = N.length := by rw [hns, insS_len]
   have hcp := fun W h => compact_any (w.heap.size + 1) N.length u3 (nextS m) hnsl.symm (by omega) hap.out W h
   replace hN := Lib.hid hN
   replace hns := Lib.hid hns
   replace hnsl := Lib.hid hnsl
   clear hvN hArr hdis
   go_wp2_with fail
   refine hsort.mono ?_
   rintro e w5 ⟨rfl, hown5, hg5⟩
   have hB5 := hBr.grown hg5 hBr.size (fun j e => by have := (hown.lt j e).1; omega)
   clear hsort hg5 hown
   go_wp2_with fail
   refine (hcp w5 hown5).mono ?_
   rintro e w6 ⟨rfl, hb6⟩
   have hown6 := own_call hown5 hb6
   have hB6 := below_call hB5 hB5.size hb6
   go_wp2_with fail
   go_ret
   exact ⟨⟨_, rfl, by rw [hnsl.out]; exact hown6⟩, hB6⟩
end Go.Proofs.YtnpomigmeieofaaGreatDoor
namespace Go.Proofs.YtnpomigmeieofaaGreatDoor
open Go.RowKit

def cI (a b : Int) : Int := if a < b then -1 else if b < a then 1 else 0
set_option maxRecDepth 100000 in
theorem compare_any (a b : Int) (w : World) : Calls Tryz.prog 72 #[.int .i64 a, .int .i64 b] w fun e w' => e = .returned (.int .i64 (cI a b)) ∧ w' = w := by
 obtain ⟨r, hr⟩ : ∃ r, r = cI a b := ⟨_, rfl⟩
 rw [← hr]
 replace hr := Lib.hid hr
 have h1 := Tryz.cmp_isNaN_int a w
 have h2 := Tryz.cmp_isNaN_int b w
 go_enter Tryz.func72, Tryz.ntmps72
 go_wp2_with fail
 refine h1.mono ?_
 rintro e w2 ⟨rfl, rfl⟩
 go_wp2_with fail
 refine h2.mono ?_
 rintro e w2 ⟨rfl, rfl⟩
 by_cases hab : a < b
 ·go_wp2_with fail
  go_ret
  exact ⟨by rw [show r = -1 from by rw [hr.out]; unfold cI; split <;> (try split) <;> omega]; rfl, rfl⟩
 ·by_cases hba : b < a
  ·go_wp2_with fail
   go_ret
   exact ⟨by rw [show r = 1 from by rw [hr.out]; unfold cI; split <;> (try split) <;> omega]; rfl, rfl⟩
  ·go_wp2_with fail
   go_ret
   exact ⟨by rw [show r = 0 from by rw [hr.out]; unfold cI; split <;> (try split) <;> omega]; rfl, rfl⟩
def orI (a b c : Int) : Int := if a ≠ 0 then a else if b ≠ 0 then b else c
set_option maxRecDepth 100000 in
set_option maxHeartbeats 1600000 in
theorem or_any (g : Nat) (a b c : Int) (w : World) (h0 : w.cell? ⟨g, 0, none⟩ = some (.int .i64 a)) (h1 : w.cell? ⟨g, 1, none⟩ = some (.int .i64 b)) (h2 : w.cell? ⟨g, 2, none⟩ = some (.int .i64 c)) :
  Calls Tryz.prog 71 #[.slice (some ⟨g, 0, none⟩) 3 3] w fun e w' => e = .returned (.int .i64 (orI a b c)) ∧ Below w.heap.size w w' := by
 obtain ⟨r, hr⟩ : ∃ r, r = orI a b c := ⟨_, rfl⟩
 rw [← hr]
 replace hr := Lib.hid hr
 go_enter Tryz.func71, Tryz.ntmps71
 go_wp2_with fail
 go_loopg [5, 8] 3 (fun q xv iv wr => ∃ k : Nat, q + k = 3 ∧ iv = .int .i64 (k : Nat) ∧ wr = w ∧ (0 < k → a = 0) ∧ (1 < k → b = 0) ∧ (2 < k → c = 0))
 case atStart => exact ⟨0, rfl, rfl, rfl, fun h => by omega, fun h => by omega, fun h => by omega⟩
 case round =>
  obtain ⟨k, hq, rfl, rfl, ha, hb, hcc⟩ := hrel
  by_cases hk : k < 3
  ·have hk3 : (k : Int) < 3 := by omega
   obtain ⟨x, hx, hxc⟩ : ∃ x, x = (if k = 0 then a else if k = 1 then b else c) ∧ wr.cell? ⟨g, k, none⟩ = some (.int .i64 x) := by
    rcases (by omega : k = 0 ∨ k = 1 ∨ k = 2) with rfl | rfl | rfl
    ·exact ⟨_, rfl, h0⟩
    ·exact ⟨_, rfl, h1⟩
    ·exact ⟨_, rfl, h2⟩
   replace hx := Lib.hid hx
   by_cases h0x : x = 0
   ·go_wp2_with fail
    go_roundg (gk - 1)
    case measure => omega
    case rel =>
     have hx := hx.out
     refine ⟨k + 1, by omega, by go_num, rfl, ?_, ?_, ?_⟩
     ·intro _; rcases (by omega : k = 0 ∨ 0 < k) with rfl | h
      ·rw [← h0x, hx]; simp
      ·exact ha h
     ·intro h; rcases (by omega : k = 1 ∨ 1 < k) with rfl | h
      ·rw [← h0x, hx]; simp
      ·exact hb h
     ·intro h; rcases (by omega : k = 2 ∨ 2 < k) with rfl | h
      ·rw [← h0x, hx]; simp
      ·exact hcc h
   ·go_wp2_with fail
    go_ret
    refine ⟨?_, Below.refl _ _⟩
    have hx := hx.out
    rcases (by omega : k = 0 ∨ k = 1 ∨ k = 2) with rfl | rfl | rfl
    ·simp at hx; subst hx; rw [show r = x from by rw [hr.out]; unfold orI; rw [if_pos h0x]]; rfl
    ·simp at hx; subst hx; rw [show r = x from by rw [hr.out]; unfold orI; rw [if_neg (by simpa using ha (by omega)), if_pos h0x]]; rfl
    ·simp at hx; subst hx; rw [show r = x from by rw [hr.out]; unfold orI; rw [if_neg (by simpa using ha (by omega)), if_neg (by simpa using hb (by omega))]]; rfl
  ·obtain rfl : k = 3 := by omega
   go_wp2_with fail
   go_ret
   refine ⟨?_, Below.refl _ _⟩
   rw [show r = 0 from by rw [hr.out]; unfold orI; rw [if_neg (by simpa using ha (by omega)), if_neg (by simpa using hb (by omega)), hcc (by omega)]]; rfl
theorem mkI3 (a b c : Int) (W : World) : (Instr.buildSlice 132 3 #[(0, .int .i64 a), (1, .int .i64 b), (2, .int .i64 c)]).run Tryz.prog W = .ok (.slice (some ⟨W.heap.size, 0, none⟩) 3 3) (W.alloc (.cells #[.int .i64 a, .int .i64 b, .int .i64 c] 3)) := by kernel_rfl
section ops
variable {P : Program} {o : Oper} {a : Act} {w : World} {K : Act → World → Prop} {Q : Exit → Act → World → Prop} {t : Nat → Option Bool} {X : Prop}
theorem st_buildSlice3 (hg : o.guard = none) (ty : TypeId) (x y z : Operand) (ho : o.op = .buildSlice ty 3 #[(0, x), (1, y), (2, z)]) {v1 v2 v3 u : Value} {w' : World} (hx : a.eval x = v1) (hy : a.eval y = v2) (hz : a.eval z = v3) (hr : (Instr.buildSlice ty 3 #[(0, v1), (1, v2), (2, v3)]).run P w = .ok u w') (h : K (a.put o.dst u) w') : if Region.wanted o t = true then o.wp P a w K Q else X := by
 refine st_wp hg ?_
 unfold Oper.wp execOp
 simp only [ho, List.map_toArray, List.map_cons, List.map_nil, hx, hy, hz, Sem.run_bind, hr, Result.andThen_ok, Sem.run_pure]
 exact h
end ops
def SlOf (base : Nat) (L : List Value) (v : Value) (W : World) : Prop := ∃ g, v = .slice (some ⟨g, 0, none⟩) L.length L.length ∧ base ≤ g ∧ g < W.heap.size ∧ ∀ j, j < L.length → W.cell? ⟨g, j, none⟩ = L[j]?
theorem SlOf.call {base : Nat} {L : List Value} {v : Value} {W W' : World} (h : SlOf base L v W) (hb : Below W.heap.size W W') : SlOf base L v W' := by
 obtain ⟨g, e, h1, h2, h3⟩ := h
 exact ⟨g, e, h1, Nat.lt_of_lt_of_le h2 hb.size, fun j hj => (hb.cell (p := ⟨g, j, none⟩) h2).trans (h3 j hj)⟩
theorem slOf_new {base : Nat} {L : List Value} {W : World} {t : TypeId} {l : Nat} (h : base ≤ W.heap.size) (hl : l = L.length) : SlOf base L (.slice (some ⟨W.heap.size, 0, none⟩) l l) (W.alloc (.cells L.toArray t)) := by
 subst hl
 refine ⟨_, rfl, h, by simp, fun j _ => ?_⟩
 rw [World.cell?_alloc_at _ _ _ _ rfl]
 simp
def vOrS (base : Nat) (vals : Nat → Value) (ol : Nat → Option (List Value)) (i : Nat) (v : Value) (W : World) : Prop :=
 match ol i with
 | some L => SlOf base L v W
 | none => v = vals i
theorem wp_region_sl {P : Program} {id : Nat} {ops : Array Oper} {Q : Exit → Act → World → Prop} {a : Act} {w : World} (hm : P.follows .mixedOrders = true) (hb : edgesBack .any ops = true)
  (ds : List (Option Tmp)) (hds : ops.toList.map (·.dst) = ds) (hok : dstsOk ds = true) (base : Nat) (vals : Nat → Value) (ol : Nat → Option (List Value))
  (hstep : ∀ i o f W, ops[i]? = some o → i < ops.size → Below w.heap.size w W → (∀ e ∈ o.after, Region.binds .any e = true → vOrS base vals ol e.on (f e.on) W) → ∀ K : Act → World → Prop, (∀ u W', Below W.heap.size W W' → vOrS base vals ol i u W' → K ((putL ds f 0 a).put o.dst u) W') →
   if Region.wanted o (yielded ops (putL ds f 0 a).tmps) = true then o.wp P (putL ds f 0 a) W K Q else K ((putL ds f 0 a).put o.dst undef) W)
  (hend : ∀ f W, Below w.heap.size w W → (∀ i, i < ops.size → vOrS base vals ol i (f i) W) → Q .normal (putL ds f 0 a) W) : (Code.region id ops true).wp P Q a w := by
 refine wp_region_agL hm hb ds hds hok (fun W => Below w.heap.size w W) (fun W W' => Below W.heap.size W W') (vOrS base vals ol) (fun i v W W' _ h h2 => ?_) (Below.refl _ _).drew ?_ hend
 ·unfold vOrS at h2 ⊢
  cases e : ol i with
  | none => rw [e] at h2; exact h2
  | some L => rw [e] at h2; exact h2.call h
 ·intro i o f W ho hi hC hf K hK
  exact hstep i o f W ho hi hC hf K (fun u W' h1 h2 => hK u W' (below_call hC hC.size h1) h1 h2)
def cmpC (x y : Men) : Int := orI (cI (x.upto 5) (y.upto 5)) (cI (x.w0 + x.b0) (y.w0 + y.b0)) (cmpT x y)
set_option maxRecDepth 100000 in
set_option maxHeartbeats 1600000 in
theorem cmpClo_any (x y : Men) (hx : Hid (validB x = true)) (hy : Hid (validB y = true)) (w : World) : Calls Tryz.prog 70 #[.agg x.cs.toArray, .agg y.cs.toArray] w fun e w' => e = .returned (.int .i64 (cmpC x y)) ∧ Below w.heap.size w w' := by
 have hX := (HasO.new w (.cells x.cs.toArray 26)).alloc (.cells y.cs.toArray 26)
 have hY := HasO.new' (w.alloc (.cells x.cs.toArray 26)) (.cells y.cs.toArray 26) (q := w.heap.size + 1) (by simp)
 have hB := (below_box w (.cells x.cs.toArray 26)).alloc (by simp) (.cells y.cs.toArray 26)
 have hmx := validB_ok hx.out
 have hmy := validB_ok hy.out
 have ex : IntKind.i64.wrap (x.w0 + x.b0) = x.w0 + x.b0 := IntWalk.i64_in _ (by have := menOk_at hmx (k := 0) (by decide); simp only [Men.sw, Men.sb] at this; omega)
 have ey : IntKind.i64.wrap (y.w0 + y.b0) = y.w0 + y.b0 := IntWalk.i64_in _ (by have := menOk_at hmy (k := 0) (by decide); simp only [Men.sw, Men.sb] at this; omega)
 go_enter Tryz.func70, Tryz.ntmps70
 go_wp2_with fail
 show Code.wp _ _ _ _ ((w.alloc (.cells x.cs.toArray 26)).alloc (.cells y.cs.toArray 26))
 generalize (w.alloc (.cells x.cs.toArray 26)).alloc (.cells y.cs.toArray 26) = w1 at *
 refine wp_region_sl (by kernel_rfl) (by kernel_rfl) [some 5, some 6, some 7, some 8, some 9, some 10, some 11, some 12, some 13, some 14, some 15, some 16, some 17, some 18, some 19, some 20, some 21, some 22, some 23, some 24, some 25, some 26, some 27, some 28, some 29, some 30, some 31, some 4] (by rfl) (by rfl) w1.heap.size (fun i8 => match i8 with | 0 => .agg x.cs.toArray | 1 => .int .i64 (x.upto 5) | 2 => .agg y.cs.toArray | 3 => .int .i64 (y.upto 5) | 4 => .int .i64 (cI (x.upto 5) (y.upto 5)) | 5 => .pointer (some ⟨w.heap.size, 2, none⟩) | 6 => .pointer (some ⟨w.heap.size, 2, none⟩) | 7 => .int .i64 (x.w0) | 8 => .pointer (some ⟨w.heap.size, 7, none⟩) | 9 => .pointer (some ⟨w.heap.size, 7, none⟩) | 10 => .int .i64 (x.b0) | 11 => .int .i64 (x.w0 + x.b0) | 12 => .pointer (some ⟨(w.heap.size + 1), 2, none⟩) | 13 => .pointer (some ⟨(w.heap.size + 1), 2, none⟩) | 14 => .int .i64 (y.w0) | 15 => .pointer (some ⟨(w.heap.size + 1), 7, none⟩) | 16 => .pointer (some ⟨(w.heap.size + 1), 7, none⟩) | 17 => .int .i64 (y.b0) | 18 => .int .i64 (y.w0 + y.b0) | 19 => .int .i64 (cI (x.w0 + x.b0) (y.w0 + y.b0)) | 20 => .agg x.cs.toArray | 21 => .string (str (textL x)) | 22 => .agg y.cs.toArray | 23 => .string (str (textL y)) | 24 => .int .i64 (cmpT x y) | 26 => .int .i64 (cmpC x y) | 27 => .int .i64 (cmpC x y) | _ => undef) (fun i8 => match i8 with | 25 => some ([.int .i64 (cI (x.upto 5) (y.upto 5)), .int .i64 (cI (x.w0 + x.b0) (y.w0 + y.b0)), .int .i64 (cmpT x y)]) | _ => none) ?hstep ?hend
 case hstep =>
  intro i9 o9 f9 W ho hi hC hf K hK
  have hi : i9 < 28 := hi
  rcases (by omega : i9 = 0 ∨ i9 = 1 ∨ i9 = 2 ∨ i9 = 3 ∨ i9 = 4 ∨ i9 = 5 ∨ i9 = 6 ∨ i9 = 7 ∨ i9 = 8 ∨ i9 = 9 ∨ i9 = 10 ∨ i9 = 11 ∨ i9 = 12 ∨ i9 = 13 ∨ i9 = 14 ∨ i9 = 15 ∨ i9 = 16 ∨ i9 = 17 ∨ i9 = 18 ∨ i9 = 19 ∨ i9 = 20 ∨ i9 = 21 ∨ i9 = 22 ∨ i9 = 23 ∨ i9 = 24 ∨ i9 = 25 ∨ i9 = 26 ∨ i9 = 27) with rfl | rfl | rfl | rfl | rfl | rfl | rfl | rfl | rfl | rfl | rfl | rfl | rfl | rfl | rfl | rfl | rfl | rfl | rfl | rfl | rfl | rfl | rfl | rfl | rfl | rfl | rfl | rfl
  ·exact st_loadA (og ho rfl) 26 (.tmp 2) (oo ho rfl) (rd_out rfl rfl) x.cs (by kernel_rfl) (fun j v hv => by rw [Nat.zero_add, (hX.call hC).cells j]; simpa using hv) (hK _ _ (Below.refl _ _) rfl)
  ·exact st_call1 (og ho rfl) 38 (.tmp 5) #[26] (oo ho rfl) (ri 0 (hf ⟨0, .data⟩ (oa ho rfl) rfl)) (fun _ _ => rfl) (men_any x W hmx) (by intro u w9 h9; rw [Ending.returned.inj h9.1]; exact hK _ _ h9.2 rfl) (by rintro ch w9 h9; revert h9; rintro ⟨h9, _⟩; cases h9) (by rintro w9 h9; revert h9; rintro ⟨h9, _⟩; cases h9)
  ·exact st_loadA (og ho rfl) 26 (.tmp 3) (oo ho rfl) (rd_out rfl rfl) y.cs (by kernel_rfl) (fun j v hv => by rw [Nat.zero_add, (hY.call hC).cells j]; simpa using hv) (hK _ _ (Below.refl _ _) rfl)
  ·exact st_call1 (og ho rfl) 38 (.tmp 7) #[26] (oo ho rfl) (ri 2 (hf ⟨2, .data⟩ (oa ho rfl) rfl)) (fun _ _ => rfl) (men_any y W hmy) (by intro u w9 h9; rw [Ending.returned.inj h9.1]; exact hK _ _ h9.2 rfl) (by rintro ch w9 h9; revert h9; rintro ⟨h9, _⟩; cases h9) (by rintro w9 h9; revert h9; rintro ⟨h9, _⟩; cases h9)
  ·exact st_call2 (og ho rfl) 72 (.tmp 6) (.tmp 8) #[3, 3] (oo ho rfl) (ri 1 (hf ⟨1, .data⟩ (oa ho rfl) rfl)) (ri 3 (hf ⟨3, .data⟩ (oa ho rfl) rfl)) (fun _ _ => rfl) (compare_any (x.upto 5) (y.upto 5) W) (by intro u w9 h9; rw [Ending.returned.inj h9.1, h9.2]; exact hK _ _ (Below.refl _ _) rfl) (by rintro ch w9 h9; revert h9; rintro ⟨h9, _⟩; cases h9) (by rintro w9 h9; revert h9; rintro ⟨h9, _⟩; cases h9)
  ·exact st_field (og ho rfl) 26 (.tmp 2) 1 (oo ho rfl) (rd_out rfl rfl) (n := 2) (by kernel_rfl) (hK _ _ (Below.refl _ _) rfl)
  ·exact st_index (og ho rfl) 24 (.tmp 10) (.const (.int .i64 0)) (oo ho rfl) (ri 5 (hf ⟨5, .data⟩ (oa ho rfl) rfl)) rfl (by kernel_rfl) (hK _ _ (Below.refl _ _) rfl)
  ·exact st_loadS (og ho rfl) 3 (.tmp 11) (oo ho rfl) (ri 6 (hf ⟨6, .data⟩ (oa ho rfl) rfl)) (by kernel_rfl) ((hX.call hC).cells 2) (hK _ _ (Below.refl _ _) rfl)
  ·exact st_field (og ho rfl) 26 (.tmp 2) 2 (oo ho rfl) (rd_out rfl rfl) (n := 7) (by kernel_rfl) (hK _ _ (Below.refl _ _) rfl)
  ·exact st_index (og ho rfl) 24 (.tmp 13) (.const (.int .i64 0)) (oo ho rfl) (ri 8 (hf ⟨8, .data⟩ (oa ho rfl) rfl)) rfl (by kernel_rfl) (hK _ _ (Below.refl _ _) rfl)
  ·exact st_loadS (og ho rfl) 3 (.tmp 14) (oo ho rfl) (ri 9 (hf ⟨9, .data⟩ (oa ho rfl) rfl)) (by kernel_rfl) ((hX.call hC).cells 7) (hK _ _ (Below.refl _ _) rfl)
  ·exact st_bin (og ho rfl) .add 3 3 (.tmp 12) (.tmp 15) (oo ho rfl) (ri 7 (hf ⟨7, .data⟩ (oa ho rfl) rfl)) (ri 10 (hf ⟨10, .data⟩ (oa ho rfl) rfl)) (gu_i _ _ _ _ _ _ _ _) (bin_addE ex) (hK _ _ (Below.refl _ _) rfl)
  ·exact st_field (og ho rfl) 26 (.tmp 3) 1 (oo ho rfl) (rd_out rfl rfl) (n := 2) (by kernel_rfl) (hK _ _ (Below.refl _ _) rfl)
  ·exact st_index (og ho rfl) 24 (.tmp 17) (.const (.int .i64 0)) (oo ho rfl) (ri 12 (hf ⟨12, .data⟩ (oa ho rfl) rfl)) rfl (by kernel_rfl) (hK _ _ (Below.refl _ _) rfl)
  ·exact st_loadS (og ho rfl) 3 (.tmp 18) (oo ho rfl) (ri 13 (hf ⟨13, .data⟩ (oa ho rfl) rfl)) (by kernel_rfl) ((hY.call hC).cells 2) (hK _ _ (Below.refl _ _) rfl)
  ·exact st_field (og ho rfl) 26 (.tmp 3) 2 (oo ho rfl) (rd_out rfl rfl) (n := 7) (by kernel_rfl) (hK _ _ (Below.refl _ _) rfl)
  ·exact st_index (og ho rfl) 24 (.tmp 20) (.const (.int .i64 0)) (oo ho rfl) (ri 15 (hf ⟨15, .data⟩ (oa ho rfl) rfl)) rfl (by kernel_rfl) (hK _ _ (Below.refl _ _) rfl)
  ·exact st_loadS (og ho rfl) 3 (.tmp 21) (oo ho rfl) (ri 16 (hf ⟨16, .data⟩ (oa ho rfl) rfl)) (by kernel_rfl) ((hY.call hC).cells 7) (hK _ _ (Below.refl _ _) rfl)
  ·exact st_bin (og ho rfl) .add 3 3 (.tmp 19) (.tmp 22) (oo ho rfl) (ri 14 (hf ⟨14, .data⟩ (oa ho rfl) rfl)) (ri 17 (hf ⟨17, .data⟩ (oa ho rfl) rfl)) (gu_i _ _ _ _ _ _ _ _) (bin_addE ey) (hK _ _ (Below.refl _ _) rfl)
  ·exact st_call2 (og ho rfl) 72 (.tmp 16) (.tmp 23) #[3, 3] (oo ho rfl) (ri 11 (hf ⟨11, .data⟩ (oa ho rfl) rfl)) (ri 18 (hf ⟨18, .data⟩ (oa ho rfl) rfl)) (fun _ _ => rfl) (compare_any (x.w0 + x.b0) (y.w0 + y.b0) W) (by intro u w9 h9; rw [Ending.returned.inj h9.1, h9.2]; exact hK _ _ (Below.refl _ _) rfl) (by rintro ch w9 h9; revert h9; rintro ⟨h9, _⟩; cases h9) (by rintro w9 h9; revert h9; rintro ⟨h9, _⟩; cases h9)
  ·exact st_loadA (og ho rfl) 26 (.tmp 2) (oo ho rfl) (rd_out rfl rfl) x.cs (by kernel_rfl) (fun j v hv => by rw [Nat.zero_add, (hX.call hC).cells j]; simpa using hv) (hK _ _ (Below.refl _ _) rfl)
  ·exact st_call1 (og ho rfl) 36 (.tmp 25) #[26] (oo ho rfl) (ri 20 (hf ⟨20, .data⟩ (oa ho rfl) rfl)) (fun _ _ => rfl) (text_any x W hx) (by intro u w9 h9; rw [Ending.returned.inj h9.1]; exact hK _ _ h9.2 rfl) (by rintro ch w9 h9; revert h9; rintro ⟨h9, _⟩; cases h9) (by rintro w9 h9; revert h9; rintro ⟨h9, _⟩; cases h9)
  ·exact st_loadA (og ho rfl) 26 (.tmp 3) (oo ho rfl) (rd_out rfl rfl) y.cs (by kernel_rfl) (fun j v hv => by rw [Nat.zero_add, (hY.call hC).cells j]; simpa using hv) (hK _ _ (Below.refl _ _) rfl)
  ·exact st_call1 (og ho rfl) 36 (.tmp 27) #[26] (oo ho rfl) (ri 22 (hf ⟨22, .data⟩ (oa ho rfl) rfl)) (fun _ _ => rfl) (text_any y W hy) (by intro u w9 h9; rw [Ending.returned.inj h9.1]; exact hK _ _ h9.2 rfl) (by rintro ch w9 h9; revert h9; rintro ⟨h9, _⟩; cases h9) (by rintro w9 h9; revert h9; rintro ⟨h9, _⟩; cases h9)
  ·exact st_call2 (og ho rfl) 73 (.tmp 26) (.tmp 28) #[9, 9] (oo ho rfl) (ri 21 (hf ⟨21, .data⟩ (oa ho rfl) rfl)) (ri 23 (hf ⟨23, .data⟩ (oa ho rfl) rfl)) (fun _ _ => rfl) (Tryz.strings_Compare (str (textL x)) (str (textL y)) W) (by intro u w9 h9; rw [Ending.returned.inj h9.1, h9.2]; exact hK _ _ (Below.refl _ _) rfl) (by rintro ch w9 h9; revert h9; rintro ⟨h9, _⟩; cases h9) (by rintro w9 h9; revert h9; rintro ⟨h9, _⟩; cases h9)
  ·exact st_buildSlice3 (og ho rfl) 132 (.tmp 9) (.tmp 24) (.tmp 29) (oo ho rfl) (ri 4 (hf ⟨4, .data⟩ (oa ho rfl) rfl)) (ri 19 (hf ⟨19, .data⟩ (oa ho rfl) rfl)) (ri 24 (hf ⟨24, .data⟩ (oa ho rfl) rfl)) (mkI3 _ _ _ W) (hK _ _ (below_box _ _) (slOf_new hC.size (L := [.int .i64 (cI (x.upto 5) (y.upto 5)), .int .i64 (cI (x.w0 + x.b0) (y.w0 + y.b0)), .int .i64 (cmpT x y)]) rfl))
  ·obtain ⟨g, eg, _, _, hc⟩ := hf ⟨25, .data⟩ (oa ho rfl) rfl
   exact st_call1 (og ho rfl) 71 (.tmp 30) #[132] (oo ho rfl) (ri 25 eg) (fun _ _ => rfl) (or_any g _ _ _ W (hc 0 (by simp)) (hc 1 (by simp)) (hc 2 (by simp))) (by intro u w9 h9; rw [Ending.returned.inj h9.1]; exact hK _ _ h9.2 rfl) (by rintro ch w9 h9; revert h9; rintro ⟨h9, _⟩; cases h9) (by rintro w9 h9; revert h9; rintro ⟨h9, _⟩; cases h9)
  ·exact st_assign (og ho rfl) (.tmp 31) (oo ho rfl) (ri 26 (hf ⟨26, .data⟩ (oa ho rfl) rfl)) (hK _ _ (Below.refl _ _) rfl)
 case hend =>
  intro f9 W hC hf
  have h27 : f9 27 = .int .i64 (cmpC x y) := hf 27 (by decide)
  go_wp2_with fail
  refine bodyPost_ret (results_tmp (fn := Tryz.f70) Tryz.results70 _ _ _) (by rw [putL_defers]) ?_
  refine ⟨?_, below_call hB hB.size hC⟩
  rw [slot_in rfl 27 rfl (by simp) h27]
theorem cmpClo_ok : CmpOk 70 cmpC (fun m => validB m = true) := ⟨enters_of Tryz.func70 (by kernel_rfl) rfl, fun x y hx hy W => cmpClo_any x y (Lib.hid hx) (Lib.hid hy) W⟩
end Go.Proofs.YtnpomigmeieofaaGreatDoor
