import Derived.Test.YtnpomigmeieofaaGreatDoorS30
import Derived.Maps.AppendAt
set_option maxHeartbeats 12800000
namespace Go.Proofs.YtnpomigmeieofaaGreatDoor
open Go.RowKit

theorem mkS (x : Men) (W : World) : (Instr.buildSlice 57 1 #[(0, .agg x.cs.toArray)]).run Tryz.prog W = .ok (.slice (some ⟨W.heap.size, 0, none⟩) 1 1) (W.alloc (.cells x.cs.toArray 26)) := by kernel_rfl
def proM (m : Men) (i : Nat) : Men := setW_ (setW_ m 0 (m.w0 - 1)) i ((setW_ m 0 (m.w0 - 1)).sw i + 1)
def plyL (m : Men) : Nat → List Men
 | 0 => tkL m
 | i + 1 => plyL m i ++ proM m (i + 1) :: tkL (proM m (i + 1))
def playedL (m : Men) : List Men := if 0 < m.w0 then plyL m 4 else tkL m
theorem plyL_len (m : Men) : ∀ i, (plyL m i).length ≤ 5 + 6 * i := by
 intro i
 induction i with
 | zero => exact tkL_len m
 | succ i ih => rw [plyL, List.length_append, List.length_cons]; have := tkL_len (proM m (i + 1)); omega
theorem mensV_app (L M : List Men) : mensV (L ++ M) = mensV L ++ mensV M := by simp [mensV]
theorem mensV_cons (m : Men) (L : List Men) : mensV (m :: L) = m.cs ++ mensV L := by simp [mensV]
theorem proM_bd {m : Men} (hb : mB m 50) {i : Nat} (h1 : 1 ≤ i) (h4 : i ≤ 4) (h0 : 0 < m.w0) : mB (proM m i) 100 := by
 intro k hk
 have hk' := hb k hk
 have hi := hb i (by omega)
 rcases (by omega : i = 1 ∨ i = 2 ∨ i = 3 ∨ i = 4) with rfl | rfl | rfl | rfl <;> rcases five hk with rfl | rfl | rfl | rfl | rfl <;>
  simp only [proM, setW_, Men.sw, Men.sb] at hk' hi ⊢ <;> omega
set_option maxRecDepth 100000 in
theorem played_any (m : Men) (w : World) (hb : mB m 50) : Calls Tryz.prog 120 #[.agg m.cs.toArray] w fun e w' => (∃ v, e = .returned v ∧ w'.ownsRow (w.heap.size + 1) 26 12 v (playedL m).length (mensV (playedL m))) ∧ Below w.heap.size w w' := by
 obtain ⟨i0, hi00, hz0, hz1, hz2⟩ := info_parts info26
 have hM := HasO.new w (.cells m.cs.toArray 26)
 have hB := below_box w (.cells m.cs.toArray 26)
 have htk := fun W => taken_any m W (fun k hk => by have := hb k hk; omega)
 go_enter Tryz.func120, Tryz.ntmps120
 go_upto_region 1 with fail
 show Code.wp _ _ _ _ (w.alloc (.cells m.cs.toArray 26))
 have hz1' : (w.alloc (.cells m.cs.toArray 26)).heap.size = w.heap.size + 1 := by simp
 generalize w.alloc (.cells m.cs.toArray 26) = w1 at *
 go_wp2_with (first | (refine wpList_loadO rfl 26 (.tmp 1) rfl w.heap.size _ 26 rfl hM (by kernel_rfl) ?_) | fail)
 refine (htk w1).mono ?_
 rintro e w2 ⟨⟨v, rfl, hown⟩, hb2⟩
 have hM2 := hM.call hb2
 have hB2 := below_call hB hB.size hb2
 replace hown := own_mono hown (show w.heap.size + 1 ≤ w1.heap.size by omega)
 have hs2 : w.heap.size + 1 ≤ w2.heap.size := hM2.lt
 clear hM hB hb2 htk hz1'
 by_cases hw0 : 0 < m.w0
 ·have hpl : playedL m = plyL m 4 := if_pos hw0
  replace hpl := Lib.hid hpl
  go_wp2_with fail
  go_loopg [4, 5] 5 (fun q lv iv wr => ∃ j : Nat, ∃ wz, wz = wr ∧ q + j = 5 ∧ j ≤ 4 ∧ iv = .int .i64 ((j + 1 : Nat) : Int) ∧ wr.ownsRow (w.heap.size + 1) 26 12 lv (plyL m j).length (mensV (plyL m j)) ∧ HasO wr w.heap.size (.cells m.cs.toArray 26 (0, 0)) ∧ Below w.heap.size w wr ∧ w.heap.size + 1 ≤ wr.heap.size)
  case atStart => exact ⟨0, _, rfl, rfl, by omega, rfl, hown, hM2, hB2, hs2⟩
  case round =>
   clear hown hM2 hB2 hs2
   obtain ⟨j, w3, rfl, hq, hj, rfl, hown, hM, hB, hs⟩ := hrel
   have hc1 := hM.cells 2
   by_cases hlt : j < 4
   ·obtain ⟨i, hi'⟩ : ∃ i, i = j + 1 := ⟨_, rfl⟩
    rw [← hi']
    have hi5 : (i : Int) < 5 := by omega
    have hnx : plyL m i = plyL m j ++ proM m i :: tkL (proM m i) := by rw [hi']; rfl
    have hi1 : 1 ≤ i := by omega
    have hi4 : i ≤ 4 := by omega
    have hll := plyL_len m j
    replace hi' := Lib.hid hi'
    obtain ⟨x, hx⟩ : ∃ x, x = proM m i := ⟨_, rfl⟩
    have hxb : mB x 100 := by rw [hx]; exact proM_bd hb (by omega) (by omega) hw0
    have hX := HasO.new w3 (.cells m.cs.toArray 26)
    have hbX := below_box w3 (.cells m.cs.toArray 26)
    have hM4 := hM.call hbX
    have hB4 := below_call hB hB.size hbX
    have hown4 := own_call hown hbX
    have hlo := fun q e => (hown.lt q e).2
    have hlM := hM.lt
    go_upto_region 7 with (first | (refine wpList_loadO rfl 26 (.tmp 1) rfl w.heap.size _ 26 rfl hM (by kernel_rfl) ?_) | fail)
    show Code.wp _ _ _ _ (w3.alloc (.cells m.cs.toArray 26))
    have hz4 := hbX.size
    generalize w3.alloc (.cells m.cs.toArray 26) = w4 at *
    obtain ⟨q6, hq6⟩ : ∃ q, q = w3.heap.size := ⟨_, rfl⟩
    rw [← hq6] at hX hlo hlM hs hz4 ⊢
    replace hq6 := Lib.hid hq6
    clear hM hB hbX hc1 hown
    have hcx := hX.cells 2
    have hfx := hX.frozen 2
    have hlx := hX.lt
    have hb0 := (hb 0 (by omega)).1
    have hbi := (hb i (by omega)).1
    simp only [Men.sw] at hb0
    have e1 : IntKind.i64.wrap (m.w0 - 1) = m.w0 - 1 := IntWalk.i64_in _ (by omega)
    have hX1 := hX.set_ (2 + 0) (.int .i64 (m.w0 - 1))
    rw [setW_cs m (k := 0) (by omega)] at hX1
    obtain ⟨m1, hm1⟩ : ∃ m1, m1 = setW_ m 0 (m.w0 - 1) := ⟨_, rfl⟩
    have hmi : m1.sw i = m.sw i := by rw [hm1]; rcases (by omega : i = 1 ∨ i = 2 ∨ i = 3 ∨ i = 4) with rfl | rfl | rfl | rfl <;> rfl
    rw [← hm1] at hX1
    have hX2 := hX1.set_ (2 + i) (.int .i64 (m1.sw i + 1))
    rw [setW_cs m1 (k := i) (by omega)] at hX2
    rw [show setW_ m1 i (m1.sw i + 1) = x by rw [hx, hm1]; rfl] at hX2
    have hcx1 := hX1.cells (2 + i)
    rw [show m1.cs.toArray[2 + i]? = some (.int .i64 (m1.sw i)) from by have := m1.cs_w (k := i) (by omega); simpa using this] at hcx1
    have hfx1 := hX1.frozen (2 + i)
    have e2 : IntKind.i64.wrap (m1.sw i + 1) = m1.sw i + 1 := IntWalk.i64_in _ (by omega)
    have hA : Alt q6 (q6 + 1) w4 ((w4.setCell ⟨q6, 2, none⟩ (.int .i64 (m.w0 - 1))).setCell ⟨q6, 2 + i, none⟩ (.int .i64 (m1.sw i + 1))) := (Alt.setCell (p := ⟨q6, 2, none⟩) (u := .int .i64 (m.w0 - 1)) ⟨Nat.le_refl q6, Nat.lt_succ_self q6⟩).trans (Alt.setCell (p := ⟨q6, 2 + i, none⟩) ⟨Nat.le_refl q6, Nat.lt_succ_self q6⟩)
    have hM5 := hA.hasO hM4 (.inl hlM)
    have hB5 := hA.below hB4 (by omega) hB4.size
    have hown5 := hA.own hown4 (fun q e => .inl (hlo q e))
    have hz5 := hA.size
    change HasO ((w4.setCell ⟨q6, 2, none⟩ (.int .i64 (m.w0 - 1))).setCell ⟨q6, 2 + i, none⟩ (.int .i64 (m1.sw i + 1))) q6 _ at hX2
    change (w4.setCell ⟨q6, 2, none⟩ (.int .i64 (m.w0 - 1))).cell? ⟨q6, 2 + i, none⟩ = _ at hcx1
    change (w4.setCell ⟨q6, 2, none⟩ (.int .i64 (m.w0 - 1))).frozen? ⟨q6, 2 + i, none⟩ = _ at hfx1
    clear hA hM4 hB4 hown4 hX hX1
    replace hx := Lib.hid hx
    replace hnx := Lib.hid hnx
    replace hm1 := Lib.hid hm1
    replace hmi := Lib.hid hmi
    go_upto_region 9 with fail
    show Code.wp _ _ _ _ ((w4.setCell ⟨q6, 2, none⟩ (.int .i64 (m.w0 - 1))).setCell ⟨q6, 2 + i, none⟩ (.int .i64 (m1.sw i + 1)))
    generalize (w4.setCell ⟨q6, 2, none⟩ (.int .i64 (m.w0 - 1))).setCell ⟨q6, 2 + i, none⟩ (.int .i64 (m1.sw i + 1)) = w5 at *
    clear hcx hfx hlx hcx1 hfx1 e1 e2
    have hlX := hX2.lt
    have hs5 : w.heap.size + 1 ≤ w5.heap.size := by omega
    have hlo9 := fun g e => (hown5.lt g e).1
    refine wp_region_rel0 (by kernel_rfl) (by kernel_rfl) [some 34, some 35, some 36, some 37, some 38, some 39, some 40, some 41, some 4] (by rfl) (by rfl) (plR w5 (w.heap.size + 1) u4 (plyL m j).length (mensV (plyL m j)) x (tkL x)) ?hcong ?h0 ?hstep ?hend
    case hcong =>
     intro S S' f W h hR
     unfold plR at hR ⊢
     rw [← h 0 (by decide), ← h 1 (by decide), ← h 2 (by decide), ← h 3 (by decide), ← h 4 (by decide), ← h 5 (by decide), ← h 6 (by decide), ← h 7 (by decide), ← h 8 (by decide)]
     exact hR
    case h0 =>
     exact ⟨⟨rfl, rfl, rfl, Nat.le_refl _, fun _ _ _ => rfl⟩, (fun h => by cases h), (fun h => by cases h), (fun h => by cases h), (fun h => by cases h), fun _ => ⟨hown5.drew, (fun h => by cases h)⟩, fun _ => ⟨(fun h => by cases h), (fun h => by cases h)⟩, (fun h => by cases h), fun _ => rfl⟩
    case hstep =>
     intro S i9 o9 f9 W ho hi hSj hpre hcl hR K hK
     have hi : i9 < 9 := hi
     obtain ⟨hC, h0, h1, h4, h5, h3, h7, h8, hv⟩ := id hR
     have hX6 : HasO W q6 (.cells x.cs.toArray 26 (0, 0)) := hX2.grown hC (fun e => by have := hlo _ e; omega)
     have no7 : ∀ j, S j = false → (j = 3 ∨ j = 6) → S 7 = false := by
      intro j hj hjj
      rcases h : S 7 with _ | _
      ·rfl
      ·rcases hjj with rfl | rfl
       ·have := hcl 7 _ h rfl ⟨3, .data⟩ (by simp) rfl
        rw [hj] at this; cases this
       ·have := hcl 7 _ h rfl ⟨6, .data⟩ (by simp) rfl
        rw [hj] at this; cases this
     have no3 : S 2 = false → S 3 = false := by
      intro hj
      rcases h : S 3 with _ | _
      ·rfl
      ·have := hcl 3 _ h rfl ⟨2, .data⟩ (by simp) rfl
       rw [hj] at this; cases this
     rcases i9 with _ | _ | _ | _ | _ | _ | _ | _ | _ | i9
     ·have s8 : S 8 = false := by
       rcases h : S 8 with _ | _
       ·rfl
       ·have := hcl 8 _ h rfl ⟨0, .phase⟩ (by simp) rfl
        rw [hSj] at this; cases this
      exact st_move (og ho) (.tmp 4) (oo ho) (ri 8 (hv s8)) (hK _ _ ⟨hC, fun _ => rfl, h1, h4, h5, h3, h7, h8, hv⟩)
     ·exact st_loadA (og ho) 26 (.tmp 6) (oo ho) (rd_out rfl rfl) x.cs (by kernel_rfl) (fun j v hv => by rw [Nat.zero_add, hX6.cells j]; simpa using hv) (hK _ _ ⟨hC, h0, fun _ => rfl, h4, h5, h3, h7, h8, hv⟩)
     ·have s3 := no3 hSj
      refine st_buildSlice1 (og ho) 57 (.tmp 35) (oo ho) (ri 1 (h1 (da ho hpre 1))) (mkS x W) (hK _ _ ?_)
      obtain ⟨hC', h0', h1', h4', h5', h3', h7', h8', hv'⟩ := plR_low hR (below_box W (.cells x.cs.toArray 26))
      exact ⟨hC', h0', h1', h4', h5', fun h => ⟨(h3' s3).1, fun _ => ⟨W.heap.size, rfl, HasO.new _ _⟩⟩, h7', h8', hv'⟩
     ·have s7 := no7 3 hSj (.inl rfl)
      obtain ⟨g1, g2⟩ := h3 hSj
      obtain ⟨q, e2, hq⟩ := g2 (da ho hpre 2)
      refine st_append (og ho) (.tmp 34) (.tmp 36) 57 (oo ho) (w.heap.size + 1) 26 i0 _ 12 96 Tryz.underlying57 hi00 hz0 hz1 hz2 rfl (by decide) u4 (plyL m j).length (mensV (plyL m j)) (ri 0 (h0 (da ho hpre 0))) g1 ⟨q, 0, none⟩ 1 1 x.cs (ri 2 e2) rfl (fun jj u hu => by rw [Addr.add_lit, Nat.zero_add, hq.cells jj]; simpa using hu) (men_one26 x) (by omega) (Nat.le_trans hs5 hC.size) ?_
      intro v' w' o1 o2 o3
      refine hK _ _ ⟨hC.trans o2, h0, h1, h4, h5, (fun h => by cases h), fun _ => ⟨fun _ => ⟨o1, fun g e => ?_⟩, fun s6 => ?_⟩, fun h => ?_, hv⟩
      ·rcases o3 with e3 | e3
       ·left; rw [← e3]; exact e.symm
       ·right; have e4 : v'.ownBlock = some g := e; rw [e3] at e4; injection e4 with e4; rw [← e4]; exact hC.size
      ·have h6 := (h7 s7).2 s6
       exact h6.kept o2 (by rcases hb6 : (f9 6).ownBlock with _ | g6; exact .inl rfl; right; intro e; have := hlo g6 e.symm; have := (h6.lt g6 hb6).1; omega)
      ·have h : S 7 = true := h
       rw [s7] at h; cases h
     ·exact st_move (og ho) (.tmp 3) (oo ho) (rd_out rfl rfl) (hK _ _ ⟨hC, h0, h1, fun _ => rfl, h5, h3, h7, h8, hv⟩)
     ·exact st_loadA (og ho) 26 (.tmp 6) (oo ho) (rd_out rfl rfl) x.cs (by kernel_rfl) (fun j v hv => by rw [Nat.zero_add, hX6.cells j]; simpa using hv) (hK _ _ ⟨hC, h0, h1, h4, fun _ => rfl, h3, h7, h8, hv⟩)
     ·have s7 := no7 6 hSj (.inr rfl)
      refine st_callV1 (og ho) 152 (.tmp 38) (.tmp 39) #[26] (oo ho) (ri 4 (h4 (da ho hpre 4))) (ri 5 (h5 (da ho hpre 5))) (fun _ _ => rfl) (taken_any x W hxb) ?_ (by rintro ch w9 ⟨⟨_, h9, _⟩, _⟩; cases h9) (by rintro w9 ⟨⟨_, h9, _⟩, _⟩; cases h9)
      rintro u w9 ⟨⟨v9, h9, hown9⟩, hb9⟩
      rw [Ending.returned.inj h9]
      obtain ⟨hC', h0', h1', h4', h5', h3', h7', h8', hv'⟩ := plR_low hR hb9
      exact hK _ _ ⟨hC', h0', h1', h4', h5', h3', fun _ => ⟨(h7' s7).1, fun _ => own_mono hown9 hC.size⟩, (fun h => by have h : S 7 = true := h; rw [s7] at h; cases h), hv'⟩
     ·obtain ⟨g3, g6⟩ := h7 hSj
      obtain ⟨o3, o3b⟩ := g3 (da ho hpre 3)
      have o6 := g6 (da ho hpre 6)
      have hkl := tkL_len x
      refine st_appendOO (og ho) (.tmp 37) (.tmp 40) 57 (oo ho) (w.heap.size + 1) 26 i0 _ 12 96 Tryz.underlying57 hi00 hz0 hz1 hz2 rfl (by decide) (ri 3 rfl) o3 (ri 6 rfl) o6 (mensV_one _) (by omega) (Nat.le_trans hs5 hC.size) ?_
      intro v' w' p1 p2 p3
      refine hK _ _ ⟨⟨p2.os.trans hC.os, p2.tape.trans hC.tape, p2.output.trans hC.output, Nat.le_trans hC.size p2.size, fun k hk hne => ?_⟩, h0, h1, h4, h5, ?_, (fun h => by cases h), fun _ => ⟨p1, fun s8 => ?_⟩, hv⟩
      ·rw [p2.block k (Nat.lt_of_lt_of_le hk hC.size) (fun e => by rcases o3b k e.symm with h | h; exact hne h; omega)]; exact hC.block k hk hne
      ·intro h
       have h : S 3 = false := h
       rw [(da ho hpre 3)] at h; cases h
      ·have s8 : S 8 = true := s8
       have := hcl 8 _ s8 rfl ⟨7, .data⟩ (by simp) rfl
       rw [hSj] at this; cases this
     ·have s7 := (da ho hpre 7)
      exact st_assign (og ho) (.tmp 41) (oo ho) (ri 7 rfl) (hK _ _ ⟨hC, h0, h1, h4, h5, h3, h7, fun _ => ⟨(h8 s7).1, fun _ => rfl⟩, (fun h => by cases h)⟩)
     ·omega
    case hend =>
     intro S f9 W hS hR
     obtain ⟨hC, _, _, _, _, _, _, h8, _⟩ := hR
     obtain ⟨o7, e8⟩ := h8 (hS 7 (by decide))
     have e8 := e8 (hS 8 (by decide))
     have hM9 := hM5.grown hC (fun e => by have := hlo9 _ e; omega)
     have hB9 := hB5.grown hC hB5.size (fun g e => by have := hlo9 g e; omega)
     have hz9 := hC.size
     simp only [putL, Act.put, List.setIfInBounds_toArray, List.set_cons_succ, List.set_cons_zero]
     rw [e8]
     generalize f9 7 = v9 at *
     generalize f9 0 = u34, f9 1 = u35, f9 2 = u36, f9 3 = u37, f9 4 = u38, f9 5 = u39, f9 6 = u40
     clear hS h8 e8 hC hown5 hM5 hB5 hX2
     replace o7 : W.ownsRow (w.heap.size + 1) 26 12 v9 (plyL m i).length (mensV (plyL m i)) := by
      rw [hnx.out, mensV_app, mensV_cons, ← hx.out, List.length_append, List.length_cons, ← List.append_assoc, show (plyL m j).length + ((tkL x).length + 1) = (plyL m j).length + 1 + (tkL x).length by omega]
      exact o7
     go_wp2_with fail
     go_roundg (gk - 1)
     case measure => omega
     case rel => exact ⟨i, _, rfl, by have := hi'.out; omega, by omega, by go_num, o7, hM9, hB9, by omega⟩
   ·have hi5 : ¬ ((j + 1 : Nat) : Int) < 5 := by omega
    obtain rfl : j = 4 := by omega
    go_wp2_with fail
    go_ret
    exact ⟨⟨_, rfl, by rw [hpl.out]; exact hown⟩, hB⟩
 ·have hpl : playedL m = tkL m := if_neg hw0
  replace hpl := Lib.hid hpl
  have hc1 := hM2.cells 2
  go_wp2_with fail
  go_loopg [4, 5] 1 (fun q lv iv wr => q = 1 ∧ lv = v ∧ iv = .int .i64 1 ∧ w2 = wr)
  case atStart => exact ⟨rfl, rfl, rfl, rfl⟩
  case round =>
   obtain ⟨_, rfl, rfl, rfl⟩ := hrel
   go_wp2_with fail
   go_ret
   exact ⟨⟨_, rfl, by rw [hpl.out]; exact hown⟩, hB2⟩
theorem run_storeVar_at {P : Program} (w : World) (g o : Nat) (t ty : TypeId) (cur : Array Value) (cells : List Value) (hg : w.heap[g]? = some (.cells cur t (0, 0))) (hi : (P.info? ty).map (·.size) = some cells.length)
  (hl : o + cells.length ≤ cur.size) (h1 : ∀ u ∈ cells, u.oneCell' = true) :
  (storeVar ty ⟨g, o, none⟩ (.agg cells.toArray)).run P w = .ok () (w.setRow g (cur.toList.take o ++ cells ++ cur.toList.drop (o + cells.length)).toArray) := by
 have := run_storeCells_at (P := P) g o t cells 0 cur w hg (by omega) h1
 cases hq : P.info? ty with
 | none => simp [hq] at hi
 | some i =>
  have hs : cells.length = i.size := by simp [hq] at hi; omega
  simp [storeVar, sizeOf, typeInfo, hq, Value.cells, hs] at this ⊢
  rw [this]
section ops
variable {P : Program} {o : Oper} {a : Act} {w : World} {K : Act → World → Prop} {Q : Exit → Act → World → Prop} {t : Nat → Option Bool} {X : Prop}
end ops
theorem mensV_take : ∀ (L : List Men) (j : Nat), mensV (L.take j) = (mensV L).take (j * 12) := by
 intro L
 induction L with
 | nil => intro j; simp [mensV]
 | cons m L ih =>
  intro j
  rcases j with _ | j
  ·simp [mensV]
  ·rw [List.take_succ_cons, mensV_cons, mensV_cons, ih, List.take_append, List.take_of_length_le (l := m.cs) (by show 12 ≤ _; omega), show (j + 1) * 12 - m.cs.length = j * 12 by show _ - 12 = _; omega]
theorem mensV_drop : ∀ (L : List Men) (j : Nat), mensV (L.drop j) = (mensV L).drop (j * 12) := by
 intro L
 induction L with
 | nil => intro j; simp [mensV]
 | cons m L ih =>
  intro j
  rcases j with _ | j
  ·simp
  ·rw [List.drop_succ_cons, mensV_cons, ih, List.drop_append, List.drop_of_length_le (l := m.cs) (by show 12 ≤ _; omega), show (j + 1) * 12 - m.cs.length = j * 12 by show _ - 12 = _; omega, List.nil_append]
theorem mensV_set (L : List Men) {j : Nat} (hj : j < L.length) (x : Men) : mensV (L.set j x) = (mensV L).take (j * 12) ++ x.cs ++ (mensV L).drop (j * 12 + 12) := by
 rw [List.set_eq_take_append_cons_drop, if_pos hj, mensV_app, mensV_cons, mensV_take, mensV_drop, List.append_assoc, show (j + 1) * 12 = j * 12 + 12 by omega]
theorem own_putM {W : World} {base g n cap : Nat} {L : List Men} (h : W.ownsRow base 26 12 (.slice (some ⟨g, 0, none⟩) n cap) n (mensV L)) (hn : n = L.length) {j : Nat} (hj : j < L.length) (x : Men) :
  ∃ cur : Array Value, HasO W g (.cells cur 26 (0, 0)) ∧ j * 12 + x.cs.length ≤ cur.size ∧ (W.setRow g (cur.toList.take (j * 12) ++ x.cs ++ cur.toList.drop (j * 12 + x.cs.length)).toArray).ownsRow base 26 12 (.slice (some ⟨g, 0, none⟩) n cap) n (mensV (L.set j x)) := by
 rcases h.2 with ⟨h', _⟩ | ⟨g', cap', cur, h', hb, hg, hnc, hcm, hcs, htake⟩
 ·simp at h'
 ·simp only [Value.slice.injEq, Option.some.injEq, Addr.mk.injEq, and_true, true_and] at h'
  obtain ⟨rfl, rfl⟩ := h'
  have h12 : x.cs.length = 12 := rfl
  have hsz : j * 12 + 12 ≤ n * 12 := by omega
  have hcz : n * 12 ≤ cur.size := by rw [hcs]; exact Nat.mul_le_mul_right 12 hnc
  refine ⟨cur, hg, by omega, ⟨by rw [mensV_len, List.length_set, hn], .inr ⟨g, cap, _, rfl, hb, setRow_hasO hg, hnc, hcm, ?_, ?_⟩⟩⟩
  ·simp; omega
  ·rw [mensV_set L hj, ← htake, h12]
   have e1 : (cur.toList.take (n * 12)).take (j * 12) = cur.toList.take (j * 12) := by rw [List.take_take, Nat.min_eq_left (by omega)]
   rw [e1, List.drop_take]
   have l1 : (cur.toList.take (j * 12) ++ x.cs).length = j * 12 + 12 := by
    rw [List.length_append, List.length_take, Array.length_toList, h12]; omega
   show ((cur.toList.take (j * 12) ++ x.cs) ++ cur.toList.drop (j * 12 + 12)).take (n * 12) = _
   rw [List.take_append, l1, List.take_of_length_le (by omega)]
theorem bin_lssE {x y : Int} {d : Bool} {W : World} (h : decide (x < y) = d) : (binOp .lss 3 (.int .i64 x) (.int .i64 y)).run Tryz.prog W = .ok (.bool d) W := by rw [bin_lss, h]
theorem index57 (W : World) (g N cap k : Nat) (hk : k < N) : (Instr.indexAt 57 (.slice (some ⟨g, 0, none⟩) N cap) (.int .i64 k)).run Tryz.prog W = .ok (.pointer (some ⟨g, k * 12, none⟩)) W := by
 simp [Instr.indexAt, go_sem, run_underlying Tryz.underlying57, hk]
theorem own_at {W : World} {base g n cap : Nat} {L : List Men} (h : W.ownsRow base 26 12 (.slice (some ⟨g, 0, none⟩) n cap) n (mensV L)) {j : Nat} (hj : j < n) {i : Nat} {v : Value} (hv : (L[j]?.getD zeroMen).cs[i]? = some v) : W.cell? ⟨g, j * 12 + i, none⟩ = some v := by
 have hn : n = L.length := by have := h.1; rw [mensV_len] at this; omega
 have hi : i < 12 := (List.getElem?_eq_some_iff.1 hv).1
 rw [h.cellAt _ (by omega)]
 exact mensV_get L j i v (by omega) hv
theorem setRow_grown (W : World) (g : Nat) (cs : Array Value) : W.grownBy (W.setRow g cs) (some g) := by
 have h := setRow_alt W g cs
 exact ⟨h.os, h.tape, h.output, h.size, fun k hk hne => h.block k hk (by have : k ≠ g := fun e => hne (by rw [e]); omega)⟩
section
variable {w5 : World} {base g n cap : Nat} {M : List Men} {j : Nat} {x y : Men} {vv : Nat → Value} {S : Nat → Bool} {f : Nat → Value} {W : World}
end
def CmpOk (fn : Nat) (cf : Men → Men → Int) (V : Men → Prop) : Prop :=
 (∀ args w, (callFunc fn args).run Tryz.prog w = .ok (.enter fn args) w) ∧
 ∀ x y, V x → V y → ∀ W, Calls Tryz.prog fn #[.agg x.cs.toArray, .agg y.cs.toArray] W fun e w' => e = .returned (.int .i64 (cf x y)) ∧ Below W.heap.size W w'
set_option maxRecDepth 100000 in
theorem insSort_nil (fn : Nat) (w : World) : Calls Tryz.prog 154 #[.slice none 0 0, .int .i64 0, .int .i64 0, .func (.func fn) #[] #[]] w fun e w' => e = .returned (.tuple #[]) ∧ w = w' := by
 go_enter Tryz.func154, Tryz.ntmps154
 go_wp2_with fail
 go_loopg [8] 1 (fun q iv wr => q = 1 ∧ iv = .int .i64 1 ∧ w = wr)
 case atStart => exact ⟨rfl, rfl, rfl⟩
 case round =>
  obtain ⟨_, rfl, rfl⟩ := hrel
  go_wp2_with fail
  go_end0
  exact ⟨rfl, rfl⟩
def cmpT (x y : Men) : Int := Lib.compareBytes (textL x) (textL y)
set_option maxRecDepth 100000 in
theorem cmpText_any (x y : Men) (hx : Hid (validB x = true)) (hy : Hid (validB y = true)) (w : World) : Calls Tryz.prog 121 #[.agg x.cs.toArray, .agg y.cs.toArray] w fun e w' => e = .returned (.int .i64 (cmpT x y)) ∧ Below w.heap.size w w' := by
 have hX := (HasO.new w (.cells x.cs.toArray 26)).alloc (.cells y.cs.toArray 26)
 have hY := HasO.new' (w.alloc (.cells x.cs.toArray 26)) (.cells y.cs.toArray 26) (q := w.heap.size + 1) (by simp)
 have hB := (below_box w (.cells x.cs.toArray 26)).alloc (by simp) (.cells y.cs.toArray 26)
 go_enter Tryz.func121, Tryz.ntmps121
 go_wp2_with fail
 show Code.wp _ _ _ _ ((w.alloc (.cells x.cs.toArray 26)).alloc (.cells y.cs.toArray 26))
 generalize (w.alloc (.cells x.cs.toArray 26)).alloc (.cells y.cs.toArray 26) = w1 at *
 refine wp_region_valsL (by kernel_rfl) (by kernel_rfl) [some 5, some 6, some 7, some 8, some 9, some 4] (by rfl) (by rfl) (fun i8 => match i8 with | 0 => .agg x.cs.toArray | 1 => .string (str (textL x)) | 2 => .agg y.cs.toArray | 3 => .string (str (textL y)) | 4 => .int .i64 (cmpT x y) | 5 => .int .i64 (cmpT x y) | _ => undef) (fun W => Below w1.heap.size w1 W) ((Below.refl _ _).drew) ?hstep ?hend
 case hstep =>
  intro i9 o9 f9 W ho hi hC hf K hK
  have hi : i9 < 6 := hi
  rcases i9 with _ | _ | _ | _ | _ | _ | i9
  ·exact st_loadA (og ho) 26 (.tmp 2) (oo ho) (rd_out rfl rfl) x.cs (by kernel_rfl) (fun j v hv => by rw [Nat.zero_add, (hX.call hC).cells j]; simpa using hv) (hK _ hC)
  ·exact st_call1 (og ho) 36 (.tmp 5) #[26] (oo ho) (ri 0 (da ho hf 0)) (fun _ _ => rfl) (text_any x W hx) (by (intro u w9 h9; rw [Ending.returned.inj h9.1]; exact hK _ (below_call hC hC.size h9.2))) (fun _ _ h => nomatch h.1) (fun _ h => nomatch h.1)
  ·exact st_loadA (og ho) 26 (.tmp 3) (oo ho) (rd_out rfl rfl) y.cs (by kernel_rfl) (fun j v hv => by rw [Nat.zero_add, (hY.call hC).cells j]; simpa using hv) (hK _ hC)
  ·exact st_call1 (og ho) 36 (.tmp 7) #[26] (oo ho) (ri 2 (da ho hf 2)) (fun _ _ => rfl) (text_any y W hy) (by (intro u w9 h9; rw [Ending.returned.inj h9.1]; exact hK _ (below_call hC hC.size h9.2))) (fun _ _ h => nomatch h.1) (fun _ h => nomatch h.1)
  ·exact st_call2 (og ho) 73 (.tmp 6) (.tmp 8) #[9, 9] (oo ho) (ri 1 (da ho hf 1)) (ri 3 (da ho hf 3)) (fun _ _ => rfl) (Tryz.strings_Compare (str (textL x)) (str (textL y)) W) (by (intro u w9 h9; rw [Ending.returned.inj h9.1, h9.2]; exact hK _ hC)) (fun _ _ h => nomatch h.1) (fun _ h => nomatch h.1)
  ·exact st_assign (og ho) (.tmp 9) (oo ho) (ri 4 (da ho hf 4)) (hK _ hC)
  ·omega
 case hend =>
  intro W hC
  go_wp2_with fail
  refine bodyPost_ret (results_tmp (fn := Tryz.f121) Tryz.results121 _ _ _) (by rw [putL_defers]) ?_
  refine ⟨?_, below_call hB hB.size hC⟩
  rw [slot_in rfl 5 rfl (by simp) rfl]
  rfl
theorem cmpText_ok : CmpOk 121 cmpT (fun m => validB m = true) := ⟨enters_of Tryz.func121 (by kernel_rfl) rfl, fun x y hx hy W => cmpText_any x y (Lib.hid hx) (Lib.hid hy) W⟩
theorem Tryz.has3 : (Tryz.prog.info? 3).isSome = true := by kernel_rfl
theorem Tryz.cells3 : Tryz.prog.cellsOf 3 = 1 := by kernel_rfl
theorem five_eq (d : Nat) (a0 a1 a2 a3 a4 b0 b1 b2 b3 b4 : Int) (W : World) : (Op.equalIn (d + 2) 24 (.agg #[.int .i64 a0, .int .i64 a1, .int .i64 a2, .int .i64 a3, .int .i64 a4]) (.agg #[.int .i64 b0, .int .i64 b1, .int .i64 b2, .int .i64 b3, .int .i64 b4])).run Tryz.prog W = .ok (a0 == b0 && (a1 == b1 && (a2 == b2 && (a3 == b3 && a4 == b4)))) W := by
 obtain ⟨i, hi⟩ := Option.isSome_iff_exists.1 Tryz.has3
 rw [run_equalIn_array W (d + 1) _ _ Tryz.underlying24 hi, Tryz.cells3]
 rw [show List.range 5 = [0, 1, 2, 3, 4] from rfl]
 simp only [Op.eqItems, go_sem]
 simp [go_sem]
 by_cases h0 : a0 = b0 <;> by_cases h1 : a1 = b1 <;> by_cases h2 : a2 = b2 <;> by_cases h3 : a3 = b3 <;> by_cases h4 : a4 = b4 <;> simp [h0, h1, h2, h3, h4]
theorem men_eqs (m m' : Men) (W : World) : (Op.equalIn 10000 26 (.agg m.cs.toArray) (.agg m'.cs.toArray)).run Tryz.prog W = .ok (decide (m = m')) W := by
 have e := fun a0 a1 a2 a3 a4 b0 b1 b2 b3 b4 => five_eq 9997 a0 a1 a2 a3 a4 b0 b1 b2 b3 b4 W
 simp [go_sem, e]
 obtain ⟨f, r, w0, w1, w2, w3, w4, b0, b1, b2, b3, b4⟩ := m
 obtain ⟨f', r', w0', w1', w2', w3', w4', b0', b1', b2', b3', b4'⟩ := m'
 simp only [Men.mk.injEq]
 by_cases h0 : f = f' <;> by_cases h1 : r = r' <;> simp [h0, h1]
 clear e
 by_cases h2 : w0 = w0' <;> by_cases h3 : w1 = w1' <;> by_cases h4 : w2 = w2' <;> by_cases h5 : w3 = w3' <;> by_cases h6 : w4 = w4' <;> simp [h2, h3, h4, h5, h6]
 by_cases g2 : b0 = b0' <;> by_cases g3 : b1 = b1' <;> by_cases g4 : b2 = b2' <;> by_cases g5 : b3 = b3' <;> by_cases g6 : b4 = b4' <;> simp [g2, g3, g4, g5, g6]
theorem men_neq (m m' : Men) (W : World) : (binOp .neq 26 (.agg m.cs.toArray) (.agg m'.cs.toArray)).run Tryz.prog W = .ok (.bool (!decide (m = m'))) W := by
 rw [run_neq_struct, men_eqs]; rfl
theorem men_eql (m m' : Men) (W : World) : (binOp .eql 26 (.agg m.cs.toArray) (.agg m'.cs.toArray)).run Tryz.prog W = .ok (.bool (decide (m = m'))) W := by
 rw [run_eql_struct, men_eqs]; rfl
theorem men_guard (op : BinOp) (x y : Operand) (xs ys : Array Value) (W : World) : (eqGuard op 26 x y (.agg xs) (.agg ys)).run Tryz.prog W = .ok () W := run_eqGuard_agg _ op 26 x y xs ys (by kernel_rfl)
def nextL (m : Men) : List Men := playedL m ++ (playedL (flipM m)).map flipM
theorem MArr.grown {w w' : World} {p : Option Addr} {L : List Men} {row : Option Nat} (h : MArr w p L) (hg : w.grownBy w' row) (hne : ∀ g, p = some ⟨g, 0, none⟩ → row ≠ some g) : MArr w' p L := by
 rcases h with h | ⟨g, rfl, hl, hc⟩
 ·exact .inl h
 ·exact .inr ⟨g, rfl, Nat.lt_of_lt_of_le hl hg.size, fun j hj i v hv => hg.cell (a := ⟨g, j * 12 + i, none⟩) (hc j hj i v hv) (fun e => hne g rfl e.symm)⟩
theorem playedL_len (m : Men) : (playedL m).length ≤ 29 := by
 unfold playedL
 split
 ·exact plyL_len m 4
 ·have := tkL_len m; omega
end Go.Proofs.YtnpomigmeieofaaGreatDoor
