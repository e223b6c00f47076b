import Derived.Test.YtnpomigmeieofaaGreatDoorI29
namespace Go.Proofs.YtnpomigmeieofaaGreatDoor
open Go.RowKit

theorem mkS (x : Men) (W : World) : (Instr.buildSlice 57 1 #[(0, .agg x.cs.toArray)]).run Tryz.prog W = .ok (.slice (some ⟨W.heap.size, 0, none⟩) 1 1) (W.alloc (.cells x.cs.toArray 26)) := by kernel_rfl
def proM (m : Men) (i : Nat) : Men := setW_ (setW_ m 0 (m.w0 - 1)) i ((setW_ m 0 (m.w0 - 1)).sw i + 1)
def plyL (m : Men) : Nat → List Men
 | 0 => tkL m
 | i + 1 => plyL m i ++ proM m (i + 1) :: tkL (proM m (i + 1))
def playedL (m : Men) : List Men := if 0 < m.w0 then plyL m 4 else tkL m
theorem plyL_len (m : Men) : ∀ i, (plyL m i).length ≤ 5 + 6 * i := by
 intro i
 induction i with
 | zero => exact tkL_len m
 | succ i ih => rw [plyL, List.length_append, List.length_cons]; have := tkL_len (proM m (i + 1)); omega
theorem mensV_app (L M : List Men) : mensV (L ++ M) = mensV L ++ mensV M := by simp [mensV]
theorem mensV_cons (m : Men) (L : List Men) : mensV (m :: L) = m.cs ++ mensV L := by simp [mensV]
theorem proM_bd {m : Men} (hb : mB m 50) {i : Nat} (h1 : 1 ≤ i) (h4 : i ≤ 4) (h0 : 0 < m.w0) : mB (proM m i) 100 := by
 intro k hk
 have hk' := hb k hk
 have hi := hb i (by omega)
 rcases (by omega : i = 1 ∨ i = 2 ∨ i = 3 ∨ i = 4) with rfl | rfl | rfl | rfl <;> rcases five hk with rfl | rfl | rfl | rfl | rfl <;>
  simp only [proM, setW_, Men.sw, Men.sb] at hk' hi ⊢ <;> omega
set_option maxRecDepth 100000 in
set_option maxHeartbeats 6400000 in
theorem played_any (m : Men) (w : World) (hb : mB m 50) : Calls Tryz.prog 120 #[.agg m.cs.toArray] w fun e w' => (∃ v, e = .returned v ∧ w'.ownsRow (w.heap.size + 1) 26 12 v (playedL m).length (mensV (playedL m))) ∧ Below w.heap.size w w' := by
 obtain ⟨i0, hi00, hz0, hz1, hz2⟩ := info_parts info26
 have hM := HasO.new w (.cells m.cs.toArray 26)
 have hB := below_box w (.cells m.cs.toArray 26)
 have htk := fun W => taken_any m W (fun k hk => by have := hb k hk; omega)
 go_enter Tryz.func120, Tryz.ntmps120
 go_upto_region 1 with fail
 show Code.wp _ _ _ _ (w.alloc (.cells m.cs.toArray 26))
 have hz1' : (w.alloc (.cells m.cs.toArray 26)).heap.size = w.heap.size + 1 := by simp
 generalize w.alloc (.cells m.cs.toArray 26) = w1 at *
 go_wp2_with (first | (refine wpList_loadO rfl 26 (.tmp 1) rfl w.heap.size _ 26 rfl hM (by kernel_rfl) ?_) | fail)
 refine (htk w1).mono ?_
 rintro e w2 ⟨⟨v, rfl, hown⟩, hb2⟩
 have hM2 := hM.call hb2
 have hB2 := below_call hB hB.size hb2
 replace hown := own_mono hown (show w.heap.size + 1 ≤ w1.heap.size by omega)
 have hs2 : w.heap.size + 1 ≤ w2.heap.size := hM2.lt
 clear hM hB hb2 htk hz1'
 by_cases hw0 : 0 < m.w0
 ·have hpl : playedL m = plyL m 4 := if_pos hw0
  replace hpl := Lib.hid hpl
  go_wp2_with fail
  go_loopg [4, 5] 5 (fun q lv iv wr => ∃ j : Nat, ∃ wz, wz = wr ∧ q + j = 5 ∧ j ≤ 4 ∧ iv = .int .i64 ((j + 1 : Nat) : Int) ∧ wr.ownsRow (w.heap.size + 1) 26 12 lv (plyL m j).length (mensV (plyL m j)) ∧ HasO wr w.heap.size (.cells m.cs.toArray 26 (0, 0)) ∧ Below w.heap.size w wr ∧ w.heap.size + 1 ≤ wr.heap.size)
  case atStart => exact ⟨0, _, rfl, rfl, by omega, rfl, hown, hM2, hB2, hs2⟩
  case round =>
   clear hown hM2 hB2 hs2
   obtain ⟨j, w3, rfl, hq, hj, rfl, hown, hM, hB, hs⟩ := hrel
   have hc1 := hM.cells 2
   by_cases hlt : j < 4
   ·obtain ⟨i, hi'⟩ : ∃ i, i = j + 1 := ⟨_, rfl⟩
    rw [← hi']
    have hi5 : (i : Int) < 5 := by omega
    have hnx : plyL m i = plyL m j ++ proM m i :: tkL (proM m i) := by rw [hi']; rfl
    have hi1 : 1 ≤ i := by omega
    have hi4 : i ≤ 4 := by omega
    have hll := plyL_len m j
    replace hi' := Lib.hid hi'
    obtain ⟨x, hx⟩ : ∃ x, x = proM m i := ⟨_, rfl⟩
    have hxb : mB x 100 := by rw [hx]; exact proM_bd hb (by omega) (by omega) hw0
    have hX := HasO.new w3 (.cells m.cs.toArray 26)
    have hbX := below_box w3 (.cells m.cs.toArray 26)
    have hM4 := hM.call hbX
    have hB4 := below_call hB hB.size hbX
    have hown4 := own_call hown hbX
    have hlo := fun q e => (hown.lt q e).2
    have hlM := hM.lt
    go_upto_region 7 with (first | (refine wpList_loadO rfl 26 (.tmp 1) rfl w.heap.size _ 26 rfl hM (by kernel_rfl) ?_) | fail)
    show Code.wp _ _ _ _ (w3.alloc (.cells m.cs.toArray 26))
    have hz4 := hbX.size
    generalize w3.alloc (.cells m.cs.toArray 26) = w4 at *
    obtain ⟨q6, hq6⟩ : ∃ q, q = w3.heap.size := ⟨_, rfl⟩
    rw [← hq6] at hX hlo hlM hs hz4 ⊢
    replace hq6 := Lib.hid hq6
    clear hM hB hbX hc1 hown
    have hcx := hX.cells 2
    have hfx := hX.frozen 2
    have hlx := hX.lt
    have hb0 := (hb 0 (by omega)).1
    have hbi := (hb i (by omega)).1
    simp only [Men.sw] at hb0
    have e1 : IntKind.i64.wrap (m.w0 - 1) = m.w0 - 1 := IntWalk.i64_in _ (by omega)
    have hX1 := hX.set_ (2 + 0) (.int .i64 (m.w0 - 1))
    rw [setW_cs m (k := 0) (by omega)] at hX1
    obtain ⟨m1, hm1⟩ : ∃ m1, m1 = setW_ m 0 (m.w0 - 1) := ⟨_, rfl⟩
    have hmi : m1.sw i = m.sw i := by rw [hm1]; rcases (by omega : i = 1 ∨ i = 2 ∨ i = 3 ∨ i = 4) with rfl | rfl | rfl | rfl <;> rfl
    rw [← hm1] at hX1
    have hX2 := hX1.set_ (2 + i) (.int .i64 (m1.sw i + 1))
    rw [setW_cs m1 (k := i) (by omega)] at hX2
    rw [show setW_ m1 i (m1.sw i + 1) = x by rw [hx, hm1]; rfl] at hX2
    have hcx1 := hX1.cells (2 + i)
    rw [show m1.cs.toArray[2 + i]? = some (.int .i64 (m1.sw i)) from by have := m1.cs_w (k := i) (by omega); simpa using this] at hcx1
    have hfx1 := hX1.frozen (2 + i)
    have e2 : IntKind.i64.wrap (m1.sw i + 1) = m1.sw i + 1 := IntWalk.i64_in _ (by omega)
    have hA : Alt q6 (q6 + 1) w4 ((w4.setCell ⟨q6, 2, none⟩ (.int .i64 (m.w0 - 1))).setCell ⟨q6, 2 + i, none⟩ (.int .i64 (m1.sw i + 1))) := (Alt.setCell (p := ⟨q6, 2, none⟩) (u := .int .i64 (m.w0 - 1)) ⟨Nat.le_refl q6, Nat.lt_succ_self q6⟩).trans (Alt.setCell (p := ⟨q6, 2 + i, none⟩) ⟨Nat.le_refl q6, Nat.lt_succ_self q6⟩)
    have hM5 := hA.hasO hM4 (.inl hlM)
    have hB5 := hA.below hB4 (by omega) hB4.size
    have hown5 := hA.own hown4 (fun q e => .inl (hlo q e))
    have hz5 := hA.size
    change HasO ((w4.setCell ⟨q6, 2, none⟩ (.int .i64 (m.w0 - 1))).setCell ⟨q6, 2 + i, none⟩ (.int .i64 (m1.sw i + 1))) q6 _ at hX2
    change (w4.setCell ⟨q6, 2, none⟩ (.int .i64 (m.w0 - 1))).cell? ⟨q6, 2 + i, none⟩ = _ at hcx1
    change (w4.setCell ⟨q6, 2, none⟩ (.int .i64 (m.w0 - 1))).frozen? ⟨q6, 2 + i, none⟩ = _ at hfx1
    clear hA hM4 hB4 hown4 hX hX1
    replace hx := Lib.hid hx
    replace hnx := Lib.hid hnx
    replace hm1 := Lib.hid hm1
    replace hmi := Lib.hid hmi
    go_upto_region 9 with fail
    show Code.wp _ _ _ _ ((w4.setCell ⟨q6, 2, none⟩ (.int .i64 (m.w0 - 1))).setCell ⟨q6, 2 + i, none⟩ (.int .i64 (m1.sw i + 1)))
    generalize (w4.setCell ⟨q6, 2, none⟩ (.int .i64 (m.w0 - 1))).setCell ⟨q6, 2 + i, none⟩ (.int .i64 (m1.sw i + 1)) = w5 at *
    clear hcx hfx hlx hcx1 hfx1 e1 e2
    have hlX := hX2.lt
    have hs5 : w.heap.size + 1 ≤ w5.heap.size := by omega
    have hlo9 := fun g e => (hown5.lt g e).1
    refine wp_region_rel0 (by kernel_rfl) (by kernel_rfl) [some 34, some 35, some 36, some 37, some 38, some 39, some 40, some 41, some 4] (by rfl) (by rfl) (plR w5 (w.heap.size + 1) u4 (plyL m j).length (mensV (plyL m j)) x (tkL x)) ?hcong ?h0 ?hstep ?hend
    case hcong =>
     intro S S' f W h hR
     unfold plR at hR ⊢
     rw [← h 0 (by decide), ← h 1 (by decide), ← h 2 (by decide), ← h 3 (by decide), ← h 4 (by decide), ← h 5 (by decide), ← h 6 (by decide), ← h 7 (by decide), ← h 8 (by decide)]
     exact hR
    case h0 =>
     exact ⟨⟨rfl, rfl, rfl, Nat.le_refl _, fun _ _ _ => rfl⟩, (fun h => by cases h), (fun h => by cases h), (fun h => by cases h), (fun h => by cases h), fun _ => ⟨hown5.drew, (fun h => by cases h)⟩, fun _ => ⟨(fun h => by cases h), (fun h => by cases h)⟩, (fun h => by cases h), fun _ => rfl⟩
    case hstep =>
     intro S i9 o9 f9 W ho hi hSj hpre hcl hR K hK
     have hi : i9 < 9 := hi
     obtain ⟨hC, h0, h1, h4, h5, h3, h7, h8, hv⟩ := id hR
     have hX6 : HasO W q6 (.cells x.cs.toArray 26 (0, 0)) := hX2.grown hC (fun e => by have := hlo _ e; omega)
     have no7 : ∀ j, S j = false → (j = 3 ∨ j = 6) → S 7 = false := by
      intro j hj hjj
      rcases h : S 7 with _ | _
      ·rfl
      ·rcases hjj with rfl | rfl
       ·have := hcl 7 _ h rfl ⟨3, .data⟩ (by simp) rfl
        rw [hj] at this; cases this
       ·have := hcl 7 _ h rfl ⟨6, .data⟩ (by simp) rfl
        rw [hj] at this; cases this
     have no3 : S 2 = false → S 3 = false := by
      intro hj
      rcases h : S 3 with _ | _
      ·rfl
      ·have := hcl 3 _ h rfl ⟨2, .data⟩ (by simp) rfl
       rw [hj] at this; cases this
     rcases (by omega : i9 = 0 ∨ i9 = 1 ∨ i9 = 2 ∨ i9 = 3 ∨ i9 = 4 ∨ i9 = 5 ∨ i9 = 6 ∨ i9 = 7 ∨ i9 = 8) with rfl | rfl | rfl | rfl | rfl | rfl | rfl | rfl | rfl
     ·have s8 : S 8 = false := by
       rcases h : S 8 with _ | _
       ·rfl
       ·have := hcl 8 _ h rfl ⟨0, .phase⟩ (by simp) rfl
        rw [hSj] at this; cases this
      exact st_move (og ho rfl) (.tmp 4) (oo ho rfl) (ri 8 (hv s8)) (hK _ _ ⟨hC, fun _ => rfl, h1, h4, h5, h3, h7, h8, hv⟩)
     ·exact st_loadA (og ho rfl) 26 (.tmp 6) (oo ho rfl) (rd_out rfl rfl) x.cs (by kernel_rfl) (fun j v hv => by rw [Nat.zero_add, hX6.cells j]; simpa using hv) (hK _ _ ⟨hC, h0, fun _ => rfl, h4, h5, h3, h7, h8, hv⟩)
     ·have s3 := no3 hSj
      refine st_buildSlice1 (og ho rfl) 57 (.tmp 35) (oo ho rfl) (ri 1 (h1 (hpre ⟨1, .data⟩ (oa ho rfl) rfl))) (mkS x W) (hK _ _ ?_)
      obtain ⟨hC', h0', h1', h4', h5', h3', h7', h8', hv'⟩ := plR_low hR (below_box W (.cells x.cs.toArray 26))
      exact ⟨hC', h0', h1', h4', h5', fun h => ⟨(h3' s3).1, fun _ => ⟨W.heap.size, rfl, HasO.new _ _⟩⟩, h7', h8', hv'⟩
     ·have s7 := no7 3 hSj (.inl rfl)
      obtain ⟨g1, g2⟩ := h3 hSj
      obtain ⟨q, e2, hq⟩ := g2 (hpre ⟨2, .data⟩ (oa ho rfl) rfl)
      refine st_append (og ho rfl) (.tmp 34) (.tmp 36) 57 (oo ho rfl) (w.heap.size + 1) 26 i0 _ 12 96 Tryz.underlying57 hi00 hz0 hz1 hz2 rfl (by decide) u4 (plyL m j).length (mensV (plyL m j)) (ri 0 (h0 (hpre ⟨0, .data⟩ (oa ho rfl) rfl))) g1 ⟨q, 0, none⟩ 1 1 x.cs (ri 2 e2) rfl (fun jj u hu => by rw [Addr.add_lit, Nat.zero_add, hq.cells jj]; simpa using hu) (men_one26 x) (by omega) (Nat.le_trans hs5 hC.size) ?_
      intro v' w' o1 o2 o3
      refine hK _ _ ⟨hC.trans o2, h0, h1, h4, h5, (fun h => by cases h), fun _ => ⟨fun _ => ⟨o1, fun g e => ?_⟩, fun s6 => ?_⟩, fun h => ?_, hv⟩
      ·rcases o3 with e3 | e3
       ·left; rw [← e3]; exact e.symm
       ·right; have e4 : v'.ownBlock = some g := e; rw [e3] at e4; injection e4 with e4; rw [← e4]; exact hC.size
      ·have h6 := (h7 s7).2 s6
       exact h6.kept o2 (by rcases hb6 : (f9 6).ownBlock with _ | g6; exact .inl rfl; right; intro e; have := hlo g6 e.symm; have := (h6.lt g6 hb6).1; omega)
      ·have h : S 7 = true := h
       rw [s7] at h; cases h
     ·exact st_move (og ho rfl) (.tmp 3) (oo ho rfl) (rd_out rfl rfl) (hK _ _ ⟨hC, h0, h1, fun _ => rfl, h5, h3, h7, h8, hv⟩)
     ·exact st_loadA (og ho rfl) 26 (.tmp 6) (oo ho rfl) (rd_out rfl rfl) x.cs (by kernel_rfl) (fun j v hv => by rw [Nat.zero_add, hX6.cells j]; simpa using hv) (hK _ _ ⟨hC, h0, h1, h4, fun _ => rfl, h3, h7, h8, hv⟩)
     ·have s7 := no7 6 hSj (.inr rfl)
      refine st_callV1 (og ho rfl) 152 (.tmp 38) (.tmp 39) #[26] (oo ho rfl) (ri 4 (h4 (hpre ⟨4, .data⟩ (oa ho rfl) rfl))) (ri 5 (h5 (hpre ⟨5, .data⟩ (oa ho rfl) rfl))) (fun _ _ => rfl) (taken_any x W hxb) ?_ (by rintro ch w9 ⟨⟨_, h9, _⟩, _⟩; cases h9) (by rintro w9 ⟨⟨_, h9, _⟩, _⟩; cases h9)
      rintro u w9 ⟨⟨v9, h9, hown9⟩, hb9⟩
      rw [Ending.returned.inj h9]
      obtain ⟨hC', h0', h1', h4', h5', h3', h7', h8', hv'⟩ := plR_low hR hb9
      exact hK _ _ ⟨hC', h0', h1', h4', h5', h3', fun _ => ⟨(h7' s7).1, fun _ => own_mono hown9 hC.size⟩, (fun h => by have h : S 7 = true := h; rw [s7] at h; cases h), hv'⟩
     ·obtain ⟨g3, g6⟩ := h7 hSj
      obtain ⟨o3, o3b⟩ := g3 (hpre ⟨3, .data⟩ (oa ho rfl) rfl)
      have o6 := g6 (hpre ⟨6, .data⟩ (oa ho rfl) rfl)
      have hkl := tkL_len x
      refine st_appendOO (og ho rfl) (.tmp 37) (.tmp 40) 57 (oo ho rfl) (w.heap.size + 1) 26 i0 _ 12 96 Tryz.underlying57 hi00 hz0 hz1 hz2 rfl (by decide) (ri 3 rfl) o3 (ri 6 rfl) o6 (mensV_one _) (by omega) (Nat.le_trans hs5 hC.size) ?_
      intro v' w' p1 p2 p3
      refine hK _ _ ⟨⟨p2.os.trans hC.os, p2.tape.trans hC.tape, p2.output.trans hC.output, Nat.le_trans hC.size p2.size, fun k hk hne => ?_⟩, h0, h1, h4, h5, ?_, (fun h => by cases h), fun _ => ⟨p1, fun s8 => ?_⟩, hv⟩
      ·rw [p2.block k (Nat.lt_of_lt_of_le hk hC.size) (fun e => by rcases o3b k e.symm with h | h; exact hne h; omega)]; exact hC.block k hk hne
      ·intro h
       have h : S 3 = false := h
       rw [(hpre ⟨3, .data⟩ (oa ho rfl) rfl)] at h; cases h
      ·have s8 : S 8 = true := s8
       have := hcl 8 _ s8 rfl ⟨7, .data⟩ (by simp) rfl
       rw [hSj] at this; cases this
     ·have s7 := (hpre ⟨7, .data⟩ (oa ho rfl) rfl)
      exact st_assign (og ho rfl) (.tmp 41) (oo ho rfl) (ri 7 rfl) (hK _ _ ⟨hC, h0, h1, h4, h5, h3, h7, fun _ => ⟨(h8 s7).1, fun _ => rfl⟩, (fun h => by cases h)⟩)
    case hend =>
     intro S f9 W hS hR
     obtain ⟨hC, _, _, _, _, _, _, h8, _⟩ := hR
     obtain ⟨o7, e8⟩ := h8 (hS 7 (by decide))
     have e8 := e8 (hS 8 (by decide))
     have hM9 := hM5.grown hC (fun e => by have := hlo9 _ e; omega)
     have hB9 := hB5.grown hC hB5.size (fun g e => by have := hlo9 g e; omega)
     have hz9 := hC.size
     simp only [putL, Act.put, List.setIfInBounds_toArray, List.set_cons_succ, List.set_cons_zero]
     rw [e8]
     generalize f9 7 = v9 at *
     generalize f9 0 = u34, f9 1 = u35, f9 2 = u36, f9 3 = u37, f9 4 = u38, f9 5 = u39, f9 6 = u40
     clear hS h8 e8 hC hown5 hM5 hB5 hX2
     replace o7 : W.ownsRow (w.heap.size + 1) 26 12 v9 (plyL m i).length (mensV (plyL m i)) := by
      rw [hnx.out, mensV_app, mensV_cons, ← hx.out, List.length_append, List.length_cons, ← List.append_assoc, show (plyL m j).length + ((tkL x).length + 1) = (plyL m j).length + 1 + (tkL x).length by omega]
      exact o7
     go_wp2_with fail
     go_roundg (gk - 1)
     case measure => omega
     case rel => exact ⟨i, _, rfl, by have := hi'.out; omega, by omega, by go_num, o7, hM9, hB9, by omega⟩
   ·have hi5 : ¬ ((j + 1 : Nat) : Int) < 5 := by omega
    obtain rfl : j = 4 := by omega
    go_wp2_with fail
    go_ret
    exact ⟨⟨_, rfl, by rw [hpl.out]; exact hown⟩, hB⟩
 ·have hpl : playedL m = tkL m := if_neg hw0
  replace hpl := Lib.hid hpl
  have hc1 := hM2.cells 2
  go_wp2_with fail
  go_loopg [4, 5] 1 (fun q lv iv wr => q = 1 ∧ lv = v ∧ iv = .int .i64 1 ∧ w2 = wr)
  case atStart => exact ⟨rfl, rfl, rfl, rfl⟩
  case round =>
   obtain ⟨_, rfl, rfl, rfl⟩ := hrel
   go_wp2_with fail
   go_ret
   exact ⟨⟨_, rfl, by rw [hpl.out]; exact hown⟩, hB2⟩
end Go.Proofs.YtnpomigmeieofaaGreatDoor
namespace Go.Proofs.YtnpomigmeieofaaGreatDoor
open Go.RowKit

theorem run_storeVar_at {P : Program} (w : World) (g o : Nat) (t ty : TypeId) (cur : Array Value) (cells : List Value) (hg : w.heap[g]? = some (.cells cur t (0, 0))) (hi : (P.info? ty).map (·.size) = some cells.length)
  (hl : o + cells.length ≤ cur.size) (h1 : ∀ u ∈ cells, u.oneCell' = true) :
  (storeVar ty ⟨g, o, none⟩ (.agg cells.toArray)).run P w = .ok () (w.setRow g (cur.toList.take o ++ cells ++ cur.toList.drop (o + cells.length)).toArray) := by
 have := run_storeCells_at (P := P) g o t cells 0 cur w hg (by omega) h1
 cases hq : P.info? ty with
 | none => simp [hq] at hi
 | some i =>
  have hs : cells.length = i.size := by simp [hq] at hi; omega
  simp [storeVar, sizeOf, typeInfo, hq, Value.cells, hs] at this ⊢
  rw [this]
section ops
variable {P : Program} {o : Oper} {a : Act} {w : World} {K : Act → World → Prop} {Q : Exit → Act → World → Prop} {t : Nat → Option Bool} {X : Prop}
theorem st_storeAt (hg : o.guard = none) (ty : TypeId) (x y : Operand) (ho : o.op = .store ty x y) {g b : Nat} (hx : a.eval x = .pointer (some ⟨g, b, none⟩)) (cells : List Value) (cur : Array Value) (e : TypeId) (hy : a.eval y = .agg cells.toArray)
  (hq : HasO w g (.cells cur e (0, 0))) (hi : (P.info? ty).map (·.size) = some cells.length) (hl : b + cells.length ≤ cur.size) (h1 : ∀ u ∈ cells, u.oneCell' = true)
  (h : K (a.put o.dst undef) (w.setRow g (cur.toList.take b ++ cells ++ cur.toList.drop (b + cells.length)).toArray)) : if Region.wanted o t = true then o.wp P a w K Q else X := by
 refine st_wp hg ?_
 unfold Oper.wp execOp
 simp only [ho, hx, hy, Instr.storeAt, Instr.sureAddr, Sem.run_bind, Sem.run_pure, Result.andThen_ok, run_storeVar_at w g b e ty cur cells hq hi hl h1]
 exact h
theorem st_callV2 (hg : o.guard = none) (fid : Nat) (c x y : Operand) (ts : Array TypeId) (ho : o.op = .call { callee := .value c, args := #[x, y], argTypes := ts }) (hcv : a.eval c = .func (.func fid) #[] #[]) {v u : Value} (hx : a.eval x = v) (hy : a.eval y = u)
  (he : ∀ args w, (callFunc fid args).run P w = .ok (.enter fid args) w) {R : Ending → World → Prop} (hc : Calls P fid #[v, u] w R) (hret : ∀ u w', R (.returned u) w' → K (a.put o.dst u) w') (hpan : ∀ ch w', R (.panicked ch) w' → Q (.panic ch) a w') (hout : ∀ w', ¬ R .outgrown w') :
  if Region.wanted o t = true then o.wp P a w K Q else X := by
 refine st_wp hg ?_
 have hr : (execOp a.eval o).run P w = .ok (.enter fid #[v, u]) w := by
  unfold execOp
  simp [ho, resolve, hcv, hx, hy, Deferred.ofValue, invoke, he]
 unfold Oper.wp
 rw [hr, Oper.upon_enter]
 refine hc.mono ?_
 intro e w' h
 cases e with
 | returned u => exact hret u w' h
 | panicked ch => exact hpan ch w' h
 | outgrown => exact absurd h (hout w')
end ops
theorem mensV_take : ∀ (L : List Men) (j : Nat), mensV (L.take j) = (mensV L).take (j * 12) := by
 intro L
 induction L with
 | nil => intro j; simp [mensV]
 | cons m L ih =>
  intro j
  rcases j with _ | j
  ·simp [mensV]
  ·rw [List.take_succ_cons, mensV_cons, mensV_cons, ih, List.take_append, List.take_of_length_le (l := m.cs) (by show 12 ≤ _; omega), show (j + 1) * 12 - m.cs.length = j * 12 by show _ - 12 = _; omega]
theorem mensV_drop : ∀ (L : List Men) (j : Nat), mensV (L.drop j) = (mensV L).drop (j * 12) := by
 intro L
 induction L with
 | nil => intro j; simp [mensV]
 | cons m L ih =>
  intro j
  rcases j with _ | j
  ·simp
  ·rw [List.drop_succ_cons, mensV_cons, ih, List.drop_append, List.drop_of_length_le (l := m.cs) (by show 12 ≤ _; omega), show (j + 1) * 12 - m.cs.length = j * 12 by show _ - 12 = _; omega, List.nil_append]
theorem mensV_set (L : List Men) {j : Nat} (hj : j < L.length) (x : Men) : mensV (L.set j x) = (mensV L).take (j * 12) ++ x.cs ++ (mensV L).drop (j * 12 + 12) := by
 rw [List.set_eq_take_append_cons_drop, if_pos hj, mensV_app, mensV_cons, mensV_take, mensV_drop, List.append_assoc, show (j + 1) * 12 = j * 12 + 12 by omega]
theorem own_putM {W : World} {base g n cap : Nat} {L : List Men} (h : W.ownsRow base 26 12 (.slice (some ⟨g, 0, none⟩) n cap) n (mensV L)) (hn : n = L.length) {j : Nat} (hj : j < L.length) (x : Men) :
  ∃ cur : Array Value, HasO W g (.cells cur 26 (0, 0)) ∧ j * 12 + x.cs.length ≤ cur.size ∧ (W.setRow g (cur.toList.take (j * 12) ++ x.cs ++ cur.toList.drop (j * 12 + x.cs.length)).toArray).ownsRow base 26 12 (.slice (some ⟨g, 0, none⟩) n cap) n (mensV (L.set j x)) := by
 rcases h.2 with ⟨h', _⟩ | ⟨g', cap', cur, h', hb, hg, hnc, hcm, hcs, htake⟩
 ·simp at h'
 ·simp only [Value.slice.injEq, Option.some.injEq, Addr.mk.injEq, and_true, true_and] at h'
  obtain ⟨rfl, rfl⟩ := h'
  have h12 : x.cs.length = 12 := rfl
  have hsz : j * 12 + 12 ≤ n * 12 := by omega
  have hcz : n * 12 ≤ cur.size := by rw [hcs]; exact Nat.mul_le_mul_right 12 hnc
  refine ⟨cur, hg, by omega, ⟨by rw [mensV_len, List.length_set, hn], .inr ⟨g, cap, _, rfl, hb, setRow_hasO hg, hnc, hcm, ?_, ?_⟩⟩⟩
  ·simp; omega
  ·rw [mensV_set L hj, ← htake, h12]
   have e1 : (cur.toList.take (n * 12)).take (j * 12) = cur.toList.take (j * 12) := by rw [List.take_take, Nat.min_eq_left (by omega)]
   rw [e1, List.drop_take]
   have l1 : (cur.toList.take (j * 12) ++ x.cs).length = j * 12 + 12 := by
    rw [List.length_append, List.length_take, Array.length_toList, h12]; omega
   show ((cur.toList.take (j * 12) ++ x.cs) ++ cur.toList.drop (j * 12 + 12)).take (n * 12) = _
   rw [List.take_append, l1, List.take_of_length_le (by omega)]
def insD (lt : Men → Men → Bool) (L : List Men) : Nat → List Men
 | 0 => L
 | j + 1 => if lt (L[j + 1]?.getD zeroMen) (L[j]?.getD zeroMen) then insD lt ((L.set (j + 1) (L[j]?.getD zeroMen)).set j (L[j + 1]?.getD zeroMen)) j else L
def insS (lt : Men → Men → Bool) (L : List Men) : Nat → List Men
 | 0 => L
 | k + 1 => insD lt (insS lt L k) (k + 1)
theorem insD_len (lt : Men → Men → Bool) : ∀ j L, (insD lt L j).length = L.length := by
 intro j
 induction j with
 | zero => intro L; rfl
 | succ j ih => intro L; rw [insD]; split <;> simp [ih]
theorem insS_len (lt : Men → Men → Bool) (L : List Men) : ∀ k, (insS lt L k).length = L.length := by
 intro k
 induction k with
 | zero => rfl
 | succ k ih => rw [insS, insD_len, ih]
theorem swap_mem {V : Men → Prop} {L : List Men} (h : ∀ x ∈ L, V x) {j : Nat} (hj : j + 1 < L.length) : ∀ x ∈ (L.set (j + 1) (L[j]?.getD zeroMen)).set j (L[j + 1]?.getD zeroMen), V x := by
 have h1 : V (L[j]?.getD zeroMen) := by rw [List.getElem?_eq_getElem (by omega)]; exact h _ (List.getElem_mem _)
 have h2 : V (L[j + 1]?.getD zeroMen) := by rw [List.getElem?_eq_getElem hj]; exact h _ (List.getElem_mem _)
 intro x hx
 rcases List.mem_or_eq_of_mem_set hx with hx | rfl
 ·rcases List.mem_or_eq_of_mem_set hx with hx | rfl
  ·exact h x hx
  ·exact h1
 ·exact h2
end Go.Proofs.YtnpomigmeieofaaGreatDoor
