import Derived.Test.YtnpomigmeieofaaGreatDoorS39
set_option maxHeartbeats 12800000
namespace Go.Proofs.YtnpomigmeieofaaGreatDoor
open Go.RowKit

theorem few_any (m : Men) (b : Bool) (w : World) (hb : mB m 100) : Calls Tryz.prog 74 #[.agg m.cs.toArray, .bool b] w fun e w' => (∃ v, e = .returned v ∧ w'.ownsRow w.heap.size 26 12 v (fewC m b 5).length (mensV (fewC m b 5))) ∧ Below w.heap.size w w' := by
 cases b
 ·exact fewW_any m w hb
 ·exact fewB_any m w hb
theorem pro_any (m : Men) (b : Bool) (w : World) (hb : mB m 100) : Calls Tryz.prog 75 #[.agg m.cs.toArray, .bool b] w fun e w' => (∃ v, e = .returned v ∧ w'.ownsRow w.heap.size 26 12 v (prC m b 4).length (mensV (prC m b 4))) ∧ Below w.heap.size w w' := by
 cases b
 ·exact proW_any m w hb
 ·exact proB_any m w hb
theorem mB_100 {m : Men} (h : vN m) : mB m 100 := fun k hk => by have := mB_of h k hk; omega
theorem nextR_succ (m : Men) {j : Nat} (hj : j < 2) : nextR m (j + 1) = nextR m j ++ sideR m ((j : Int) == 1) := by
 rcases (by omega : j = 0 ∨ j = 1) with rfl | rfl <;> rfl
theorem flatC_len (b : Bool) : ∀ L : List Men, (L.flatMap (fun x => fewC x b 5)).length ≤ 5 * L.length := by
 intro L
 induction L with
 | nil => exact Nat.le_refl _
 | cons x L ih =>
  rw [List.flatMap_cons, List.length_append, List.length_cons]
  have := fewC_len x b 5
  omega
theorem sideR_len (m : Men) (b : Bool) : (sideR m b).length ≤ 29 := by
 unfold sideR
 rw [List.length_append, List.length_append]
 have h1 := fewC_len m b 5
 have h2 := prC_len m b 4
 have h3 := flatC_len (!b) (prC m b 4)
 omega
theorem nextR_len (m : Men) {j : Nat} (hj : j ≤ 2) : (nextR m j).length ≤ 58 := by
 have h1 := sideR_len m false
 have h2 := sideR_len m true
 rcases (by omega : j = 0 ∨ j = 1 ∨ j = 2) with rfl | rfl | rfl
 ·exact Nat.zero_le _
 ·show (sideR m false).length ≤ 58; omega
 ·show (sideR m false ++ sideR m true).length ≤ 58
  rw [List.length_append]; omega
set_option maxRecDepth 100000 in
theorem refNext_any (m : Men) (hv : vN m) (w : World) :
  Calls Tryz.prog 29 #[.agg m.cs.toArray] w fun e w' => (∃ v, e = .returned v ∧ w'.ownsRow w.heap.size 26 12 v (nxtS m).length (mensV (nxtS m))) ∧ Below w.heap.size w w' := by
 obtain ⟨i0, hi00, hz0, hz1, hz2⟩ := info_parts info26
 have hM := HasO.new w (.cells m.cs.toArray 26)
 have hB := below_box w (.cells m.cs.toArray 26)
 have hmB := mB_100 hv
 have hfin := nextR_srt hv
 have hval := nextR_ok hv
 have hpv := prC_ok hv
 replace hv := Lib.hid hv
 replace hfin := Lib.hid hfin
 replace hval := Lib.hid hval
 go_enter Tryz.func29, Tryz.ntmps29
 go_upto_region 1 with fail
 show Code.wp _ _ _ _ (w.alloc (.cells m.cs.toArray 26))
 have hs1 : w.heap.size + 1 ≤ (w.alloc (.cells m.cs.toArray 26)).heap.size := by simp
 generalize w.alloc (.cells m.cs.toArray 26) = w1 at *
 go_wp2_with fail
 go_loopg [3, 4] 2 (fun q lv iv wr => ∃ j : Nat, ∃ wz, wz = wr ∧ q + j = 2 ∧ iv = .int .i64 ((j : Nat) : Int) ∧ wr.ownsRow (w.heap.size + 1) 26 12 lv (nextR m j).length (mensV (nextR m j)) ∧ HasO wr w.heap.size (.cells m.cs.toArray 26 (0, 0)) ∧ Below w.heap.size w wr ∧ w.heap.size + 1 ≤ wr.heap.size)
 case atStart => exact ⟨0, _, rfl, rfl, rfl, World.ownsRow_nil _ _ _ _, hM, hB, hs1⟩
 case round =>
  clear hM hB hs1
  obtain ⟨j, w2, rfl, hq, rfl, hown, hM, hB, hs⟩ := hrel
  by_cases hj : j < 2
  ·have hji : (j : Int) < 2 := by omega
   have hsc := nextR_succ m hj
   have hl0 := nextR_len m (j := j) (by omega)
   obtain ⟨T, hT⟩ : ∃ T, T = nextR m j := ⟨_, rfl⟩
   rw [← hT] at hown hsc hl0
   obtain ⟨j', hj'⟩ : ∃ j', j' = j + 1 := ⟨_, rfl⟩
   rw [← hj'] at hsc
   replace hj' := Lib.hid hj'
   replace hT := Lib.hid hT
   replace hsc := Lib.hid hsc
   go_upto_region 6 with fail
   generalize ((j : Int) == 1) = b at *
   have hfw := fun W => few_any m b W hmB
   have hpr := fun W => pro_any m b W hmB
   have hpb := hpv b
   have hf5 := fewC_len m b 5
   have hp4 := prC_len m b 4
   have hsd : sideR m b = fewC m b 5 ++ prC m b 4 ++ (prC m b 4).flatMap (fun x => fewC x (!b) 5) := rfl
   obtain ⟨A, hA⟩ : ∃ A, A = fewC m b 5 := ⟨_, rfl⟩
   obtain ⟨L, hL⟩ : ∃ L, L = prC m b 4 := ⟨_, rfl⟩
   rw [← hA] at hfw hf5 hsd
   rw [← hL] at hpr hpb hp4 hsd
   replace hA := Lib.hid hA
   replace hL := Lib.hid hL
   replace hsd := Lib.hid hsd
   go_wp2_with (first | (refine wpList_loadO rfl 26 (.tmp 1) rfl w.heap.size _ 26 rfl hM (by kernel_rfl) ?_) | fail)
   refine (hfw w2).mono ?_
   rintro e w3 ⟨⟨v1, rfl, hown1⟩, hb3⟩
   have hM3 := hM.call hb3
   have hB3 := below_call hB hB.size hb3
   have hown3 := own_call hown hb3
   have hs3 := Nat.le_trans hs hb3.size
   clear hM hB hown hs hb3 hfw
   go_wp2_with (first | (at_builtin; refine wpList_appendM rfl (.tmp 14) (.tmp 17) rfl (w.heap.size + 1) i0 hi00 hz0 hz1 hz2 rfl hown3 rfl (own_slm hown1 rfl) (by omega) hs3 ?_) | fail)
   intro v2 w4 hown4 hg4 _
   have hM4 := hM3.grown hg4 (fun e => by have := (hown3.lt _ e).1; omega)
   have hB4 := hB3.grown hg4 hB3.size (fun j e => by have := (hown3.lt j e).1; omega)
   have hs4 := Nat.le_trans hs3 hg4.size
   rw [← mensV_app, ← List.length_append] at hown4
   obtain ⟨T1, hT1⟩ : ∃ T1, T1 = T ++ A := ⟨_, rfl⟩
   have hl1 : T1.length ≤ 63 := by rw [hT1, List.length_append]; omega
   rw [← hT1] at hown4
   replace hT1 := Lib.hid hT1
   clear hM3 hB3 hown3 hg4 hs3 hown1
   go_wp2_with (first | (refine wpList_loadO rfl 26 (.tmp 1) rfl w.heap.size _ 26 rfl hM4 (by kernel_rfl) ?_) | fail)
   refine (hpr w4).mono ?_
   rintro e w5 ⟨⟨v3, rfl, hownL⟩, hb5⟩
   have hM5 := hM4.call hb5
   have hB5 := below_call hB4 hB4.size hb5
   have hown5 := own_call hown4 hb5
   have hs5 := Nat.le_trans hs4 hb5.size
   have hlo : ∀ g, v2.ownBlock = some g → g < w4.heap.size := fun g e => (hown4.lt g e).2
   have hlL : ∀ g, v3.ownBlock = some g → w4.heap.size ≤ g ∧ g < w5.heap.size := fun g e => hownL.lt g e
   clear hM4 hB4 hown4 hs4 hb5 hpr
   go_wp2_with (first | (at_builtin; refine wpList_appendM rfl (.tmp 22) (.tmp 23) rfl (w.heap.size + 1) i0 hi00 hz0 hz1 hz2 rfl hown5 rfl (own_slm hownL rfl) (by omega) hs5 ?_) | fail)
   intro v4 w6 hown6 hg6 hat6
   have hM6 := hM5.grown hg6 (fun e => by have := (hown5.lt _ e).1; omega)
   have hB6 := hB5.grown hg6 hB5.size (fun j e => by have := (hown5.lt j e).1; omega)
   have hs6 := Nat.le_trans hs5 hg6.size
   rw [← mensV_app, ← List.length_append] at hown6
   obtain ⟨T2, hT2⟩ : ∃ T2, T2 = T1 ++ L := ⟨_, rfl⟩
   have hl2 : T2.length ≤ 67 := by rw [hT2, List.length_append]; omega
   rw [← hT2] at hown6
   obtain ⟨pL, cL, rfl, hArr⟩ := own_marr hownL
   have hdis0 : ∀ g, pL = some ⟨g, 0, none⟩ → v2.ownBlock ≠ some g := by
    intro g e h
    have h1 := hlo g h
    have h2 := (hlL g (by rw [e]; rfl)).1
    omega
   have hdis : ∀ g, pL = some ⟨g, 0, none⟩ → v4.ownBlock ≠ some g := by
    intro g e h
    rcases hat6 with h2 | h2
    ·exact hdis0 g e (h2 ▸ h)
    ·rw [h2] at h; injection h with h
     have h3 := (hlL g (by rw [e]; rfl)).2
     omega
   have hArr6 := hArr.grown hg6 (fun g e h => hdis0 g e h)
   replace hT2 := Lib.hid hT2
   clear hM5 hB5 hown5 hg6 hs5 hArr hownL hdis0 hat6 hlo hlL
   go_wp2_with fail
   obtain ⟨gk1, hg1⟩ : ∃ x, x = gk := ⟨_, rfl⟩
   subst hg1
   go_loopg [3, 7] 5 (fun q lv iv wr => ∃ i : Nat, ∃ wz, wz = wr ∧ q + i = 5 ∧ i ≤ L.length ∧ iv = .int .i64 ((i : Nat) : Int) ∧ wr.ownsRow (w.heap.size + 1) 26 12 lv (T2 ++ (L.take i).flatMap (fun x => fewC x (!b) 5)).length (mensV (T2 ++ (L.take i).flatMap (fun x => fewC x (!b) 5))) ∧ HasO wr w.heap.size (.cells m.cs.toArray 26 (0, 0)) ∧ Below w.heap.size w wr ∧ w.heap.size + 1 ≤ wr.heap.size ∧ MArr wr pL L ∧ ∀ g, pL = some ⟨g, 0, none⟩ → lv.ownBlock ≠ some g)
   case atStart => exact ⟨0, _, rfl, rfl, Nat.zero_le _, rfl, by simpa using hown6, hM6, hB6, hs6, hArr6, hdis⟩
   case round =>
    clear hown6 hM6 hB6 hs6 hArr6 hdis
    obtain ⟨i, w7, rfl, hq7, hi, rfl, hown, hM, hB, hs, hArr, hdis⟩ := hrel
    by_cases hlt : i < L.length
    ·have hii : (i : Int) < L.length := by omega
     obtain ⟨g, rfl, hgl, hc⟩ := hArr.at hlt
     obtain ⟨x, hx⟩ : ∃ x, x = L[i]?.getD zeroMen := ⟨_, rfl⟩
     have hvx : vN x := hpb x (by rw [hx, List.getElem?_eq_getElem hlt]; exact List.getElem_mem _)
     rw [← hx] at hc
     have hfx := fun W => few_any x (!b) W (mB_100 hvx)
     have hfl := fewC_len x (!b) 5
     have htk : T2 ++ (L.take (i + 1)).flatMap (fun x => fewC x (!b) 5) = (T2 ++ (L.take i).flatMap (fun x => fewC x (!b) 5)) ++ fewC x (!b) 5 := by
      rw [List.take_add_one, List.getElem?_eq_getElem hlt, show L[i] = x by rw [hx, List.getElem?_eq_getElem hlt]; rfl]
      simp [List.flatMap_append]
     have hll := flatC_len (!b) (L.take i)
     rw [List.length_take] at hll
     obtain ⟨T3, hT3⟩ : ∃ T3, T3 = T2 ++ (L.take i).flatMap (fun x => fewC x (!b) 5) := ⟨_, rfl⟩
     have hl3 : T3.length ≤ 100 := by rw [hT3, List.length_append]; omega
     rw [← hT3] at hown htk
     obtain ⟨Y, hY⟩ : ∃ Y, Y = fewC x (!b) 5 := ⟨_, rfl⟩
     rw [← hY] at hfx hfl htk
     replace hx := Lib.hid hx
     replace hT3 := Lib.hid hT3
     replace hY := Lib.hid hY
     replace htk := Lib.hid htk
     clear hll
     go_wp2_with (first | (refine wpList_loadA rfl 26 (.tmp 34) rfl rfl x.cs (by kernel_rfl) hc ?_) | fail)
     refine (hfx w7).mono ?_
     rintro e w8 ⟨⟨v5, rfl, hown5⟩, hb8⟩
     have hM8 := hM.call hb8
     have hB8 := below_call hB hB.size hb8
     have hown8 := own_call hown hb8
     have hs8 := Nat.le_trans hs hb8.size
     have hArr8 := hArr.call hb8
     have hg8 : g < w8.heap.size := Nat.lt_of_lt_of_le hgl hb8.size
     clear hM hB hown hs hArr hb8 hfx hc
     go_wp2_with (first | (at_builtin; refine wpList_appendM rfl (.tmp 31) (.tmp 38) rfl (w.heap.size + 1) i0 hi00 hz0 hz1 hz2 rfl hown8 rfl (own_slm hown5 rfl) (by omega) hs8 ?_) | fail)
     intro v6 w9 hown9 hg9 hat9
     have hM9 := hM8.grown hg9 (fun e => by have := (hown8.lt _ e).1; omega)
     have hB9 := hB8.grown hg9 hB8.size (fun j e => by have := (hown8.lt j e).1; omega)
     have hs9 := Nat.le_trans hs8 hg9.size
     have hArr9 := hArr8.grown hg9 hdis
     have hdis9 : ∀ g', (some ⟨g, 0, none⟩ : Option Addr) = some ⟨g', 0, none⟩ → v6.ownBlock ≠ some g' := by
      intro g' e h
      injection e with e; injection e with e; subst e
      rcases hat9 with h2 | h2
      ·exact hdis g rfl (h2 ▸ h)
      ·rw [h2] at h; injection h with h; omega
     rw [← mensV_app, ← List.length_append, ← htk.out] at hown9
     clear hM8 hB8 hown8 hs8 hArr8 hg9 hat9
     go_wp2_with fail
     go_roundg (gk - 1)
     case measure => omega
     case rel => exact ⟨i + 1, _, rfl, by omega, by omega, by go_num, hown9, hM9, hB9, hs9, hArr9, hdis9⟩
    ·have hii : ¬ (i : Int) < L.length := by omega
     obtain rfl : i = L.length := by omega
     rw [List.take_length] at hown
     have hfin2 : T2 ++ L.flatMap (fun x => fewC x (!b) 5) = nextR m j' := by
      rw [hT2.out, hT1.out, hsc.out, hsd.out]
      simp only [List.append_assoc]
     rw [hfin2] at hown
     replace hfin2 := Lib.hid hfin2
     clear hArr hdis
     go_wp2_with fail
     go_roundg (gk1 - 1)
     case measure => omega
     case rel => exact ⟨j', _, rfl, by have := hj'.out; omega, by have := hj'.out; go_num, hown, hM, hB, hs⟩
  ·have hji : ¬ (j : Int) < 2 := by omega
   obtain rfl : j = 2 := by omega
   have hl0 := nextR_len m (j := 2) (by omega)
   obtain ⟨T, hT⟩ : ∃ T, T = nextR m 2 := ⟨_, rfl⟩
   rw [← hT] at hown hl0 hval hfin
   obtain ⟨p, c, rfl, hArr⟩ := own_marr hown
   have hso := sorted_any T false T.length c p rfl (by omega) hval.out w2 hArr
   rw [hfin.out] at hso
   replace hT := Lib.hid hT
   clear hM hown
   go_wp2_with fail
   refine hso.mono ?_
   rintro e w3 ⟨⟨v, rfl, hown3⟩, hb3⟩
   have hB3 := below_call hB hB.size hb3
   have hown4 := own_mono hown3 (show w.heap.size ≤ w2.heap.size by omega)
   go_wp2_with fail
   go_ret
   exact ⟨⟨_, rfl, hown4⟩, hB3⟩
set_option maxRecDepth 100000 in
theorem refClosure_any (m : Men) (hv : vN m) (w : World) :
  Calls Tryz.prog 30 #[.agg m.cs.toArray] w fun e w' => (∃ v n, EndAt m n ∧ e = .returned v ∧ w'.ownsRow w.heap.size 26 12 v (srtD cmpC (bfs m n)).length (mensV (srtD cmpC (bfs m n)))) ∧ Below w.heap.size w w' := by
 obtain ⟨i0, hi00, hz0, hz1, hz2⟩ := info_parts info26
 have hM := HasO.new w (.cells m.cs.toArray 26)
 have hB := below_box w (.cells m.cs.toArray 26)
 have hN := Lib.hid hv
 clear hv
 go_enter Tryz.func30, Tryz.ntmps30
 go_upto_region 1 with fail
 show Code.wp _ _ _ _ (w.alloc (.cells m.cs.toArray 26))
 have hs1 : w.heap.size < (w.alloc (.cells m.cs.toArray 26)).heap.size := by simp
 generalize w.alloc (.cells m.cs.toArray 26) = w1 at *
 have hown := own_new1 (HasO.new w1 (.cells m.cs.toArray 26)) (show w.heap.size ≤ w1.heap.size by omega)
 have hB2 := below_call hB hB.size (below_box w1 (.cells m.cs.toArray 26))
 go_upto_region 2 with (first | (refine wpList_loadO rfl 26 (.tmp 1) rfl w.heap.size _ 26 rfl hM (by kernel_rfl) ?_) | fail)
 show Code.wp _ _ _ _ (w1.alloc (.cells m.cs.toArray 26))
 generalize w1.alloc (.cells m.cs.toArray 26) = w2 at *
 replace hown : w2.ownsRow w.heap.size 26 12 (.slice (some ⟨w1.heap.size, 0, none⟩) 1 1) (bfs m 0).length (mensV (bfs m 0)) := hown
 clear hM hB hs1
 obtain ⟨B, hBn⟩ : ∃ B, B = 9765626 := ⟨_, rfl⟩
 go_wp2_with fail
 go_loopg [3, 4] B (fun q lv iv wr => ∃ j : Nat, ∃ wz, wz = wr ∧ q + j = B ∧ j ≤ (bfs m j).length ∧ Hid (∀ i, i < j → i < (bfs m i).length) ∧ iv = .int .i64 (j : Nat) ∧ wr.ownsRow w.heap.size 26 12 lv (bfs m j).length (mensV (bfs m j)) ∧ Below w.heap.size w wr)
 case atStart => exact ⟨0, _, rfl, rfl, Nat.zero_le _, Lib.hid (fun i hi => absurd hi (Nat.not_lt_zero i)), rfl, hown, hB2⟩
 case round =>
  clear hown hB2
  obtain ⟨j, w4, rfl, hq, hj, hwh, rfl, hown, hB4⟩ := hrel
  have hF := bfs_fam hN.out j hwh.out
  have hFl := hF.len
  obtain ⟨L, hL⟩ : ∃ L, L = bfs m j := ⟨_, rfl⟩
  rw [← hL] at hown hF hFl hj
  obtain ⟨n, hn⟩ : ∃ n, n = L.length := ⟨_, rfl⟩
  by_cases hj2 : j < n
  ·have hjj : (j : Int) < n := by omega
   obtain ⟨x, hx⟩ : ∃ x, x = L[j]?.getD zeroMen := ⟨_, rfl⟩
   have hxL : x ∈ L := by rw [hx, List.getElem?_eq_getElem (by rw [← hn]; exact hj2)]; exact List.getElem_mem _
   obtain ⟨hvx, hfx, hrx⟩ := hF.2 x hxL
   have hnex := fun W => refNext_any x hvx W
   have hNF := nxtS_fam hvx
   obtain ⟨N, hN2⟩ : ∃ N, N = nxtS x := ⟨_, rfl⟩
   rw [← hN2] at hnex hNF
   have hNl := hNF.len
   have hNm : ∀ y ∈ N, vN y ∧ y.f = m.f ∧ y.r = m.r := fun y hy => ⟨(hNF.2 y hy).1, (hNF.2 y hy).2.1.trans hfx, (hNF.2 y hy).2.2.trans hrx⟩
   have hnx : bfs m (j + 1) = addN L N := by rw [hN2, hx, hL]; rfl
   have hFi : ∀ i, Fam m (addN L (N.take i)) := fun i => addN_fam _ _ hF (fun y hy => hNm y (List.mem_of_mem_take hy))
   have hwh1 : ∀ i, i < j + 1 → i < (bfs m i).length := by
    intro i hi
    rcases Nat.lt_or_ge i j with h | h
    ·exact hwh.out i h
    ·obtain rfl : i = j := by omega
     rw [← hL, ← hn]; exact hj2
   obtain ⟨p, cp, rfl, hArr⟩ := own_marr hown
   obtain ⟨g, rfl, hgl, hc⟩ := hArr.at (by rw [← hn]; exact hj2)
   rw [← hn] at hown
   rw [← hx] at hc
   clear hArr hvx hfx hrx hNF hxL
   replace hx := Lib.hid hx
   replace hN2 := Lib.hid hN2
   replace hL := Lib.hid hL
   replace hwh1 := Lib.hid hwh1
   replace hnx := Lib.hid hnx
   replace hNm := Lib.hid hNm
   replace hFi := Lib.hid hFi
   replace hn := Lib.hid hn
   rw [← hn.out]
   go_wp2_with (first | (refine wpList_loadA rfl 26 (.tmp 17) rfl rfl x.cs (by kernel_rfl) hc ?_) | fail)
   refine (hnex w4).mono ?_
   rintro e w5 ⟨⟨v2, rfl, hown2⟩, hb5⟩
   have hown5 := own_call hown hb5
   have hB5 := below_call hB4 hB4.size hb5
   have hv2 : ∀ g', v2.ownBlock = some g' → g < g' := fun g' e => by have := (hown2.lt g' e).1; omega
   obtain ⟨p2, c2, rfl, hArr2⟩ := own_marr hown2
   have hp2 : ∀ g', p2 = some ⟨g', 0, none⟩ → g < g' := fun g' e => hv2 g' (by rw [e]; rfl)
   clear hown hB4 hb5 hown2 hv2 hnex hc hgl
   go_wp2_with fail
   obtain ⟨gk1, hg1⟩ : ∃ x, x = gk := ⟨_, rfl⟩
   subst hg1
   go_loopg [3, 6] B (fun q lv iv wr => ∃ i : Nat, ∃ wz, wz = wr ∧ q + i = B ∧ i ≤ N.length ∧ iv = .int .i64 (i : Nat) ∧ wr.ownsRow w.heap.size 26 12 lv (addN L (N.take i)).length (mensV (addN L (N.take i))) ∧ Below w.heap.size w wr ∧ MArr wr p2 N ∧ ∀ g', p2 = some ⟨g', 0, none⟩ → lv.ownBlock ≠ some g')
   case atStart => exact ⟨0, _, rfl, rfl, Nat.zero_le _, rfl, by rw [show (addN L (N.take 0)).length = n from hn.out.symm]; exact hown5, hB5, hArr2, fun g' e h => by have h9 := hp2 g' e; injection h with h; exact absurd (show g = g' from h) (by omega)⟩
   case round =>
    clear hown5 hB5 hArr2
    obtain ⟨i, w5, rfl, hq, hi, rfl, hown, hB5, hArr, hdis⟩ := hrel
    have hTl := (hFi.out i).len
    by_cases hi2 : i < N.length
    ·have hii : (i : Int) < N.length := by omega
     obtain ⟨g2, rfl, hgl2, hc2⟩ := hArr.at hi2
     obtain ⟨k, hk⟩ : ∃ k, k = N[i]?.getD zeroMen := ⟨_, rfl⟩
     have htk := addN_take L N hi2 hk
     rw [← hk] at hc2
     obtain ⟨T, hT⟩ : ∃ T, T = addN L (N.take i) := ⟨_, rfl⟩
     rw [← hT] at hown hTl htk
     have hd0 := hdis g2 rfl
     obtain ⟨pT, cT, rfl, hArrT⟩ := own_marr hown
     obtain ⟨nT, hnT⟩ : ∃ nT, nT = T.length := ⟨_, rfl⟩
     rw [← hnT] at hown hTl hdis hd0
     have hhas := has_any T k nT cT pT hnT (by omega) w5 hArrT
     obtain ⟨c, hcm⟩ : ∃ c, c = decide (k ∈ T) := ⟨_, rfl⟩
     rw [← hcm] at hhas
     replace hk := Lib.hid hk
     replace hT := Lib.hid hT
     replace htk := Lib.hid htk
     replace hcm := Lib.hid hcm
     rw [← hnT]
     have hFT : (T ++ [k]).length = nT + 1 := by rw [hnT, List.length_append]; rfl
     replace hnT := Lib.hid hnT
     replace hFT := Lib.hid hFT
     clear hArrT
     go_wp2_with (first | (refine wpList_loadA rfl 26 (.tmp 29) rfl rfl k.cs (by kernel_rfl) hc2 ?_) | fail)
     refine hhas.mono ?_
     rintro e w6 ⟨rfl, hb6⟩
     have hown6 := own_call hown hb6
     have hB6 := below_call hB5 hB5.size hb6
     have hArr6 := hArr.call hb6
     have hgl6 : g2 < w6.heap.size := Nat.lt_of_lt_of_le hgl2 hb6.size
     have hc6 : ∀ i2 v, k.cs[i2]? = some v → w6.cell? ⟨g2, i * 12 + i2, none⟩ = some v := fun i2 v hv => (hb6.cell (p := ⟨g2, i * 12 + i2, none⟩) hgl2).trans (hc2 i2 v hv)
     clear hown hB5 hArr hb6 hc2 hgl2 hhas
     by_cases hmem : k ∈ T
     ·obtain rfl : c = true := by rw [hcm.out]; simpa using hmem
      have hnx2 : addN L (N.take (i + 1)) = T := by rw [htk.out, if_pos hmem]
      replace hnx2 := Lib.hid hnx2
      clear hmem hc6
      go_wp2_with fail
      go_roundg (gk - 1)
      case measure => omega
      case rel => exact ⟨i + 1, _, rfl, by omega, hi2, by go_num, by rw [hnx2.out, ← hnT.out]; exact hown6, hB6, hArr6, hdis⟩
     ·obtain rfl : c = false := by rw [hcm.out]; simpa using hmem
      have hnx2 : addN L (N.take (i + 1)) = T ++ [k] := by rw [htk.out, if_neg hmem]
      have hTl2 : nT + 1 ≤ 9765625 := by
       have h9 := (hFi.out (i + 1)).len
       rw [hnx2, hFT.out] at h9
       exact h9
      replace hnx2 := Lib.hid hnx2
      clear hmem
      have hN8 := HasO.new w6 (.cells k.cs.toArray 26)
      have hbN := below_box w6 (.cells k.cs.toArray 26)
      have hown8 := own_call hown6 hbN
      have hB8 := below_call hB6 hB6.size hbN
      have hArr8 := hArr6.call hbN
      clear hown6 hB6 hArr6 hbN
      go_wp2_with (first
       | (refine wpList_loadA rfl 26 (.tmp 36) rfl rfl k.cs (by kernel_rfl) hc6 ?_)
       | (at_builtin; refine wpList_append_own_at _ rfl (.tmp 33) (.tmp 38) 57 rfl w.heap.size 26 i0 _ 12 96 Tryz.underlying57 hi00 hz0 hz1 hz2 rfl (by decide) _ nT (mensV T) rfl hown8 ⟨w6.heap.size, 0, none⟩ 1 1 k.cs rfl rfl (fun i u hu => by rw [Addr.add_lit, Nat.zero_add, hN8.cells i]; simpa using hu) (men_one26 _) (by unfold maxLen; omega) (by omega) hB8.size ?_) | fail)
      intro v' w9 hown9 hg9 _ hat9
      have hB9 := hB8.grown hg9 hB8.size (fun j e => by have := (hown8.lt j e).1; omega)
      have hArr9 := hArr8.grown hg9 (by intro g' e h; exact hdis g' e h)
      have hdis9 : ∀ g', (some ⟨g2, 0, none⟩ : Option Addr) = some ⟨g', 0, none⟩ → v'.ownBlock ≠ some g' := by
       intro g' e h
       injection e with e; injection e with e; subst e
       rcases hat9 with h2 | h2
       ·exact hd0 (h2 ▸ h)
       ·rw [h2] at h; injection h with h; omega
      replace hown9 : w9.ownsRow w.heap.size 26 12 v' (addN L (N.take (i + 1))).length (mensV (addN L (N.take (i + 1)))) := by
       rw [hnx2.out, mensV_snoc, hFT.out]; exact hown9
      clear hown8 hg9 hB8 hArr8 hat9 hN8
      go_wp2_with fail
      go_roundg (gk - 1)
      case measure => omega
      case rel => exact ⟨i + 1, _, rfl, by omega, hi2, by go_num, hown9, hB9, hArr9, hdis9⟩
    ·have hii : ¬ (i : Int) < N.length := by omega
     obtain rfl : i = N.length := by omega
     have hle := addN_len N L
     rw [List.take_length, ← hnx.out] at hown
     rw [← hnx.out, ← hn.out] at hle
     clear hArr hdis hTl
     go_wp2_with fail
     go_roundg (gk1 - 1)
     case measure => omega
     case rel => exact ⟨j + 1, _, rfl, by omega, by omega, hwh1, by go_num, hown, hB5⟩
  ·have hjj : ¬ (j : Int) < n := by omega
   obtain rfl : j = n := by omega
   rw [← hn] at hown
   have hE : EndAt m j := ⟨hwh.out, by rw [← hL]; exact hn⟩
   have hval : ∀ x ∈ L, validB x = true := fun x hx => (vN_iff x).2 (hF.2 x hx).1
   rw [hn] at hown
   obtain ⟨p, cp, rfl, hArr⟩ := own_marr hown
   rw [← hn]
   have hso := sorted_any L true j cp p hn (by omega) hval w4 hArr
   have hoc : ordR true = cmpC := rfl
   rw [hoc, hL] at hso
   replace hn := Lib.hid hn
   replace hL := Lib.hid hL
   replace hE := Lib.hid hE
   clear hF hval hown
   go_wp2_with fail
   refine hso.mono ?_
   rintro e w5 ⟨⟨v, rfl, hown5⟩, hb5⟩
   have hB5 := below_call hB4 hB4.size hb5
   go_wp2_with fail
   go_ret
   exact ⟨⟨_, j, hE.out, rfl, own_mono hown5 hB4.size⟩, hB5⟩
def flipE (m : Men) : Men × Int := if validB m = true then (flipM m, 0) else (zeroMen, 2)
set_option maxRecDepth 100000 in
theorem Flip_any (m : Men) (w : World) : Calls Tryz.prog 24 #[.agg m.cs.toArray] w fun e w' => e = .returned (.tuple #[.agg (flipE m).1.cs.toArray, .int .i64 (flipE m).2]) ∧ Below w.heap.size w w' := by
 have hM := (HasO.new w (.cells m.cs.toArray 26)).alloc (.cells zeroMen.cs.toArray 26)
 have hR := HasO.new' (w.alloc (.cells m.cs.toArray 26)) (.cells zeroMen.cs.toArray 26) (q := w.heap.size + 1) (by simp)
 have hB := (below_box w (.cells m.cs.toArray 26)).alloc (by simp) (.cells zeroMen.cs.toArray 26)
 have hva := fun W => valid_any m W
 have hfl := fun W => flip_any m W
 obtain ⟨E, hE⟩ : ∃ E, E = flipE m := ⟨_, rfl⟩
 rw [← hE]
 obtain ⟨q, hq⟩ : ∃ q, q = w.heap.size := ⟨_, rfl⟩
 go_enter Tryz.func24, Tryz.ntmps24
 go_upto_region 1 with fail
 show Code.wp _ _ _ _ ((w.alloc (.cells m.cs.toArray 26)).alloc (.cells zeroMen.cs.toArray 26))
 generalize (w.alloc (.cells m.cs.toArray 26)).alloc (.cells zeroMen.cs.toArray 26) = w1 at *
 rw [← hq] at hM hR ⊢
 replace hq := Lib.hid hq
 go_wp2_with (first | (refine wpList_loadO rfl 26 (.tmp 1) rfl q _ 26 rfl hM (by kernel_rfl) ?_) | fail)
 refine (hva w1).mono ?_
 rintro e w2 ⟨rfl, hb⟩
 replace hM := hM.call hb
 replace hR := hR.call hb
 replace hB := below_call hB hB.size hb
 clear hva hb
 by_cases hv : validB m = true
 ·have hE1 : E = (flipM m, 0) := by rw [hE]; unfold flipE; rw [if_pos hv]
  subst hE1
  replace hE := Lib.hid hE
  go_wp2_with (first | (refine wpList_loadO rfl 26 (.tmp 1) rfl q _ 26 rfl hM (by kernel_rfl) ?_) | fail)
  refine (hfl w2).mono ?_
  rintro e w3 ⟨rfl, hb⟩
  replace hR := hR.call hb
  replace hB := below_call hB hB.size hb
  clear hM hb hfl
  go_wp2_with (first | (refine wpList_storeAgg rfl 26 (.tmp 2) (.tmp 9) rfl (q + 1) _ rfl rfl 26 _ hR (by kernel_rfl) rfl (men_one (flipM m)) ?_; rintro w' rfl) | fail)
  refine bodyPost_ret (results_ct2 (fn := Tryz.f24) Tryz.results24 rfl (setRow_hasO hR) (by kernel_rfl) rfl) rfl ?_
  exact ⟨rfl, setRow_below hB (by rw [hq.out]; omega) hB.size⟩
 ·have hE1 : E = (zeroMen, 2) := by rw [hE]; unfold flipE; rw [if_neg hv]
  subst hE1
  replace hE := Lib.hid hE
  replace hv : validB m = false := by simpa using hv
  clear hfl hM
  go_wp2_with (first | (refine wpList_storeAgg rfl 26 (.tmp 2) (.tmp 7) rfl (q + 1) _ rfl rfl 26 _ hR (by kernel_rfl) rfl (men_one zeroMen) ?_; rintro w' rfl) | fail)
  refine bodyPost_ret (results_ct2 (fn := Tryz.f24) Tryz.results24 rfl (setRow_hasO hR) (by kernel_rfl) rfl) rfl ?_
  exact ⟨rfl, setRow_below hB (by rw [hq.out]; omega) hB.size⟩
set_option maxRecDepth 100000 in
theorem NextBad_any (m : Men) (hv : validB m = false) (w : World) : Calls Tryz.prog 25 #[.agg m.cs.toArray] w fun e w' => e = .returned (.tuple #[.slice none 0 0, .int .i64 2]) ∧ Below w.heap.size w w' := by
 have hM := HasO.new w (.cells m.cs.toArray 26)
 have hB := below_box w (.cells m.cs.toArray 26)
 have hva := fun W => valid_any m W
 rw [hv] at hva
 go_enter Tryz.func25, Tryz.ntmps25
 go_upto_region 1 with fail
 show Code.wp _ _ _ _ (w.alloc (.cells m.cs.toArray 26))
 generalize w.alloc (.cells m.cs.toArray 26) = w1 at *
 go_wp2_with (first | (refine wpList_loadO rfl 26 (.tmp 1) rfl w.heap.size _ 26 rfl hM (by kernel_rfl) ?_) | fail)
 refine (hva w1).mono ?_
 rintro e w2 ⟨rfl, hb⟩
 replace hB := below_call hB hB.size hb
 go_wp2_with fail
 exact bodyPost_ret (results_tmp2 rfl _ _ _) rfl ⟨rfl, hB⟩
set_option maxRecDepth 100000 in
theorem ClosureBad_any (m : Men) (hv : validB m = false) (w : World) : Calls Tryz.prog 26 #[.agg m.cs.toArray] w fun e w' => e = .returned (.tuple #[.slice none 0 0, .int .i64 2]) ∧ Below w.heap.size w w' := by
 have hM := HasO.new w (.cells m.cs.toArray 26)
 have hB := below_box w (.cells m.cs.toArray 26)
 have hva := fun W => valid_any m W
 rw [hv] at hva
 go_enter Tryz.func26, Tryz.ntmps26
 go_upto_region 1 with fail
 show Code.wp _ _ _ _ (w.alloc (.cells m.cs.toArray 26))
 generalize w.alloc (.cells m.cs.toArray 26) = w1 at *
 go_wp2_with (first | (refine wpList_loadO rfl 26 (.tmp 1) rfl w.heap.size _ 26 rfl hM (by kernel_rfl) ?_) | fail)
 refine (hva w1).mono ?_
 rintro e w2 ⟨rfl, hb⟩
 replace hB := below_call hB hB.size hb
 go_wp2_with fail
 exact bodyPost_ret (results_tmp2 rfl _ _ _) rfl ⟨rfl, hB⟩
set_option maxRecDepth 100000 in
theorem refFlip_any (m : Men) (w : World) : Calls Tryz.prog 27 #[.agg m.cs.toArray] w fun e w' => e = .returned (.agg (flipM m).cs.toArray) ∧ Below w.heap.size w w' := by
 have hM := (HasO.new w (.cells m.cs.toArray 26)).alloc (.cells zeroMen.cs.toArray 26)
 have hR := HasO.new' (w.alloc (.cells m.cs.toArray 26)) (.cells zeroMen.cs.toArray 26) (q := w.heap.size + 1) (by simp)
 have hB := (below_box w (.cells m.cs.toArray 26)).alloc (by simp) (.cells zeroMen.cs.toArray 26)
 obtain ⟨q, hq⟩ : ∃ q, q = w.heap.size := ⟨_, rfl⟩
 go_enter Tryz.func27, Tryz.ntmps27
 go_upto_region 1 with fail
 show Code.wp _ _ _ _ ((w.alloc (.cells m.cs.toArray 26)).alloc (.cells zeroMen.cs.toArray 26))
 generalize (w.alloc (.cells m.cs.toArray 26)).alloc (.cells zeroMen.cs.toArray 26) = w1 at *
 rw [← hq] at hM hR ⊢
 replace hq := Lib.hid hq
 have hc := hM.cells
 go_wp2_with (first
  | (refine wpList_loadA rfl 23 (.tmp 3) rfl (g := q) (b := 0) rfl [.int .i64 m.f, .int .i64 m.r] (by kernel_rfl) (fun j v hv => by rcases j with _ | _ | j <;> simp at hv <;> subst hv <;> rw [hc] <;> rfl) ?_)
  | (refine wpList_loadA rfl 24 (.tmp 5) rfl (g := q) (b := 7) rfl [.int .i64 m.b0, .int .i64 m.b1, .int .i64 m.b2, .int .i64 m.b3, .int .i64 m.b4] (by kernel_rfl) (fun j v hv => by rcases j with _ | _ | _ | _ | _ | j <;> simp at hv <;> subst hv <;> rw [hc] <;> rfl) ?_)
  | (refine wpList_loadA rfl 24 (.tmp 7) rfl (g := q) (b := 2) rfl [.int .i64 m.w0, .int .i64 m.w1, .int .i64 m.w2, .int .i64 m.w3, .int .i64 m.w4] (by kernel_rfl) (fun j v hv => by rcases j with _ | _ | _ | _ | _ | j <;> simp at hv <;> subst hv <;> rw [hc] <;> rfl) ?_)
  | (refine wpList_storeAgg rfl 26 (.tmp 2) (.tmp 9) rfl (q + 1) (flipM m).cs.toArray rfl rfl 26 _ hR (by kernel_rfl) rfl (men_one (flipM m)) ?_; rintro w' rfl) | fail)
 refine bodyPost_ret (results_c1 (fn := Tryz.f27) Tryz.results27 rfl (setRow_hasO hR) (by kernel_rfl)) rfl ?_
 exact ⟨rfl, setRow_below hB (by rw [hq.out]; omega) hB.size⟩
end Go.Proofs.YtnpomigmeieofaaGreatDoor
