import Derived.Test.YtnpomigmeieofaaGreatDoorS35
set_option maxHeartbeats 12800000
namespace Go.Proofs.YtnpomigmeieofaaGreatDoor
open Go.RowKit

theorem mk109 (W : World) : (Instr.makeMap 109 none).run Tryz.prog W = .ok (.map (some W.heap.size)) (W.alloc (.map #[] 0)) := by kernel_rfl
theorem own_new1 {W : World} {g base : Nat} {m : Men} (h : HasO W g (.cells m.cs.toArray 26 (0, 0))) (hb : base ≤ g) : W.ownsRow base 26 12 (.slice (some ⟨g, 0, none⟩) 1 1) 1 (mensV [m]) :=
 ⟨rfl, .inr ⟨g, 1, m.cs.toArray, rfl, hb, h, by omega, by unfold maxLen; omega, rfl, rfl⟩⟩
theorem addN_len : ∀ (N L : List Men), L.length ≤ (addN L N).length := by
 intro N
 induction N with
 | nil => intro L; exact Nat.le_refl _
 | cons y N ih =>
  intro L
  refine Nat.le_trans ?_ (ih _)
  split
  ·exact Nat.le_refl _
  ·simp
theorem nxtS_ok {m : Men} (h : vN m) : ∀ x ∈ nxtS m, vN x ∧ x.f = m.f ∧ x.r = m.r := fun x hx => nextL_ok h x (((nxtS_by h).2 x).1 hx)
theorem nxtS_fam {m : Men} (h : vN m) : Fam m (nxtS m) := ⟨by
 unfold List.Nodup
 exact (nxtS_by h).1.imp (fun {x y} hc e => by subst e; exact ord_cmpT.irr _ hc), nxtS_ok h⟩
theorem srt_nodup {cf : Men → Men → Int} (hO : Ord3 cf) (he : ∀ x y, validB x = true → validB y = true → cf x y = 0 → x = y) {L : List Men} (hv : ∀ x ∈ L, validB x = true) (hd : L.Nodup) (hs : L.Pairwise (fun x y => ¬ cf y x < 0)) : L.Pairwise (fun x y => cf x y < 0) := by
 refine (hs.and hd).imp_of_mem fun {x y} hx hy h => ?_
 have h1 := hO.anti x y
 rcases (by omega : cf x y = 0 ∨ cf x y < 0) with h0 | h0
 ·exact absurd (he x y (hv x hx) (hv y hy) h0) h.2
 ·exact h0
theorem clo_by {m : Men} (h : vN m) {n : Nat} (hn : EndAt m n) : SrtBy cmpC (srtD cmpC (bfs m n)) (bfs m n) := srtD_by ord_cmpC cmpC_he _ (fun x hx => (vN_iff x).2 ((bfs_fam h n hn.1).2 x hx).1)
set_option maxRecDepth 100000 in
theorem closure_any (m : Men) (hv : validB m = true) (w : World) :
  Calls Tryz.prog 26 #[.agg m.cs.toArray] w fun e w' => (∃ v n, EndAt m n ∧ e = .returned (.tuple #[v, .int .i64 0]) ∧ w'.ownsRow w.heap.size 26 12 v (srtD cmpC (bfs m n)).length (mensV (srtD cmpC (bfs m n)))) ∧ Below w.heap.size w w' := by
 obtain ⟨i0, hi00, hz0, hz1, hz2⟩ := info_parts info26
 have hM := HasO.new w (.cells m.cs.toArray 26)
 have hB := below_box w (.cells m.cs.toArray 26)
 have hva := fun W => valid_any m W
 rw [hv] at hva
 have hN := Lib.hid ((vN_iff m).1 hv)
 clear hv
 go_enter Tryz.func26, Tryz.ntmps26
 go_upto_region 1 with fail
 show Code.wp _ _ _ _ (w.alloc (.cells m.cs.toArray 26))
 have hs1 : w.heap.size < (w.alloc (.cells m.cs.toArray 26)).heap.size := by simp
 generalize w.alloc (.cells m.cs.toArray 26) = w1 at *
 go_wp2_with (first | (refine wpList_loadO rfl 26 (.tmp 1) rfl w.heap.size _ 26 rfl hM (by kernel_rfl) ?_) | fail)
 refine (hva w1).mono ?_
 rintro e w2 ⟨rfl, hb2⟩
 have hM2 := hM.call hb2
 have hB2 := below_call hB hB.size hb2
 have hs2 := hb2.size
 clear hM hB hb2 hva
 go_wp2_with fail
 refine wp_region_relL (by kernel_rfl) (by kernel_rfl) [some 12, some 13, some 14, some 15, none, some 16, some 4, some 5] (by rfl) (by rfl) (clR w2 m) (fun S S9 f9 W hS h => cl_congr S S9 f9 W hS h) (fun f9 => cl_init f9) ?hstep ?hend
 case hstep =>
  intro S i9 o9 f9 W ho hi hSj hpre hcl hR K hK
  have hkm := key_men hN.out
  have hi : i9 < 8 := hi
  rcases i9 with _ | _ | _ | _ | _ | _ | _ | _ | i9
  ·exact st_loadA (og ho) 26 (.tmp 1) (oo ho) (rd_out rfl rfl) m.cs (by kernel_rfl) (fun j v hv => by rw [Nat.zero_add, (hM2.call hR.1).cells j]; simpa using hv) (hK _ _ (cl_0 hR))
  ·exact st_buildSlice1 (og ho) 57 (.tmp 12) (oo ho) (ri 0 (hR.2.1 (da ho hpre 0))) (mkS m W) (hK _ _ (cl_1 hR hSj))
  ·exact st_makeMap (og ho) 109 (oo ho) (mk109 W) (hK _ _ (cl_2 hR hSj))
  ·exact st_loadA (og ho) 26 (.tmp 1) (oo ho) (rd_out rfl rfl) m.cs (by kernel_rfl) (fun j v hv => by rw [Nat.zero_add, (hM2.call hR.1).cells j]; simpa using hv) (hK _ _ (cl_3 hR))
  ·obtain ⟨W', hrun, hR'⟩ := cl_4 hR hSj (da ho hpre 2) hkm
   exact st_insert (og ho) 109 (.tmp 14) (.tmp 15) (.const (.bool true)) (oo ho) (ri 2 rfl) (ri 3 (hR.2.2.2.2.1 (da ho hpre 3))) rfl hrun (hK _ _ hR')
  ·exact st_move (og ho) (.tmp 14) (oo ho) (ri 2 rfl) (hK _ _ (cl_5 hR hSj (da ho hpre 2)))
  ·exact st_assign (og ho) (.tmp 13) (oo ho) (ri 1 rfl) (hK _ _ (cl_6 hR (da ho hpre 1)))
  ·exact st_assign (og ho) (.tmp 16) (oo ho) (ri 5 rfl) (hK _ _ (cl_7 hR (da ho hpre 5)))
  ·omega
 case hend =>
  intro S f9 W hS hR
  obtain ⟨hC, _, h1, h2, _, _, h5, h6, h7⟩ := hR
  obtain ⟨g, e1, hgl, hG⟩ := h1 (hS 1 (by decide))
  obtain ⟨b, e2, hbl, hmap⟩ := h2 (hS 2 (by decide))
  replace h5 := (h5 (hS 5 (by decide))).2
  replace h6 := (h6 (hS 6 (by decide))).2
  replace h7 := (h7 (hS 7 (by decide))).2
  rw [hS 4 (by decide)] at hmap
  have hmap0 : SeenB W b (bfs m 0).length (bfs m 0) := seen_one hN.out hmap
  have hB3 := below_call hB2 hB2.size hC
  have hgb : g ≠ b := by
   rintro rfl
   obtain ⟨D, ⟨es, clock, hbl, _⟩, _⟩ := hmap0
   have h9 : W.heap[g]? = _ := hG
   rw [hbl] at h9; cases h9
  have hown : W.ownsRow w.heap.size 26 12 (.slice (some ⟨g, 0, none⟩) 1 1) (bfs m 0).length (mensV (bfs m 0)) := own_new1 hG (show w.heap.size ≤ g by omega)
  have hlg := hG.lt
  have hlb := hmap0.lt
  simp only [putL, Act.put, List.setIfInBounds_toArray, List.set_cons_succ, List.set_cons_zero]
  rw [h7, h5, h6, e1, e2]
  generalize f9 0 = u0, f9 3 = u3, f9 4 = u4
  have hs3 : w.heap.size ≤ b ∧ w.heap.size < W.heap.size := by omega
  have hnb : (Value.slice (some ⟨g, 0, none⟩) 1 1).ownBlock ≠ some b := by
   intro h; injection h with h; exact hgb h
  clear h1 h2 h5 h6 h7 e1 e2 hmap hS hC hG hB2 hM2 hgl hbl hs1 hs2 hgb hlg hlb
  generalize W = w3 at *
  obtain ⟨B, hBn⟩ : ∃ B, B = 9765626 := ⟨_, rfl⟩
  go_wp2_with fail
  go_loopg [4, 6] B (fun q lv iv wr => ∃ j : Nat, ∃ wz, wz = wr ∧ q + j = B ∧ j ≤ (bfs m j).length ∧ Hid (∀ i, i < j → i < (bfs m i).length) ∧ iv = .int .i64 (j : Nat) ∧ wr.ownsRow w.heap.size 26 12 lv (bfs m j).length (mensV (bfs m j)) ∧ SeenB wr b (bfs m j).length (bfs m j) ∧ Below w.heap.size w wr ∧ w.heap.size < wr.heap.size ∧ lv.ownBlock ≠ some b)
  case atStart => exact ⟨0, _, rfl, rfl, Nat.zero_le _, Lib.hid (fun i hi => absurd hi (Nat.not_lt_zero i)), rfl, hown, hmap0, hB3, hs3.2, hnb⟩
  case round =>
   clear hown hmap0 hB3 hnb
   have hs3 := hs3.1
   obtain ⟨j, w4, rfl, hq, hj, hwh, rfl, hown, hmap, hB4, hs4, hnb⟩ := hrel
   have hF := bfs_fam hN.out j hwh.out
   have hFl := hF.len
   obtain ⟨L, hL⟩ : ∃ L, L = bfs m j := ⟨_, rfl⟩
   rw [← hL] at hown hmap hF hFl hj
   obtain ⟨n, hn⟩ : ∃ n, n = L.length := ⟨_, rfl⟩
   rw [← hn] at hown hmap hFl hj
   by_cases hj2 : j < n
   ·have hjj : (j : Int) < n := by omega
    obtain ⟨x, hx⟩ : ∃ x, x = L[j]?.getD zeroMen := ⟨_, rfl⟩
    have hxL : x ∈ L := by rw [hx, List.getElem?_eq_getElem (by rw [← hn]; exact hj2)]; exact List.getElem_mem _
    obtain ⟨hvx, hfx, hrx⟩ := hF.2 x hxL
    have hnex := fun W => next_any x ((vN_iff x).2 hvx) W
    have hNF := nxtS_fam hvx
    obtain ⟨N, hN2⟩ : ∃ N, N = nxtS x := ⟨_, rfl⟩
    rw [← hN2] at hnex hNF
    have hNl := hNF.len
    have hNm : ∀ y ∈ N, vN y ∧ y.f = m.f ∧ y.r = m.r := fun y hy => ⟨(hNF.2 y hy).1, (hNF.2 y hy).2.1.trans hfx, (hNF.2 y hy).2.2.trans hrx⟩
    have hnx : bfs m (j + 1) = addN L N := by rw [hN2, hx, hL]; rfl
    have hFi : ∀ i, Fam m (addN L (N.take i)) := fun i => addN_fam _ _ hF (fun y hy => hNm y (List.mem_of_mem_take hy))
    have hwh1 : ∀ i, i < j + 1 → i < (bfs m i).length := by
     intro i hi
     rcases Nat.lt_or_ge i j with h | h
     ·exact hwh.out i h
     ·obtain rfl : i = j := by omega
      rw [← hL, ← hn]; exact hj2
    rw [hn] at hown
    obtain ⟨p, cp, rfl, hArr⟩ := own_marr hown
    obtain ⟨g, rfl, hgl, hc⟩ := hArr.at (by rw [← hn]; exact hj2)
    rw [← hn] at hown
    rw [← hx] at hc
    clear hArr hvx hfx hrx hNF hxL
    replace hx := Lib.hid hx
    replace hN2 := Lib.hid hN2
    replace hL := Lib.hid hL
    replace hwh1 := Lib.hid hwh1
    replace hnx := Lib.hid hnx
    replace hNm := Lib.hid hNm
    replace hFi := Lib.hid hFi
    replace hn := Lib.hid hn
    rw [← hn.out]
    go_wp2_with (first | (refine wpList_loadA rfl 26 (.tmp 25) rfl rfl x.cs (by kernel_rfl) hc ?_) | fail)
    refine (hnex w4).mono ?_
    rintro e w5 ⟨⟨v2, rfl, hown2⟩, hb5⟩
    have hown5 := own_call hown hb5
    have hmap5 := hmap.call hb5
    have hB5 := below_call hB4 hB4.size hb5
    have hs5 := Nat.lt_of_lt_of_le hs4 hb5.size
    have hbl4 := hmap.lt
    have hv2 : ∀ g', v2.ownBlock = some g' → b < g' ∧ g < g' := fun g' e => by have := (hown2.lt g' e).1; omega
    obtain ⟨p2, c2, rfl, hArr2⟩ := own_marr hown2
    have hp2 : ∀ g', p2 = some ⟨g', 0, none⟩ → b < g' ∧ g < g' := fun g' e => hv2 g' (by rw [e]; rfl)
    clear hown hmap hB4 hb5 hown2 hv2 hnex hc hs4 hgl
    go_wp2_with fail
    obtain ⟨gk1, hg1⟩ : ∃ x, x = gk := ⟨_, rfl⟩
    subst hg1
    go_loopg [4, 29] B (fun q lv iv wr => ∃ i : Nat, ∃ wz, wz = wr ∧ q + i = B ∧ i ≤ N.length ∧ iv = .int .i64 (i : Nat) ∧ wr.ownsRow w.heap.size 26 12 lv (addN L (N.take i)).length (mensV (addN L (N.take i))) ∧ SeenB wr b (addN L (N.take i)).length (addN L (N.take i)) ∧ Below w.heap.size w wr ∧ w.heap.size < wr.heap.size ∧ lv.ownBlock ≠ some b ∧ MArr wr p2 N ∧ ∀ g', p2 = some ⟨g', 0, none⟩ → lv.ownBlock ≠ some g')
    case atStart => exact ⟨0, _, rfl, rfl, Nat.zero_le _, rfl, by rw [show (addN L (N.take 0)).length = n from hn.out.symm]; exact hown5, by rw [show (addN L (N.take 0)).length = n from hn.out.symm]; exact hmap5, hB5, hs5, hnb, hArr2, fun g' e h => by have h9 := (hp2 g' e).2; injection h with h; exact absurd (show g = g' from h) (by omega)⟩
    case round =>
     clear hown5 hmap5 hB5 hs5 hnb hArr2
     obtain ⟨i, w5, rfl, hq, hi, rfl, hown, hmap, hB5, hs5, hnb, hArr, hdis⟩ := hrel
     have hTl := (hFi.out i).len
     by_cases hi2 : i < N.length
     ·have hii : (i : Int) < N.length := by omega
      obtain ⟨g2, rfl, hgl2, hc2⟩ := hArr.at hi2
      obtain ⟨k, hk⟩ : ∃ k, k = N[i]?.getD zeroMen := ⟨_, rfl⟩
      have hkN : k ∈ N := by rw [hk, List.getElem?_eq_getElem hi2]; exact List.getElem_mem hi2
      have hvk := (hNm.out k hkN).1
      have htk := addN_take L N hi2 hk
      rw [← hk] at hc2
      obtain ⟨T, hT⟩ : ∃ T, T = addN L (N.take i) := ⟨_, rfl⟩
      rw [← hT] at hown hmap hTl htk
      have hX := HasO.new w5 (.cells k.cs.toArray 26)
      have hbX := below_box w5 (.cells k.cs.toArray 26)
      have hown6 := own_call hown hbX
      have hmap6 := hmap.call hbX
      have hArr6 := hArr.call hbX
      have hB6 := below_call hB5 hB5.size hbX
      have hs6 := Nat.lt_of_lt_of_le hs5 hbX.size
      have hd0 := hdis g2 rfl
      replace hk := Lib.hid hk
      replace hT := Lib.hid hT
      replace htk := Lib.hid htk
      replace hvk := Lib.hid hvk
      have hbg2 := (hp2 g2 rfl).1
      have hbl := hmap.lt
      obtain ⟨c, hcm⟩ : ∃ c, c = decide (k ∈ T) := ⟨_, rfl⟩
      replace hcm := Lib.hid hcm
      clear hown hmap hbX hs5 hkN
      go_upto_region 10 with (first | (refine wpList_loadA rfl 26 (.tmp 31) rfl rfl k.cs (by kernel_rfl) hc2 ?_) | fail)
      show Code.wp _ _ _ _ (w5.alloc (.cells k.cs.toArray 26))
      generalize hw6 : w5.alloc (.cells k.cs.toArray 26) = w6 at *
      clear hw6 hc2 hB5 hArr
      generalize hq5 : w5.heap.size = q5 at *
      clear hq5
      by_cases hmem : k ∈ T
      ·obtain rfl : c = true := by rw [hcm.out]; simpa using hmem
       have hnT : addN L (N.take (i + 1)) = T := by rw [htk.out, if_pos hmem]
       replace hnT := Lib.hid hnT
       clear hmem
       go_wp2_with (first
        | (refine wpList_loadO rfl 26 (.tmp 8) rfl q5 _ 26 rfl hX (by kernel_rfl) ?_)
        | (at_lookup; refine wpList_lookS rfl (.tmp 33) (.tmp 34) rfl b T.length T rfl hmap6 k rfl hvk.out true hcm.out ?_) | fail)
       go_roundg (gk - 1)
       case measure => omega
       case rel => exact ⟨i + 1, _, rfl, by omega, hi2, by go_num, by rw [hnT.out]; exact hown6, by rw [hnT.out]; exact hmap6, hB6, hs6, hnb, hArr6, hdis⟩
      ·obtain rfl : c = false := by rw [hcm.out]; simpa using hmem
       have hnT : addN L (N.take (i + 1)) = T ++ [k] := by rw [htk.out, if_neg hmem]
       have hTl2 : T.length + 1 ≤ 9765625 := by
        have h9 := (hFi.out (i + 1)).len
        rw [hnT, List.length_append] at h9
        exact h9
       replace hnT := Lib.hid hnT
       clear hmem
       go_upto_region 12 with (first
        | (refine wpList_loadO rfl 26 (.tmp 8) rfl q5 _ 26 rfl hX (by kernel_rfl) ?_)
        | (at_lookup; refine wpList_lookS rfl (.tmp 33) (.tmp 34) rfl b T.length T rfl hmap6 k rfl hvk.out false hcm.out ?_)
        | (at_mapUpdate; refine wpList_updS rfl (.tmp 37) (.tmp 38) (.const (.bool true)) rfl b T.length T rfl hmap6 (by unfold maxLen; omega) k rfl rfl hvk.out ?_; intro w7 hmap7 hgr7) | fail)
       have hX7 := hX.grown hgr7 (by intro h; injection h with h; omega)
       have hown7 := hown6.kept hgr7 (.inr hnb)
       have hB7 := hB6.grown hgr7 hB6.size (fun j h => by cases h; exact hs3)
       have hs7 := Nat.lt_of_lt_of_le hs6 hgr7.size
       have hArr7 := hArr6.grown hgr7 (by intro g' e h; injection e with e; injection e with e; injection h with h; omega)
       clear hX hown6 hB6 hs6 hArr6 hmap6 hgr7
       have hN8 := HasO.new w7 (.cells k.cs.toArray 26)
       have hbN := below_box w7 (.cells k.cs.toArray 26)
       have hown8 := own_call hown7 hbN
       have hB8 := below_call hB7 hB7.size hbN
       have hArr8 := hArr7.call hbN
       have hmap8 := hmap7.call hbN
       have hs8 := Nat.lt_of_lt_of_le hs7 hbN.size
       have hg7 : g2 < w7.heap.size := by
        rcases hArr7 with h | ⟨g', e', hl', _⟩
        ·rw [h] at hi2; exact absurd hi2 (Nat.not_lt_zero i)
        ·injection e' with e'; injection e' with e'; rw [e']; exact hl'
       have hb7 : b < w7.heap.size := hmap7.lt
       clear hown7 hB7 hArr7 hmap7 hs7 hbN
       go_wp2_with (first
        | (refine wpList_loadO rfl 26 (.tmp 8) rfl q5 _ 26 rfl hX7 (by kernel_rfl) ?_)
        | (at_builtin; refine wpList_append_own_at _ rfl (.tmp 39) (.tmp 41) 57 rfl w.heap.size 26 i0 _ 12 96 Tryz.underlying57 hi00 hz0 hz1 hz2 rfl (by decide) _ T.length (mensV T) rfl hown8 ⟨w7.heap.size, 0, none⟩ 1 1 k.cs rfl rfl (fun i u hu => by rw [Addr.add_lit, Nat.zero_add, hN8.cells i]; simpa using hu) (men_one26 _) (by unfold maxLen; omega) (by omega) (Nat.le_of_lt hs8) ?_) | fail)
       intro v' w9 hown9 hg9 _ hat9
       have hB9 := hB8.grown hg9 hB8.size (fun j e => by have := (hown8.lt j e).1; omega)
       have hArr9 := hArr8.grown hg9 (by intro g' e h; exact hdis g' e h)
       have hmap9 := hmap8.kept hg9 (fun e => hnb e.symm)
       have hs9 := Nat.lt_of_lt_of_le hs8 hg9.size
       have hnb9 : v'.ownBlock ≠ some b := by
        intro h
        rcases hat9 with h2 | h2
        ·exact hnb (h2 ▸ h)
        ·rw [h2] at h; injection h with h; omega
       have hdis9 : ∀ g', (some ⟨g2, 0, none⟩ : Option Addr) = some ⟨g', 0, none⟩ → v'.ownBlock ≠ some g' := by
        intro g' e h
        injection e with e; injection e with e; subst e
        rcases hat9 with h2 | h2
        ·exact hd0 (h2 ▸ h)
        ·rw [h2] at h; injection h with h; omega
       replace hown9 : w9.ownsRow w.heap.size 26 12 v' (addN L (N.take (i + 1))).length (mensV (addN L (N.take (i + 1)))) := by
        rw [hnT.out, mensV_snoc, List.length_append]; exact hown9
       replace hmap9 : SeenB w9 b (addN L (N.take (i + 1))).length (addN L (N.take (i + 1))) := by
        rw [hnT.out, List.length_append]; exact hmap9
       clear hown8 hg9 hB8 hArr8 hmap8 hat9 hN8 hX7 hs8
       go_wp2_with fail
       go_roundg (gk - 1)
       case measure => omega
       case rel => exact ⟨i + 1, _, rfl, by omega, hi2, by go_num, hown9, hmap9, hB9, hs9, hnb9, hArr9, hdis9⟩
     ·have hii : ¬ (i : Int) < N.length := by omega
      obtain rfl : i = N.length := by omega
      have hle := addN_len N L
      rw [List.take_length, ← hnx.out] at hown hmap
      rw [← hnx.out, ← hn.out] at hle
      clear hArr hdis hTl
      go_wp2_with fail
      go_roundg (gk1 - 1)
      case measure => omega
      case rel => exact ⟨j + 1, _, rfl, by omega, by omega, hwh1, by go_num, hown, hmap, hB5, hs5, hnb⟩
   ·have hjj : ¬ (j : Int) < n := by omega
    obtain rfl : j = n := by omega
    obtain ⟨p, cp, rfl⟩ := own_form hown
    have hE : EndAt m j := ⟨hwh.out, by rw [← hL]; exact hn⟩
    have hby := clo_by hN.out hE
    rw [← hL] at hby
    have hval : ∀ x ∈ L, validB x = true := fun x hx => (vN_iff x).2 (hF.2 x hx).1
    have hst := sortV_any 70 cmpC ord_cmpC cmpClo_ok w.heap.size j (.slice p j cp) L hn hval w4 hown (by omega)
    have hlo : ∀ g', (Value.slice p j cp).ownBlock = some g' → w.heap.size ≤ g' := fun g' e => (hown.lt g' e).1
    replace hn := Lib.hid hn
    replace hL := Lib.hid hL
    replace hE := Lib.hid hE
    replace hby := Lib.hid hby
    have hd := hF.1
    clear hF hmap
    go_wp2_with fail
    refine hst.mono ?_
    rintro e w5 ⟨rfl, L', hp, hpw, hown5, hg5⟩
    have hB5 := hB4.grown hg5 hB4.size hlo
    have hLE : L' = srtD cmpC (bfs m j) := by
     rw [← hL.out]
     refine SrtBy.uniq (M := L) ord_cmpC ⟨?_, fun x => hp.mem_iff⟩ hby.out (fun x => Iff.rfl)
     exact srt_nodup ord_cmpC cmpC_he (fun x hx => hval x (hp.mem_iff.1 hx)) (hp.symm.nodup hd) (hpw.imp fun h => by omega)
    clear hst hg5 hown
    go_wp2_with fail
    refine bodyPost_ret (results_tmp2 rfl _ _ _) rfl ⟨⟨_, j, hE.out, rfl, ?_⟩, hB5⟩
    have hll : j = (srtD cmpC (bfs m j)).length := by rw [← hLE, hp.length_eq]; exact hn.out
    rw [← hLE]
    rw [← hLE] at hll
    rw [← hll]
    exact hown5
end Go.Proofs.YtnpomigmeieofaaGreatDoor
