import Derived.Test.YtddkhnnpeonbgaaGreatDoorH19
namespace Go.Proofs.YtddkhnnpeonbgaaGreatDoor
open Go.RowKit

set_option maxHeartbeats 2000000 in
set_option maxRecDepth 100000 in
theorem Unpack_any (p : Option Addr) (c : Nat) (bs : List Int) (w : World) (hx : Arr .u8 w p bs) (hbs : isBytes bs) (hl : bs.length ≤ 2000000) (hc : bs.length ≤ c) (hm : MaxOk w) :
  Calls Tryz.prog 12 #[.slice p bs.length c] w (UnpR w (tabB bs) (fun b => .int .i64 (if b then 0 else 6))) := by
 obtain ⟨i0, hi0, hz0, hz1, hz2⟩ := info_parts Tryz.info56
 have hms : 1 < w.heap.size := by obtain ⟨_, _, h⟩ := hm; exact h
 have hA : HasO (w.alloc (.cells (tabCs zeroMen none 0 0).toArray 44)) w.heap.size (.cells (tabCs zeroMen none 0 0).toArray 44 (0, 0)) := HasO.new _ _
 have hb := below_box w (.cells (tabCs zeroMen none 0 0).toArray 44)
 have hm2 : MaxOk (w.alloc (.cells (tabCs zeroMen none 0 0).toArray 44)) := MaxOk.call hm (below_box _ _) hms
 have hx2 := hx.call hb
 go_enter Tryz.func12, Tryz.ntmps12
 go_wp2_with fail
 show Calls Tryz.prog 22 _ (w.alloc (.cells (tabCs zeroMen none 0 0).toArray 44)) _
 refine (pof_S p c bs _ hx2 hbs hl hc hm2).mono ?_
 rintro e w1 ⟨hb1, vp, vn, vc, rfl, hno, hyes⟩
 have hA1 := hA.call hb1
 have hb2 := below_call hb (by simp) hb1
 have hlt := hA1.lt
 clear hA hb hm2 hx2
 have hi29 : Hid ((Tryz.prog.info? 44).map (·.size) = some (tabCs zeroMen none 0 0).toArray.size) := Lib.hid (by kernel_rfl)
 have hone : Hid ((tabCs zeroMen none 0 0).toArray.all (·.oneCell') = true) := Lib.hid (by kernel_rfl)
 rcases hM : outM bs with _ | m
 ·have hV : outV bs = (zeroMen, 0, 6) := by unfold outV; rw [hM]
  have hG : Hid (tabB bs = none) := Lib.hid (by unfold tabB; rw [hM])
  rw [hV]
  have hb3 := hb2.alloc hb2.size (.cells (outCs zeroMen 0 (.slice vp vn vc)).toArray 65)
  have hA2 := hA1.alloc (.cells (outCs zeroMen 0 (.slice vp vn vc)).toArray 65)
  clear hno hyes hM hV hA1
  go_wp2_with (refine wpList_storeAgg rfl 44 (.tmp 2) (.tmp 18) rfl w.heap.size (tabCs zeroMen none 0 0).toArray ?_ ?_ 44 _ hA2 ?_ ?_ ?_ ?_)
  ·rfl
  ·rfl
  ·exact hi29.out
  ·rfl
  ·exact hone.out
  refine bodyPost_ret (results_ct2 (fn := Tryz.f12) Tryz.results12 rfl (setRow_hasO hA2) (by kernel_rfl) rfl) rfl ?_
  exact ⟨setRow_below hb3 (Nat.le_refl _) hb3.size, .inl ⟨hG.out, rfl⟩⟩
 ·obtain ⟨g, o, rfl, hown⟩ := hyes m hM
  obtain ⟨hv, hnpos, hn, hbody, _⟩ := outM_fact hM
  have hV : outV bs = (m, (countN m : Int), 0) := by unfold outV; rw [hM]
  have hG : tabB bs = if tabOk m (entsL bs (countN m) (nBlk (countN m))) = true ∧ packL m (entsL bs (countN m) (nBlk (countN m))) = bs then some (m, entsL bs (countN m) (nBlk (countN m))) else none := by unfold tabB; rw [hM]
  have hlen := outM_len hM
  rw [hV]
  clear hno hyes hM hV
  replace hG := Lib.hid hG
  replace hbody := Lib.hid hbody
  have hN : 0 < nBlk (countN m) := by unfold nBlk; omega
  have hNb : nBlk (countN m) ≤ 8193 := by unfold nBlk; omega
  obtain ⟨gb, cap, ev, hgb, hgl, hcap, hcells⟩ := blk_slice hown hN
  injection ev with ev1 ev2 ev3
  subst ev1; subst ev2; subst ev3
  obtain ⟨n, hn2⟩ : ∃ n, n = countN m := ⟨_, rfl⟩
  rw [← hn2] at hcells hN hNb hnpos hn hG hbody
  rw [← hn2]
  obtain ⟨N, hN2⟩ : ∃ N, N = nBlk n := ⟨_, rfl⟩
  rw [← hN2] at hcells hN hNb hG
  rw [← hN2]
  replace hN2 := Lib.hid hN2
  replace hn2 := Lib.hid hn2
  have hNi : (N : Int) ≤ 8193 := by omega
  simp only []
  have hb3 := (hb2.alloc hb2.size (.cells (outCs m n (.slice (some ⟨gb, 0, none⟩) N vc)).toArray 65)).alloc (hb2.alloc hb2.size (.cells (outCs m n (.slice (some ⟨gb, 0, none⟩) N vc)).toArray 65)).size (.cells (tabV m (.slice none 0 0)).toArray 44)
  have hB3 : Below w1.heap.size w1 ((w1.alloc (.cells (outCs m n (.slice (some ⟨gb, 0, none⟩) N vc)).toArray 65)).alloc (.cells (tabV m (.slice none 0 0)).toArray 44)) := (below_box _ _).alloc (by simp) _
  have hQ : HasO ((w1.alloc (.cells (outCs m n (.slice (some ⟨gb, 0, none⟩) N vc)).toArray 65)).alloc (.cells (tabV m (.slice none 0 0)).toArray 44)) (w1.heap.size + 1) (.cells (tabV m (.slice none 0 0)).toArray 44 (0, 0)) := HasO.new' _ _ (by simp)
  have hA3 := (hA1.alloc (.cells (outCs m n (.slice (some ⟨gb, 0, none⟩) N vc)).toArray 65)).alloc (.cells (tabV m (.slice none 0 0)).toArray 44)
  clear hown hb2 hA1
  go_wp2_with fail
  show Code.wp _ _ _ _ ((w1.alloc (.cells (outCs m n (.slice (some ⟨gb, 0, none⟩) N vc)).toArray 65)).alloc (.cells (tabV m (.slice none 0 0)).toArray 44))
  obtain ⟨qt, hqt⟩ : ∃ x, x = w1.heap.size + 1 := ⟨_, rfl⟩
  rw [← hqt]
  rw [← hqt] at hQ
  have hqt0 : w.heap.size < qt := by omega
  have hgbq : gb < qt := by omega
  generalize (w1.alloc (.cells (outCs m n (.slice (some ⟨gb, 0, none⟩) N vc)).toArray 65)).alloc (.cells (tabV m (.slice none 0 0)).toArray 44) = wB at *
  have hbyB := bytesAt_arr (hx.call hb3) hlen
  have hqB := hQ.lt
  have hg0 : g < qt := by have := (bytesAt_arr hx hlen).2; omega
  have hB4 : ∀ j, wB.cell? ⟨gb, j, none⟩ = w1.cell? ⟨gb, j, none⟩ := fun j => hB3.cell (p := ⟨gb, j, none⟩) hgl
  replace hqt := Lib.hid hqt
  replace hB4 := Lib.hid hB4
  clear hB3
  go_loopw [26] (fun iv wr => ∃ k : Nat, k ≤ N ∧ iv = .int .i64 k ∧ Below qt wB wr ∧ wB.heap.size ≤ wr.heap.size ∧ ∃ v, HasO wr qt (.cells (tabV m v).toArray 44 (0, 0)) ∧ wr.ownsRow qt 30 1 v (entsL bs n k).length ((entsL bs n k).map (.int .i16))) (fun iv _ => N - (intOf iv).toNat)
  case atStart => exact ⟨0, Nat.zero_le _, rfl, Below.refl _ _, Nat.le_refl _, _, hQ, World.ownsRow_nil _ _ _ _⟩
  case round =>
   clear hQ
   obtain ⟨k, hk, rfl, hbw, hzw, v, hq, hown⟩ := hrel
   by_cases hlt : k < N
   ·have hlt2 : (k : Int) < N := by omega
    obtain ⟨k0, k1, k2, k3⟩ := hcells k hlt
    have x0 := (hbw.cell (p := ⟨gb, k * 4, none⟩) hgbq).trans ((hB4.out _).trans k0)
    have x1 := (hbw.cell (p := ⟨gb, k * 4 + 1, none⟩) hgbq).trans ((hB4.out _).trans k1)
    have x2 := (hbw.cell (p := ⟨gb, k * 4 + 2, none⟩) hgbq).trans ((hB4.out _).trans k2)
    have x3 := (hbw.cell (p := ⟨gb, k * 4 + 3, none⟩) hgbq).trans ((hB4.out _).trans k3)
    have hgw : gb < wr.heap.size := by omega
    clear k0 k1 k2 k3
    obtain ⟨blk, hblk⟩ : ∃ l, l = blkCs (widB bs n k) (lowB bs n k) (some ⟨g, blkOff bs o c n k, none⟩) (nbB bs n k) (c - posB bs n k - 3) (manyB n k) := ⟨_, rfl⟩
    have hX := HasO.new wr (.cells blk.toArray 70)
    have hbA := hbw.alloc (by omega) (.cells blk.toArray 70)
    have hqA := hq.alloc (.cells blk.toArray 70)
    have hownA := hown.alloc (.cells blk.toArray 70)
    have hzA : wB.heap.size ≤ (wr.alloc (.cells blk.toArray 70)).heap.size := by simp; omega
    have hmany : manyB n k ≤ 32 := by unfold manyB; omega
    have hmi : (manyB n k : Int) ≤ 32 := by omega
    replace hblk := Lib.hid hblk
    go_wp2_with fail
    show Code.wp _ _ _ _ (wr.alloc (.cells (blkCs (widB bs n k) (lowB bs n k) (some ⟨g, blkOff bs o c n k, none⟩) (nbB bs n k) (c - posB bs n k - 3) (manyB n k)).toArray 70))
    rw [← hblk.out]
    obtain ⟨qb, hqb⟩ : ∃ x, x = wr.heap.size := ⟨_, rfl⟩
    rw [← hqb]
    rw [← hqb] at hX
    have hqbt : qb ≠ qt := by omega
    clear hqb hbw hown hq x0 x1 x2 x3
    obtain ⟨wo, hwo⟩ : ∃ x, x = wr.alloc (.cells blk.toArray 70) := ⟨_, rfl⟩
    rw [← hwo] at hX hbA hqA hownA hzA ⊢
    clear hwo hgw hzw
    go_loopw [32] (fun iv w2 => ∃ i : Nat, i ≤ manyB n k ∧ iv = .int .i64 i ∧ Below qt wB w2 ∧ wB.heap.size ≤ w2.heap.size ∧ HasO w2 qb (.cells blk.toArray 70 (0, 0)) ∧ ∃ v, HasO w2 qt (.cells (tabV m v).toArray 44 (0, 0)) ∧ w2.ownsRow qt 30 1 v (entsL bs n k ++ entsB bs n k i).length ((entsL bs n k ++ entsB bs n k i).map (.int .i16))) (fun iv _ => manyB n k - (intOf iv).toNat)
    case atStart => exact ⟨0, Nat.zero_le _, rfl, hbA, hzA, hX, v, hqA, by simpa [entsB] using hownA⟩
    case round =>
     clear hbA hzA hX hqA hownA
     obtain ⟨i, hi, rfl, hbw, hzw, hX, v, hq, hown⟩ := hrel
     by_cases hil : i < manyB n k
     ·have hil2 : (i : Int) < manyB n k := by omega
      obtain ⟨x, hx'⟩ : ∃ x, x = entB bs n k i := ⟨_, rfl⟩
      obtain ⟨es, hes⟩ : ∃ l, l = entsL bs n k ++ entsB bs n k i := ⟨_, rfl⟩
      have hnext : entsL bs n k ++ entsB bs n k (i + 1) = es ++ [x] := by rw [hes, hx']; simp [entsB]
      have hesl : es.length ≤ 262144 := by
       rw [hes, List.length_append, entsB_len, entsL_len _ _ _ (by rw [← hN2.out]; omega)]
       have : manyB n k = min 32 (n - 32 * k) := rfl
       omega
      rw [← hes] at hown
      replace hnext := Lib.hid hnext
      replace hx' := Lib.hid hx'
      clear hes
      have hsl := own_slice hown
      go_wp2_with fail
      refine wp_region_relL (by kernel_rfl) (by kernel_rfl) [some 35, some 36, some 37, some 38, some 39, some 40, some 41, some 42, none] (by rfl) (by rfl)
       (unpR wB qt qb m blk (fun j => [.pointer (some ⟨qt, 12, none⟩), v, .agg blk.toArray, .int .i64 i, .int .i16 x, undef, undef, .pointer (some ⟨qt, 12, none⟩)].getD j undef) v es.length es x)
       unpR_congr ?h0 ?hstep ?hend
      case h0 =>
       intro f
       exact ⟨⟨hbw.drew, hX, _, hq⟩, (fun _ _ _ _ h => by cases h), fun _ => ⟨own_call hown (Below.refl _ _).drew, hq⟩, (fun h => by cases h), (fun h => by cases h), (fun h => by cases h)⟩
      case hstep =>
       intro S j op f W ho hj hSj hpre hcl hR K hK
       have hj : j < 9 := hj
       obtain ⟨⟨c1, c2, u, c3⟩, h1, h2, h3, h4, h5⟩ := id hR
       have hqW : qt ≤ W.heap.size := Nat.le_of_lt c3.lt
       rcases (by omega : j = 0 ∨ j = 1 ∨ j = 2 ∨ j = 3 ∨ j = 4 ∨ j = 5 ∨ j = 6 ∨ j = 7 ∨ j = 8) with rfl | rfl | rfl | rfl | rfl | rfl | rfl | rfl | rfl
       ·exact st_field (og ho rfl) 44 (.tmp 6) 1 (oo ho rfl) (rd_out rfl rfl) (n := 12) (by kernel_rfl) (hK _ _ (unpR_step hR 0 (by decide) (Below.refl _ _)))
       ·have h6 : S 6 = false := by
         rcases h : S 6 with _ | _
         ·rfl
         ·have := hcl 6 _ h rfl ⟨1, .data⟩ (by simp) rfl
          rw [hSj] at this; cases this
        have hd0 := h1 0 (by omega) (by omega) (by omega) (hpre ⟨0, .data⟩ (oa ho rfl) rfl)
        exact st_loadS (og ho rfl) 42 (.tmp 35) (oo ho rfl) (ri 0 hd0) (by kernel_rfl) ((h2 h6).2.cells 12) (hK _ _ (unpR_step hR 1 (by decide) (Below.refl _ _)))
       ·exact st_loadA (og ho rfl) 70 (.tmp 8) (oo ho rfl) (rd_out rfl rfl) blk (by rw [hblk.out]; kernel_rfl) (fun j v hv => by rw [Nat.zero_add, c2.cells j]; simpa using hv) (hK _ _ (unpR_step hR 2 (by decide) (Below.refl _ _)))
       ·exact st_move (og ho rfl) (.tmp 9) (oo ho rfl) (rd_out rfl rfl) (hK _ _ (unpR_step hR 3 (by decide) (Below.refl _ _)))
       ·have hd2 := h1 2 (by omega) (by omega) (by omega) (hpre ⟨2, .data⟩ (oa ho rfl) rfl)
        have hd3 := h1 3 (by omega) (by omega) (by omega) (hpre ⟨3, .data⟩ (oa ho rfl) rfl)
        have hby : BytesAt W g o bs 0 bs.length := fun j hj => by rw [c1.cell (p := ⟨g, o + j, none⟩) (by omega)]; exact hbyB.1 j hj
        have hget := blk_get (g := g) (o := o) (c := c) (k := k) (i := i) W hbs hbody.out (by rw [← hN2.out]; exact hlt) hil hby (by omega) hc
        rw [← hblk.out, ← hx'.out] at hget
        refine st_call2 (og ho rfl) 23 (.tmp 37) (.tmp 38) #[70, 3] (oo ho rfl) (ri 2 hd2) (ri 3 hd3) (enters_of Tryz.func23 (by kernel_rfl) rfl) hget ?_ ?_ ?_
        ·rintro u W' ⟨e, hb'⟩
         injection e with e
         subst e
         exact hK _ _ (unpR_step hR 4 (by decide) hb')
        ·rintro ch W' ⟨e, _⟩; cases e
        ·rintro W' ⟨e, _⟩; cases e
       ·have hd4 := h1 4 (by omega) (by omega) (by omega) (hpre ⟨4, .data⟩ (oa ho rfl) rfl)
        exact st_buildSlice1 (og ho rfl) 42 (.tmp 39) (oo ho rfl) (ri 4 hd4) (bs27 x W) (hK _ _ (unpR_5 hR))
       ·have hd1 := h1 1 (by omega) (by omega) (by omega) (hpre ⟨1, .data⟩ (oa ho rfl) rfl)
        obtain ⟨q, e5, ex⟩ := h3 (hpre ⟨5, .data⟩ (oa ho rfl) rfl) hSj
        have h8 : S 8 = false := by
         rcases h : S 8 with _ | _
         ·rfl
         ·have := hcl 8 _ h rfl ⟨6, .data⟩ (by simp) rfl
          rw [hSj] at this; cases this
        refine st_append (og ho rfl) (.tmp 36) (.tmp 40) 42 (oo ho rfl) qt 30 i0 (.int .i16 0) 1 2 Tryz.underlying42 hi0 hz0 hz1 hz2 rfl (by decide) v es.length (es.map (.int .i16)) (ri 1 hd1) (h2 hSj).1
         ⟨q, 0, none⟩ 1 1 [.int .i16 x] (ri 5 e5) rfl (fun j u hu => ?_) (fun u hu => ?_) (by omega) hqW ?_
        ·rcases j with _ | j
         ·simp at hu; subst hu; rw [Addr.add_lit]; exact ex
         ·simp at hu
        ·simp at hu; subst hu; rfl
        ·intro v' W' hown' hg' _
         exact hK _ _ (unpR_6 hR hSj h8 (by simpa using hown') hg')
       ·exact st_field (og ho rfl) 44 (.tmp 6) 1 (oo ho rfl) (rd_out rfl rfl) (n := 12) (by kernel_rfl) (hK _ _ (unpR_step hR 7 (by decide) (Below.refl _ _)))
       ·have h6 : S 6 = true := hpre ⟨6, .data⟩ (oa ho rfl) rfl
        have hd7 := h1 7 (by omega) (by omega) (by omega) (hpre ⟨7, .data⟩ (oa ho rfl) rfl)
        obtain ⟨vp, vn, vc', ev⟩ := own_slice (h4 h6)
        exact st_storeS (og ho rfl) 42 (.tmp 42) (.tmp 41) (oo ho rfl) (ri 7 hd7) (ri 6 rfl) (by kernel_rfl) (by rw [ev]; rfl) (c3.cells 12) (c3.frozen 12) (hK _ _ (unpR_8 hR h6 hqbt))
      case hend =>
       intro S f W hS hR
       obtain ⟨⟨c1, c2, u, c3⟩, _, _, _, h4, h5⟩ := hR
       have hown' := h4 (hS 6 (by decide))
       have hq' := h5 (hS 8 (by decide))
       have hzW : wB.heap.size ≤ W.heap.size := c1.size
       rw [show es.length + 1 = (es ++ [x]).length by simp] at hown'
       rw [← hnext.out] at hown'
       clear hsl hown hq hX hbw h4 h5 hS
       simp only [putL, Act.put, List.setIfInBounds_toArray, List.set_cons_succ, List.set_cons_zero]
       go_wp2_with fail
       go_roundw
       case rel => exact ⟨i + 1, by omega, by go_num, c1, hzW, c2, _, hq', hown'⟩
       case measure => simp [intOf]; omega
     ·obtain rfl : i = manyB n k := by omega
      have hil2 : ¬ ((manyB n k : Nat) : Int) < manyB n k := by omega
      go_wp2_with fail
      go_roundw
      case rel => exact ⟨k + 1, by omega, by go_num, hbw, hzw, v, hq, hown⟩
      case measure => simp [intOf]; omega
   ·obtain rfl : k = N := by omega
    have hlt2 : ¬ ((k : Nat) : Int) < k := by omega
    have hEl : (entsL bs n k).length = n := by rw [hN2.out]; exact entsL_all bs n
    rw [hEl] at hown
    have hown2 := hown
    rcases hown.2 with ⟨_, h2⟩ | ⟨ge, ce, cur, rfl, hge, hhe, hce, _⟩
    ·omega
    have hAe : Arr .i16 wr (some ⟨ge, 0, none⟩) (entsL bs n k) := by
     refine .inr ⟨ge, 0, rfl, (hown2.lt ge rfl).2, fun j hj => ?_⟩
     rw [Nat.zero_add, hown2.cellAt _ (by omega)]
     simp [hj]
    have hq' := hq
    have hbW : Below w.heap.size w wr := hb3.trans (hbw.mono (by omega))
    have hA4 : HasO wr w.heap.size (.cells (tabCs zeroMen none 0 0).toArray 44 (0, 0)) := hA3.below hbw hqt0
    have hxW := hx.call hbW
    replace hEl := Lib.hid hEl
    go_wp2_with (with_reducible refine wpList_loadO rfl 44 (.tmp 6) rfl qt (tabV m (.slice (some ⟨ge, 0, none⟩) n ce)).toArray 44 rfl hq' ?_ ?_)
    ·kernel_rfl
    have hP := Pack_any m (some ⟨ge, 0, none⟩) ce (entsL bs n k) wr hAe (by rw [hEl.out]; omega) (by rw [hEl.out]; omega)
    rw [hEl.out] at hP
    refine hP.mono ?_
    rintro e w5 ⟨⟨pv, rfl, hPR⟩, hb5⟩
    have hA5 := hA4.call hb5
    have hq5 := hq'.call hb5
    have hbW5 := below_call hbW hbW.size hb5
    have hx5 := hxW.call hb5
    have hown5 := own_call hown2 hb5
    have hlA := hA5.lt
    clear hP hAe hq' hq hA4 hA3 hbW hbw hxW hb5 hown hown2
    rcases hok : tabOk m (entsL bs n k) with _ | _
    ·have hG2 : tabB bs = none := by rw [hG.out, if_neg (by rw [hok]; simp)]
     simp only [okErr]
     replace hG2 := Lib.hid hG2
     replace hok := Lib.hid hok
     clear hPR
     go_wp2_with (with_reducible refine wpList_storeAgg rfl 44 (.tmp 2) (.tmp 58) rfl w.heap.size (tabCs zeroMen none 0 0).toArray ?_ ?_ 44 _ hA5 ?_ ?_ ?_ ?_)
     ·rfl
     ·rfl
     ·exact hi29.out
     ·rfl
     ·exact hone.out
     refine bodyPost_ret (results_ct2 (fn := Tryz.f12) Tryz.results12 rfl (setRow_hasO hA5) (by kernel_rfl) rfl) rfl ?_
     exact ⟨setRow_below hbW5 (Nat.le_refl _) hbW5.size, .inl ⟨hG2.out, rfl⟩⟩
    ·obtain ⟨pp, pc, rfl, hpc, hAp⟩ := own_arr (hPR.1 hok)
     have hby := packL_bytes hok
     have hbx : isBytes bs := hbs
     simp only [okErr]
     replace hok := Lib.hid hok
     clear hPR
     go_wp2_with fail
     refine (equal_any pp (some ⟨g, o, none⟩) pc c _ bs _ hAp hx5 hby hbx).mono ?_
     rintro e w6 ⟨rfl, rfl⟩
     by_cases heq : packL m (entsL bs n k) = bs
     ·have hG2 : tabB bs = some (m, entsL bs n k) := by rw [hG.out, if_pos ⟨hok.out, heq⟩]
      have hd : decide (packL m (entsL bs n k) = bs) = true := by simp [heq]
      rw [hd]
      replace hG2 := Lib.hid hG2
      clear heq hd
      go_wp2_with (first | (with_reducible refine wpList_loadO rfl 44 (.tmp 6) rfl qt (tabV m (.slice (some ⟨ge, 0, none⟩) n ce)).toArray 44 rfl hq5 (by kernel_rfl) ?_) | (with_reducible refine wpList_storeAgg rfl 44 (.tmp 2) (.tmp 59) rfl w.heap.size (tabV m (.slice (some ⟨ge, 0, none⟩) n ce)).toArray rfl rfl 44 _ hA5 (by kernel_rfl) rfl (by kernel_rfl) ?_))
      refine bodyPost_ret (results_ct2 (fn := Tryz.f12) Tryz.results12 rfl (setRow_hasO hA5) (by kernel_rfl) rfl) rfl ?_
      refine ⟨setRow_below hbW5 (Nat.le_refl _) hbW5.size, .inr ⟨m, entsL bs n k, some ⟨ge, 0, none⟩, ce, hG2.out, by rw [hEl.out]; exact hce, by rw [hEl.out]; rfl, ?_⟩⟩
      rw [hEl.out]
      have hne5 := own_ne hown5 hA5 (by simp)
      refine (setRow_alt _ w.heap.size _).own (own_mono hown5 (by omega)) (fun x e => ?_)
      rcases Nat.lt_trichotomy x w.heap.size with h | h | h
      ·exact .inl h
      ·exact absurd (by rw [← h]; exact e) hne5
      ·exact .inr h
     ·have hG2 : tabB bs = none := by rw [hG.out, if_neg (fun h => heq h.2)]
      have hd : decide (packL m (entsL bs n k) = bs) = false := by simp [heq]
      rw [hd]
      replace hG2 := Lib.hid hG2
      clear heq hd
      go_wp2_with (with_reducible refine wpList_storeAgg rfl 44 (.tmp 2) (.tmp 58) rfl w.heap.size (tabCs zeroMen none 0 0).toArray ?_ ?_ 44 _ hA5 ?_ ?_ ?_ ?_)
      ·rfl
      ·rfl
      ·exact hi29.out
      ·rfl
      ·exact hone.out
      refine bodyPost_ret (results_ct2 (fn := Tryz.f12) Tryz.results12 rfl (setRow_hasO hA5) (by kernel_rfl) rfl) rfl ?_
      exact ⟨setRow_below hbW5 (Nat.le_refl _) hbW5.size, .inl ⟨hG2.out, rfl⟩⟩
end Go.Proofs.YtddkhnnpeonbgaaGreatDoor
