import Derived.Test.YtnpomigmeieofaaGreatDoorS42
set_option maxHeartbeats 12800000
namespace Go.Proofs.YtnpomigmeieofaaGreatDoor
open Go.RowKit
attribute [local go_sem] Oper.semAt_some

set_option maxRecDepth 100000 in
theorem loop28 (w : World) (f r ca pa ha fu : Int) (bl : Bool) (p : Option Addr) (c : Nat) (xs : List Int) (hx : Arr .i8 w p xs) (ln q8 q9 g gg cap n2 : Nat) (m : Men) (hln : Hid (ln = xs.length)) (hl64 : ln ≤ 64) (hvb : Hid (validB m = true))
  (hgrp : ∀ j, j < 10 → m.grp j = (ct xs (grpPiece j) ln : Nat)) (hfin : ∀ j, j ≤ 10 → gN xs ln n2 j < m.prod j)
  (h09 : w.heap.size < q9) (h89 : q8 ≠ q9) (hg9 : gg ≠ q9) {Q : Exit → Act → World → Prop} {a : Act} {W : World}
  (hQ : ∀ a W, R28 w (posCs f r p ln c bl ca pa ha fu) ln q8 q9 g gg cap m (gN xs ln n2) 10 a W → Q (.exit 0) { tmps := a.tmps.setIfInBounds 79 (.bool false), defers := a.defers } W)
  (h0 : R28 w (posCs f r p ln c bl ca pa ha fu) ln q8 q9 g gg cap m (gN xs ln n2) 0 a W) (cd : Code) (hcd : Tryz.f15.body.bind firstLoop = some cd) : cd.wpIn Fence.wide 3 Tryz.prog Q a W := by
 obtain rfl := Option.some.inj ((show Tryz.f15.body.bind firstLoop = some _ from rfl).symm.trans hcd)
 refine loop_ind 10 (R28 w (posCs f r p ln c bl ca pa ha fu) ln q8 q9 g gg cap m (gN xs ln n2)) h0 ?hr ?hl
 case hl =>
  rintro a W hR
  have hQ := hQ a W hR
  obtain ⟨E, X, rfl, hnd, hI⟩ := hR
  unfold fr28 at hQ ⊢
  rw [wpIn_wide]
  go_wp2_with fail
  exact hQ
 case hr =>
  rintro k a W hk ⟨E, X, rfl, hnd, hI⟩
  clear hQ h0
  unfold fr28
  rw [wpIn_wide]
  obtain ⟨gm, hgm⟩ : ∃ gm : Nat, gm = ct xs (grpPiece k) ln := ⟨_, rfl⟩
  have hgk : m.grp k = (gm : Int) := by rw [hgm, hgrp k hk]
  have hgb := grp_bd (validB_ok hvb.out) hk
  have hgb4 : gm ≤ 4 := by omega
  have hkk : (k : Int) < 10 := by omega
  obtain ⟨b, i0, i8, i9, it, ⟨ig, ic⟩, iE⟩ := hI
  have hc1 := (ic k hk).1
  have hc2 := (ic k hk).2
  rw [hgk] at hc2
  obtain ⟨gp, hgp⟩ : ∃ gp, gp = grpPiece k := ⟨_, rfl⟩
  rw [← hgp] at hc1
  have hI : NumW w (posCs f r p ln c bl ca pa ha fu) q8 q9 g gg m E (gN xs ln n2 k) W := ⟨b, i0, i8, i9, it, ⟨ig, ic⟩, iE⟩
  obtain ⟨n, hn⟩ : ∃ n, n = gN xs ln n2 k := ⟨_, rfl⟩
  rw [← hn] at hI
  have hnext : gN xs ln n2 (k + 1) = n * ch ln gm + cmb xs gp ln := by rw [hn, hgm, hgp]; rfl
  have hpb := prod_bd hvb.out (k := k) (by omega)
  have hnb2 : n < m.prod k := by rw [hn]; exact hfin k (by omega)
  have hcmb : cmb xs gp ln + 1 ≤ ch ln gm := by rw [hgm, hgp]; exact cmb_lt (by omega) (by rw [← hgm]; exact hgb4)
  replace hgm := Lib.hid hgm
  replace hgp := Lib.hid hgp
  replace hn := Lib.hid hn
  replace hnext := Lib.hid hnext
  clear hgk hgb b i0 i8 i9 it ic iE hfin hgrp
  go_wp2_with fail
  have hG := HasO.new W (.cells #[.int .i8 gp, .int .i64 (gm : Int)] 85)
  have hbg := below_box W (.cells #[.int .i8 gp, .int .i64 (gm : Int)] 85)
  have hI2 := hI.call hbg
  show Code.wp _ _ _ _ (W.alloc (.cells #[.int .i8 gp, .int .i64 (gm : Int)] 85))
  obtain ⟨q11, hq11⟩ : ∃ q, q = W.heap.size := ⟨_, rfl⟩
  have hlt0 := hI.2.1.lt
  have hlt8 := hI.2.2.1.lt
  have hlt9 := hI.2.2.2.1.lt
  have hltg := hI.2.2.2.2.1.1
  have hltgg := hI.2.2.2.2.2.1.1
  have hltE : ∀ p ∈ E, p < q11 := fun p hp => by rw [hq11]; exact ((hI.2.2.2.2.2.2 p hp).2).lt
  rw [← hq11] at hG hlt0 hlt8 hlt9 hltg hltgg ⊢
  generalize W.alloc (.cells #[.int .i8 gp, .int .i64 (gm : Int)] 85) = V2 at *
  clear hI hbg hc1 hc2 hq11
  have hlG := hG.lt
  have hG1 := hG.cells 1
  have d9 := hI2.2.2.2.1.cells 0
  have f9 := hI2.2.2.2.1.frozen 0
  have d8 := hI2.2.2.1.cells 0
  have dt := hI2.2.2.2.2.1.2 ln gm hl64 hgb4
  have bl1 : (ln : Int) ≤ 64 := by omega
  have bl2 : (gm : Int) ≤ 4 := by omega
  have hl9 := hI2.2.2.2.1.lt
  have hl8 := hI2.2.2.1.lt
  have hlg := hI2.2.2.2.2.1.1
  have hch := ch_le hl64 hgb4
  have hmu := Nat.mul_le_mul (show n ≤ 137438953472 by omega) hch
  have e3 : Hid (wrap64 ((n : Int) * ((ch ln gm : Nat) : Int)) = ((n * ch ln gm : Nat) : Int)) := Lib.hid (by rw [← Int.natCast_mul]; exact IntWalk.wrap64_in _ (by omega))
  obtain ⟨n3, hn3⟩ : ∃ n3, n3 = n * ch ln gm := ⟨_, rfl⟩
  rw [← hn3] at e3 hmu
  have hE9 : ∀ p ∈ E, p ≠ q9 := fun p hp e => by
   have h1 := (hI2.2.2.2.2.2.2 p hp).2
   have h2 := hI2.2.2.2.1
   unfold HasO at h1 h2
   rw [e, h2] at h1; cases h1
  have hI3 := hI2.set (n' := n3) h09 h89 hg9 hE9
  have hG3 := (Alt.setCell (lo := q9) (hi := q9 + 1) (w := V2) (p := ⟨q9, 0, none⟩) (u := .int .i64 (n3 : Nat)) ⟨Nat.le_refl _, Nat.lt_succ_self _⟩).hasO hG (by omega)
  replace hn3 := Lib.hid hn3
  replace e3 := e3.out
  go_region
  have hI4 := hI3.alt (Alt.drewN (lo := q11) (hi := q11) 1) hlt0 hlt8 hlt9 hltg hltgg hltE
  have hG4 := (Alt.drewN (lo := q11) (hi := q11) (w := V2.setCell ⟨q9, 0, none⟩ (.int .i64 (n3 : Nat))) 1).hasO hG3 (.inr (Nat.le_refl _))
  have hz4 : q11 < (V2.setCell ⟨q9, 0, none⟩ (.int .i64 (n3 : Nat))).drew.heap.size := hG4.lt
  change NumW _ _ _ _ _ _ _ _ _ (V2.setCell ⟨q9, 0, none⟩ (.int .i64 (n3 : Nat))).drew at hI4
  change HasO (V2.setCell ⟨q9, 0, none⟩ (.int .i64 (n3 : Nat))).drew _ _ at hG4
  generalize (V2.setCell ⟨q9, 0, none⟩ (.int .i64 (n3 : Nat))).drew = V3 at *
  clear hI3 hG3 hI2 hG hG1 d9 f9 d8 dt hl9 hl8 hlg hlG e3
  have hc := hI4.2.1.cells
  have hlc := hI4.2.1.lt
  have hg0 := hG4.cells 0
  have hlG := hG4.lt
  go_wp2_with fail
  refine (squares_any (posCs f r p ln c bl ca pa ha fu) gp V3).mono ?_
  rintro e V4 ⟨rfl, hS1, hS2, hb4, hs4⟩
  have hI5 := hI4.call hb4
  have hx5 : Arr .i8 V4 p xs := hx.call hI5.1
  obtain ⟨q1, hq1⟩ : ∃ q, q = V3.heap.size := ⟨_, rfl⟩
  rw [← hq1] at hS1 hS2 hz4 hs4 ⊢
  clear hI4 hG4 hc hlc hg0 hlG hb4
  replace hq1 := Lib.hid hq1
  replace hs4 := Lib.hid hs4
  have hcs : (posCs f r p ln c bl ca pa ha fu) = posCs f r p xs.length c bl ca pa ha fu := by rw [hln.out]
  have hseq := sq_seq q1 (q1 + 1) f r ca pa ha fu bl p c xs gp (by rw [← hln.out]; omega)
  rw [← hcs, ← hln.out] at hseq
  replace hcs := Lib.hid hcs
  have hctg : ct xs gp ln = gm := by rw [hgm.out, hgp.out]
  have hsm := smS_cmb xs gp ln
  have hsq := fun j => sqP_lt (xs := xs) (x := gp) (j := j) (K := ln)
  rw [hctg] at hseq hsm hsq
  generalize sqP xs gp ln = L at *
  replace hsm := Lib.hid hsm
  replace hctg := Lib.hid hctg
  go_wp2_with fail
  refine (wpIn_wide (n := 3)).1 ?_
  refine rangeFunc_law (gf := 106) (lb := #[.pointer (some ⟨q1, 0, none⟩), .pointer (some ⟨q1 + 1, 0, none⟩)]) rfl (enters_of Tryz.func106 (by kernel_rfl) rfl) hseq (fun _ _ => rfl)
   (I28 w (posCs f r p ln c bl ca pa ha fu) q8 q9 g gg m E n3 L q1 gp) (fun _ _ _ _ => False) ?hst ?hstx ?hRd ?hsz ?hszx ?h0 ?hbody ?hdone ?hstop ?hpanic
  case hstx => intro _ _ _ _ _ _ h; exact h.elim
  case hszx => intro _ _ _ _ _ h; exact h.elim
  case hstop => intro _ _ _ _ _ _ h; exact h.elim
  case hpanic => intro _ _ _ _ _ h; exact h.elim
  case hsz => intro cc k W _ h; exact h.2.2.2
  case hRd => intro cc k W _ h; exact ⟨h.2.1, h.2.2.1, hx.call h.1.1⟩
  case hst =>
   rintro cc j W W' hcc ⟨h1, h2, h3, h4⟩ hA
   have hz := hs4.out
   exact ⟨h1.alt hA (by omega) (by omega) (by omega) (by omega) (by omega) (fun p hp => by have := hltE p hp; omega), hA.hasO h2 (by omega), hA.hasO h3 (by omega), Nat.le_trans h4 hA.size⟩
  case h0 =>
   intro cc W hbW hcc hzW
   exact ⟨hI5.call hbW, hS1.call hbW, hS2.call hbW, by omega⟩
  case hbody =>
   rintro cc j W hcc hj hI hT
   have hzz := hs4.out
   refine body28 w (posCs f r p ln c bl ca pa ha fu) q8 q9 g gg m E n3 L q1 gp V4.heap.size cc j W _ ?_ ?_ ?_ ?_ ?_ h09 h89 hg9 hE9 ⟨by omega, by omega, by omega, by omega, by omega, by omega, by omega⟩ (fun p hp => by have := hltE p hp; omega) (by omega) (by omega) (fun i hi => by have := hsq i (by omega); omega) hI hcc (_, _) rfl
   all_goals first | rfl | (simp [ofA]; done) | kernel_rfl
  case hdone =>
   rintro cc W hcc ⟨h1, h2, h3, h4⟩ hD
   rw [hsm.out] at h1
   have hn1 : gN xs ln n2 (k + 1) = n3 + cmb xs gp ln := by rw [hnext.out, hn3.out]
   rw [← hn1] at h1
   have h1E : NumW w (posCs f r p ln c bl ca pa ha fu) q8 q9 g gg m (V4.heap.size :: E) (gN xs ln n2 (k + 1)) W := by
    obtain ⟨b, i0, i8, i9, it, ic, iE⟩ := h1
    refine ⟨b, i0, i8, i9, it, ic, fun p hp => ?_⟩
    rcases List.mem_cons.1 hp with rfl | hp
    ·exact ⟨by have := hs4.out; omega, hD⟩
    ·exact iE p hp
   have hndE : (V4.heap.size :: E).Nodup := List.nodup_cons.2 ⟨fun h => by have := hltE _ h; have := hs4.out; omega, hnd⟩
   replace hn1 := Lib.hid hn1
   clear h1 h2 h3 hS1 hS2 hI5 hseq hx5
   go_wp2_with fail
   exact R28.mk _ _ rfl rfl rfl rfl rfl rfl rfl (by go_num) hndE h1E
end Go.Proofs.YtnpomigmeieofaaGreatDoor
