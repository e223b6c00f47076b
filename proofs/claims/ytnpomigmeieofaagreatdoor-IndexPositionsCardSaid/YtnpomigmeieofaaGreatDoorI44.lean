import Derived.Test.YtnpomigmeieofaaGreatDoorI42
import Derived.Test.YtnpomigmeieofaaGreatDoorI43
namespace Go.Proofs.YtnpomigmeieofaaGreatDoor
open Go.RowKit

def W64 (w : World) (m : Men) (F R s q0 q7 gp : Nat) (xs : List Int) (W : World) : Prop :=
 Below w.heap.size w W ∧ HasO W q0 (.cells m.cs.toArray 26 (0, 0)) ∧ HasO W (q0 + 1) (.cells (posCs 0 0 none 0 0 false 0 0 0 0).toArray 40 (0, 0)) ∧ HasO W q7 (.cells (posCs F R (some ⟨gp, 0, none⟩) s s false 0 (-1) 0 1).toArray 40 (0, 0)) ∧ HasO W gp (pcs xs)
theorem W64.call {w : World} {m : Men} {F R s q0 q7 gp : Nat} {xs : List Int} {W W' : World} (h : W64 w m F R s q0 q7 gp xs W) (hb : Below W.heap.size W W') : W64 w m F R s q0 q7 gp xs W' :=
 ⟨below_call h.1 h.1.size hb, h.2.1.call hb, h.2.2.1.call hb, h.2.2.2.1.call hb, h.2.2.2.2.call hb⟩
theorem W64.set {w : World} {m : Men} {F R s q0 q7 gp : Nat} {xs : List Int} {W : World} (h : W64 w m F R s q0 q7 gp xs W) (hw : w.heap.size ≤ gp) (hne : gp ≠ q0 ∧ gp ≠ q0 + 1 ∧ gp ≠ q7) (a : Nat) (x : Int) : W64 w m F R s q0 q7 gp (xs.set a x) (W.setCell ⟨gp, a, none⟩ (.int .i8 x)) := by
 refine ⟨h.1.setCell (p := ⟨gp, a, none⟩) hw _, h.2.1.far (p := ⟨gp, a, none⟩) (fun e => hne.1 e.symm) _, h.2.2.1.far (p := ⟨gp, a, none⟩) (fun e => hne.2.1 e.symm) _, h.2.2.2.1.far (p := ⟨gp, a, none⟩) (fun e => hne.2.2 e.symm) _, ?_⟩
 have h := h.2.2.2.2.set_ a (.int .i8 x)
 rw [pcs_set] at h
 exact h
def pw64 (w : World) (gp p1 p2 : Nat) (k : Nat) : World := match k with
 | 0 => w.drew
 | 1 => w.drew.setCell ⟨gp, 0 + p2, none⟩ (.int .i8 6)
 | _ => (w.drew.setCell ⟨gp, 0 + p2, none⟩ (.int .i8 6)).setCell ⟨gp, 0 + p1, none⟩ (.int .i8 (-6))
theorem pw64_far {w : World} {gp p1 p2 q : Nat} {o : Obj} (h : HasO w q o) (h1 : q ≠ gp) (k : Nat) : HasO (pw64 w gp p1 p2 k) q o := by
 have h' : HasO w.drew q o := h
 match k with
 | 0 => exact h'
 | 1 => exact h'.far h1 _
 | k + 2 => exact (h'.far (p := ⟨gp, 0 + p2, none⟩) h1 _).far (p := ⟨gp, 0 + p1, none⟩) h1 _
def RefG (m : Men) (F R s n : Nat) (w : World) (e : Ending) (w' : World) : Prop :=
 (if okS m F R s n = true then ∃ gp, e = .returned (.tuple #[.agg (posCs F R (some ⟨gp, 0, none⟩) s s (finB m s n) 0 (-1) 0 1).toArray, .bool true]) ∧ w.heap.size ≤ gp ∧ HasO w' gp (pcs (finS m s n).1)
  else e = .returned (.tuple #[.agg (posCs 0 0 none 0 0 false 0 0 0 0).toArray, .bool false])) ∧ Below w.heap.size w w'
theorem okS_of {m : Men} {F R s n : Nat} (h : (finS m s n).2 = false) : okS m F R s n = false := by unfold okS; rw [h]; rfl
theorem finS_early {m : Men} {s n j : Nat} (hj : j ≤ 10) (h : (grpS m s n j).2.2 = false) : (finS m s n).2 = false := by
 have h2 := grpS_free m s n hj h
 unfold finS kgS putS
 simp [h2]
theorem quo_i {a b c : Nat} (h : c = a / b) : (a : Int).tdiv (b : Int) = (c : Nat) := by rw [h]; rfl
theorem rem_i {a b c : Nat} (h : c = a % b) : (a : Int).tmod (b : Int) = (c : Nat) := by rw [h]; rfl
set_option maxRecDepth 100000 in
set_option maxHeartbeats 12800000 in
theorem ref64_any (m : Men) (F R s n : Nat) (hf : m.f = (F : Nat)) (hr : m.r = (R : Nat)) (hFR : F * R = s) (hsq : s = m.sq) (hv : validB m = true) (hc20 : countN m ≤ 1048576) (hn : n < countN m)
  (w : World) : Calls Tryz.prog 64 #[.agg m.cs.toArray, .int .i64 (n : Nat)] w fun e w' => RefG m F R s n w e w' := by
 have hs64 : s ≤ 64 := by rw [hsq]; exact (validB_sq hv).2.2
 have hs9 : 9 ≤ s := by rw [hsq]; exact (validB_sq hv).2.1
 have hs1 : 1 ≤ s := by omega
 have hgk : ∀ j, j < 10 → ∃ k : Nat, m.grp j = (k : Nat) ∧ k ≤ 4 := fun j hj => by
  have h := grp_bd (validB_ok hv) hj
  exact ⟨(m.grp j).toNat, by omega, by omega⟩
 have hnF : (grpS m s n 10).1 < 2 * s * s := by have h := grpS_lt hsq hn (Nat.le_refl 10); rw [hsq] at h ⊢; exact h
 have hgl0 : ∀ j, (grpS m s n j).1 ≤ 1048576 := fun j => Nat.le_trans (grpS_le m s n j) (by omega)
 have hng := Nat.mul_le_mul (Nat.mul_le_mul (Nat.le_refl 2) hs64) hs64
 have hn9 : (grpS m s n 10).1 ≤ 8192 := by omega
 replace hn9 := Lib.hid hn9
 replace hgk := Lib.hid hgk
 replace hgl0 := Lib.hid hgl0
 have hM := (HasO.new w (.cells m.cs.toArray 26)).alloc (.cells (posCs 0 0 none 0 0 false 0 0 0 0).toArray 40)
 have hR := HasO.new' (w.alloc (.cells m.cs.toArray 26)) (.cells (posCs 0 0 none 0 0 false 0 0 0 0).toArray 40) (q := w.heap.size + 1) (by simp)
 have hB := (below_box w (.cells m.cs.toArray 26)).alloc (by simp) (.cells (posCs 0 0 none 0 0 false 0 0 0 0).toArray 40)
 have hF : m.cs.toArray[0]? = some (.int .i64 (F : Nat)) := by rw [← hf]; rfl
 have hRr : m.cs.toArray[1]? = some (.int .i64 (R : Nat)) := by rw [← hr]; rfl
 have emul : wrap64 ((F : Int) * (R : Nat)) = (s : Nat) := by rw [← Int.natCast_mul, hFR]; exact IntWalk.wrap64_in _ (by omega)
 clear hn hng hf hr hc20 hnF hv hsq hFR
 go_enter Tryz.func64, Tryz.ntmps64
 go_upto_region 1 with fail
 show Code.wp _ _ _ _ ((w.alloc (.cells m.cs.toArray 26)).alloc (.cells (posCs 0 0 none 0 0 false 0 0 0 0).toArray 40))
 have hs1w : w.heap.size + 2 = ((w.alloc (.cells m.cs.toArray 26)).alloc (.cells (posCs 0 0 none 0 0 false 0 0 0 0).toArray 40)).heap.size := by simp
 generalize (w.alloc (.cells m.cs.toArray 26)).alloc (.cells (posCs 0 0 none 0 0 false 0 0 0 0).toArray 40) = w1 at *
 obtain ⟨q0, hq0⟩ : ∃ q, q = w.heap.size := ⟨_, rfl⟩
 rw [← hq0] at hM hR hs1w ⊢
 replace hq0 := Lib.hid hq0
 have hc0 := (hM.cells 0).trans hF
 have hc1 := (hM.cells 1).trans hRr
 have hl0 := hM.lt
 replace emul := Lib.hid emul
 go_upto_region 2 with fail
 rw [emul.out]
 clear emul hc0 hc1 hl0
 refine wp_region_relL (by kernel_rfl) (by kernel_rfl) [some 21, some 22, some 23, some 24, some 25, some 7, none] (by rfl) (by rfl) (s7R w1 (fun i8 => match i8 with | 0 => .pointer (some ⟨q0, 0, none⟩) | 1 => .agg #[.int .i64 (F : Nat), .int .i64 (R : Nat)] | 2 => .int .i64 ((s : Nat)) | _ => undef) F R s) (fun S S9 f9 W hS h => s7_congr S S9 f9 W hS h) (fun f9 => s7_init f9) ?hstep ?hend
 case hstep =>
  intro S i9 o9 f9 W ho hi hSj hpre hcl hR K hK
  have hi : i9 < 7 := hi
  have hR0 := hR
  obtain ⟨hC, h0, h3, h5, h4, h6⟩ := hR0
  rcases (by omega : i9 = 0 ∨ i9 = 1 ∨ i9 = 2 ∨ i9 = 3 ∨ i9 = 4 ∨ i9 = 5 ∨ i9 = 6) with rfl | rfl | rfl | rfl | rfl | rfl | rfl
  ·exact st_field (og ho rfl) 26 (.tmp 2) 0 (oo ho rfl) (rd_out rfl rfl) (n := 0) (by kernel_rfl) (hK _ _ (s7_val hR (i := 0) (by decide)))
  ·exact st_loadA (og ho rfl) 23 (.tmp 21) (oo ho rfl) (ri 0 (h0 0 (by omega) (hpre ⟨0, .data⟩ (oa ho rfl) rfl))) [.int .i64 (F : Nat), .int .i64 (R : Nat)] (by kernel_rfl) (fun j v hv => by
    rw [Nat.zero_add, (hM.call hC).cells j]
    match j, hv with
    | 0, hv => rw [hF]; simpa using hv
    | 1, hv => rw [hRr]; simpa using hv) (hK _ _ (s7_val hR (i := 1) (by decide)))
  ·exact st_move (og ho rfl) (.tmp 6) (oo ho rfl) (rd_out rfl rfl) (hK _ _ (s7_val hR (i := 2) (by decide)))
  ·exact st_makeSlice (og ho rfl) 38 (.tmp 23) (.tmp 23) (oo ho rfl) (ri 2 (h0 2 (by omega) (hpre ⟨2, .data⟩ (oa ho rfl) rfl))) (ri 2 (h0 2 (by omega) (hpre ⟨2, .data⟩ (oa ho rfl) rfl))) (mk38 s hs64 W) (hK _ _ (s7_3 hR hSj))
  ·obtain ⟨g, e3, _, _, _⟩ := h3 (hpre ⟨3, .data⟩ (oa ho rfl) rfl)
   exact st_buildL (og ho rfl) 40 [(0, .tmp 22), (1, .tmp 24), (4, .const (.int .i64 (-1))), (6, .const (.int .i64 1))] (oo ho rfl) [(0, .agg #[.int .i64 (F : Nat), .int .i64 (R : Nat)]), (1, .slice (some ⟨g, 0, none⟩) s s), (4, .int .i64 (-1)), (6, .int .i64 1)] (by simp only [List.map_cons, List.map_nil]; rw [(ri 1 (h0 1 (by omega) (hpre ⟨1, .data⟩ (oa ho rfl) rfl))), (ri 3 e3)]; rfl) (by kernel_rfl) (hK _ _ (s7_4 hR hSj (hpre ⟨3, .data⟩ (oa ho rfl) rfl) e3))
  ·exact st_alloc (og ho rfl) 40 (oo ho rfl) (alloc40 W) (hK _ _ (s7_5 hR hSj))
  ·obtain ⟨q, old, e5, _, hxq, hz, _⟩ := h5 (hpre ⟨5, .data⟩ (oa ho rfl) rfl)
   obtain ⟨g, e3, _, _, hx4⟩ := h3 (h4 (hpre ⟨4, .data⟩ (oa ho rfl) rfl))
   have e4 := hx4 (hpre ⟨4, .data⟩ (oa ho rfl) rfl)
   exact st_storeO (og ho rfl) 40 (.tmp 7) (.tmp 25) (oo ho rfl) (ri 5 e5) (posCs F R (some ⟨g, 0, none⟩) s s false 0 (-1) 0 1).toArray old 40 (ri 4 e4) hxq (by kernel_rfl) (by rw [hz]; rfl) (by first | kernel_rfl | simp [Value.oneCell']) (hK _ _ (s7_6 hR (hpre ⟨4, .data⟩ (oa ho rfl) rfl) (hpre ⟨5, .data⟩ (oa ho rfl) rfl) e5 e4 rfl))
 case hend =>
  intro S f9 W hS hR9
  obtain ⟨hC, h0, h3, h5, _, _⟩ := hR9
  obtain ⟨gp, e3, hgp, hP, hx4⟩ := h3 (hS 3 (by decide))
  have e4 := hx4 (hS 4 (by decide))
  obtain ⟨q7, old, e5, hq7, hX7, _, hx6⟩ := h5 (hS 5 (by decide))
  have e6 := hx6 (hS 6 (by decide))
  rw [e4] at e6
  injection e6 with e6
  subst e6
  clear h0 h3 h5 hS hx4 hx6
  simp only [putL, Act.put, List.setIfInBounds_toArray, List.set_cons_succ, List.set_cons_zero]
  rw [e3, e4, e5]
  clear e3 e4 e5
  generalize f9 0 = u9, f9 1 = u10, f9 2 = u11, f9 6 = u12

  have hW := (⟨below_call hB hB.size hC, hM.call hC, hR.call hC, hX7, hP⟩ : W64 w m F R s q0 q7 gp (List.replicate s 0) W)
  have hgq : gp ≠ q0 ∧ gp ≠ q0 + 1 ∧ gp ≠ q7 := by
   have h := hP.ne_ hX7 (by intro h; injection h with _ h; cases h)
   omega
  have hwg : w.heap.size ≤ gp ∧ w.heap.size ≤ q0 + 1 ∧ q0 + 1 < gp ∧ q0 + 1 < q7 := by have := hq0.out; omega
  clear hC hM hR hB hX7 hP hs1w hF hRr hgp hq7
  generalize W = w4 at *
  go_wp2_with fail
  go_loopg [1, 8] 11 (fun q v1 v8 wr => ∃ j : Nat, q + j = 11 ∧ j ≤ 10 ∧ v1 = .int .i64 ((grpS m s n j).1 : Nat) ∧ v8 = .int .i64 ((9 : Int) - j) ∧ Hid ((grpS m s n j).2.2 = true) ∧ W64 w m F R s q0 q7 gp (grpS m s n j).2.1 wr)
  case atStart => exact ⟨0, rfl, by omega, rfl, rfl, Lib.hid rfl, hW⟩
  case round =>
   clear hW
   obtain ⟨j, hq, hj, rfl, rfl, hfree, hW⟩ := hrel
   by_cases hlt : j < 10
   ·obtain ⟨i, hi⟩ : ∃ i, i = 9 - j := ⟨_, rfl⟩
    have hij : (9 : Int) - j = (i : Nat) := by omega
    have hi10 : i < 10 := by omega
    have hi0 : (i : Int) ≥ 0 := by omega
    rw [hij]
    obtain ⟨g1, hg1⟩ : ∃ x, x = gk := ⟨_, rfl⟩
    subst hg1
    obtain ⟨nn, hnn⟩ : ∃ x, x = (grpS m s n j).1 := ⟨_, rfl⟩
    obtain ⟨xs, hxs⟩ : ∃ x, x = (grpS m s n j).2.1 := ⟨_, rfl⟩
    obtain ⟨k, hk, hk4⟩ := hgk.out i hi10
    have hnn1 : nn ≤ 1048576 := by rw [hnn]; exact hgl0.out j
    have hxl : xs.length = s := by rw [hxs]; exact grpS_len m s n j
    rw [← hxs] at hW
    rw [← hnn]
    obtain ⟨x, hx⟩ : ∃ x, x = grpPiece i := ⟨_, rfl⟩
    obtain ⟨c, hc⟩ : ∃ c, c = ch s k := ⟨_, rfl⟩
    have hc1 : 1 ≤ c := by rw [hc]; exact ch_pos hk4 (by omega) hs64
    obtain ⟨p0, hp0⟩ : ∃ z, z = nn % c := ⟨_, rfl⟩
    obtain ⟨n1, hn1⟩ : ∃ z, z = nn / c := ⟨_, rfl⟩
    have hcm : Hid (sqOk s k p0) := Lib.hid (.inr (by rw [hp0, ← hc]; exact Nat.mod_lt _ hc1))
    have hpl : p0 ≤ 1048576 := by rw [hp0]; exact Nat.le_trans (Nat.mod_le _ _) hnn1
    have hn11 : n1 ≤ 1048576 := by rw [hn1]; exact Nat.le_trans (Nat.div_le_self _ _) hnn1
    have er := rem_i hp0
    have eq := quo_i hn1
    have hc0 : ¬ (c : Int) = 0 := by omega
    obtain ⟨stF, hstF⟩ : ∃ z, z = plc x s k p0 (xs, true) := ⟨_, rfl⟩
    have hS1 : Hid (grpS m s n (j + 1) = (n1, stF)) := Lib.hid (by
     have e : (m.grp (9 - j)).toNat = k := by rw [← hi, hk]; rfl
     show ((grpS m s n j).1 / ch s (m.grp (9 - j)).toNat, plc (grpPiece (9 - j)) s (m.grp (9 - j)).toNat ((grpS m s n j).1 % ch s (m.grp (9 - j)).toNat) (grpS m s n j).2) = _
     rw [e, ← hc, ← hi, ← hx, hn1, hstF, hp0, ← hnn, hxs]
     congr 2
     exact Prod.ext rfl hfree.out)
    have hgrp := fun W => group_any m i hi10 W
    rw [hk] at hgrp
    have hch := fun W => choose_any s k hs64 hk4 W
    rw [← hc] at hch
    have hpc := fun W => refGPiece_any i hi10 W
    rw [← hx] at hpc
    replace hnn := Lib.hid hnn
    replace hxs := Lib.hid hxs
    replace hx := Lib.hid hx
    replace hc := Lib.hid hc
    replace hp0 := Lib.hid hp0
    replace hn1 := Lib.hid hn1
    replace hi := Lib.hid hi
    have hstF0 := hstF
    replace hstF := Lib.hid hstF
    clear hk hij
    have hMr := hW.2.1
    go_wp2_with (first | (refine wpList_loadO rfl 26 (.tmp 2) rfl q0 _ 26 rfl hMr (by kernel_rfl) ?_) | fail)
    refine (hgrp wr).mono ?_
    rintro e w5 ⟨rfl, hb5⟩
    have hW5 := hW.call hb5
    clear hW hMr hb5 hgrp
    go_wp2_with fail
    refine (hch w5).mono ?_
    rintro e w6 ⟨rfl, rfl⟩
    go_wp2_with fail
    refine (hch w5).mono ?_
    rintro e w6 ⟨rfl, rfl⟩
    go_wp2_with fail
    clear hch er eq
    go_loopg [9, 10, 11] 65 (fun q v9 v10 v11 wr => ∃ (p k a : Nat) (st : List Int × Bool), a ≤ q ∧ v9 = .int .i64 (k : Nat) ∧ v10 = .int .i64 (p : Nat) ∧ v11 = .int .i64 ((a : Int) - 1) ∧ (Hid (plc x a k p st = stF) ∧ Hid (sqOk a k p) ∧ a ≤ s ∧ k ≤ 4 ∧ p ≤ 1048576 ∧ Hid (st.1.length = s) ∧ Hid (st.2 = true)) ∧ W64 w m F R s q0 q7 gp st.1 wr)
    case atStart => exact ⟨p0, k, s, (xs, true), by omega, rfl, rfl, rfl, ⟨Lib.hid hstF0.symm, hcm, Nat.le_refl _, hk4, hpl, Lib.hid hxl, Lib.hid rfl⟩, hW5⟩
    case round =>
     clear hW5 hstF0 hcm hpl hk4 hstF hc hc0 hc1 hp0
     obtain ⟨p, k, a, st, hqa, rfl, rfl, rfl, ⟨hp1, hp2, hp3, hp4, hp5, hp6, hp7⟩, hW⟩ := hrel
     by_cases hkz : k = 0
     ·subst hkz
      have hst : Hid (st = stF) := Lib.hid (by have h := hp1.out; rw [plc_zero] at h; exact h)
      clear hp1 hp2 hp6 hpc
      obtain ⟨ai, hai⟩ : ∃ z : Int, z = (a : Int) - 1 := ⟨_, rfl⟩
      rw [← hai]
      by_cases haz : ai ≥ 0
      all_goals
       clear hai
       go_wp2_with fail
       go_roundg (g1 - 1)
       case measure => omega
       case rel =>
        have h1 := hS1.out
        refine ⟨j + 1, by omega, by omega, by rw [h1], congrArg _ (by have := hi.out; omega), Lib.hid (by rw [h1, ← hst.out]; exact hp7.out), ?_⟩
        rw [h1]
        show W64 w m F R s q0 q7 gp stF.1 wr
        rw [← hst.out]; exact hW
     ·obtain ⟨k', hk'⟩ : ∃ z, k = z + 1 := ⟨k - 1, by omega⟩
      have hp4' : k' + 1 ≤ 4 := by omega
      have hp1a := hp1.out
      have hp2a := hp2.out
      rw [hk'] at hp1a hp2a
      obtain ⟨b, rfl⟩ := sqOk_pos hp4' hp2a
      have eb : ((b + 1 : Nat) : Int) - 1 = (b : Nat) := by omega
      rw [eb]
      clear eb
      have hb64 : b < 64 := by omega
      have hbs : b < s := by omega
      have hb0 : (b : Int) ≥ 0 := by omega
      have hbsi : (b : Int) < s := by omega
      have hk0 : (k : Int) > 0 := by omega
      obtain ⟨e, he⟩ : ∃ z, z = ch b k := ⟨_, rfl⟩
      have hche := fun W => choose_any b k (Nat.le_of_lt hb64) hp4 W
      rw [← he] at hche
      rw [hk'] at he
      obtain ⟨y, hy⟩ : ∃ z, z = st.1[b]?.getD 0 := ⟨_, rfl⟩
      have hX7w := hW.2.2.2.1
      have hPw := hW.2.2.2.2
      have hRw := hW.2.2.1
      have hcy : wr.cell? ⟨gp, b, none⟩ = some (.int .i8 y) := by
       rw [hPw.cells b, hy]
       have hbl : b < st.1.length := by rw [hp6.out]; exact hbs
       simp [List.getElem?_eq_getElem hbl]
      have hc7 := hX7w.cells 2
      have hl7 := hX7w.lt
      have hlg := hPw.lt
      replace hy := Lib.hid hy
      replace hk' := Lib.hid hk'
      go_wp2_with fail
      refine (hche wr).mono ?_
      rintro e2 w6 ⟨rfl, rfl⟩
      by_cases h2 : e ≤ p
      ·have h2i : ¬ (e : Int) > (p : Nat) := by omega
       have hp1' : Hid (plc x b k' (p - e) (putS st b x) = stF) := Lib.hid (by rw [he] at h2 ⊢; rw [plc_put st h2] at hp1a; exact hp1a)
       have hp2' : Hid (sqOk b k' (p - e)) := Lib.hid (by rw [he] at h2 ⊢; exact sqOk_put hb64 hp4' hp2a h2)
       clear hp1a hp2a
       replace he := Lib.hid he
       go_wp2_with fail
       refine (hche wr).mono ?_
       rintro e2 w6 ⟨rfl, rfl⟩
       by_cases hyz : y = 0
       ·have hput : Hid (putS st b x = (st.1.set b x, true)) := Lib.hid (by
         unfold putS
         rw [← hy.out, hyz, hp7.out]; rfl)
        subst hyz
        go_wp2_with fail
        have hPd : HasO wr.drew gp (pcs st.1) := hPw
        have hcd : wr.drew.cell? ⟨gp, 0 + b, none⟩ = some (.int .i8 0) := by rw [Nat.zero_add]; exact hcy
        refine wp_region_last (by kernel_rfl) (by kernel_rfl) [some 72, some 73, some 74, some 75, some 76, some 77, none] (by rfl) (by rfl) 6 (by rfl) (by kernel_rfl) (fun i8 => match i8 with | 0 => .pointer (some ⟨q7, 0 + 2, none⟩) | 1 => .slice (some ⟨gp, 0, none⟩) s s | 2 => .int .i64 ((b : Nat)) | 3 => .int .i64 ((i : Nat)) | 4 => .int .i8 x | 5 => .pointer (some ⟨gp, 0 + b, none⟩) | _ => undef) (fun W9 => W9 = wr.drew) (fun W9 => W9 = wr.drew.setCell ⟨gp, 0 + b, none⟩ (.int .i8 x)) rfl ?hstep ?hturn ?hend
        case hstep =>
         intro i9 o9 f9 W9 ho hi hne hC hf K hK
         have hi : i9 < 7 := hi
         subst hC
         rcases (by omega : i9 = 0 ∨ i9 = 1 ∨ i9 = 2 ∨ i9 = 3 ∨ i9 = 4 ∨ i9 = 5) with rfl | rfl | rfl | rfl | rfl | rfl
         ·exact st_field (og ho rfl) 40 (.tmp 7) 1 (oo ho rfl) (rd_out rfl rfl) (n := 2) (by kernel_rfl) (hK _ rfl)
         ·exact st_loadS (og ho rfl) 38 (.tmp 72) (oo ho rfl) (ri 0 (hf ⟨0, .data⟩ (oa ho rfl) rfl)) (by kernel_rfl) (HasO.cells (w := wr.drew) hX7w 2) (hK _ rfl)
         ·exact st_move (og ho rfl) (.tmp 11) (oo ho rfl) (rd_out rfl rfl) (hK _ rfl)
         ·exact st_move (og ho rfl) (.tmp 8) (oo ho rfl) (rd_out rfl rfl) (hK _ rfl)
         ·exact st_call1 (og ho rfl) 107 (.tmp 75) #[3] (oo ho rfl) (ri 3 (hf ⟨3, .data⟩ (oa ho rfl) rfl)) (fun _ _ => rfl) (hpc _) (by rintro u w9 ⟨h9, hw9⟩; injection h9 with h9; subst h9; subst hw9; exact hK _ rfl) (by rintro ch w9 ⟨h9, _⟩; cases h9) (by rintro w9 ⟨h9, _⟩; cases h9)
         ·exact st_index (og ho rfl) 38 (.tmp 73) (.tmp 74) (oo ho rfl) (ri 1 (hf ⟨1, .data⟩ (oa ho rfl) rfl)) (ri 2 (hf ⟨2, .data⟩ (oa ho rfl) rfl)) (index25 _ gp 0 s s b hbs) (hK _ rfl)
        case hturn =>
         intro o9 f9 W9 ho hC hf K hK
         subst hC
         exact st_storeS (og ho rfl) 81 (.tmp 77) (.tmp 76) (oo ho rfl) (ri 5 (hf ⟨5, .data⟩ (oa ho rfl) rfl)) (ri 4 (hf ⟨4, .data⟩ (oa ho rfl) rfl)) (by kernel_rfl) (by rfl) hcd (hPd.frozen (0 + b)) (hK _ rfl)
        case hend =>
         rintro f9 W9 hw9 hf9
         clear hf9
         simp only [putL, Act.put, List.setIfInBounds_toArray, List.set_cons_succ, List.set_cons_zero]
         generalize f9 0 = a0, f9 1 = a1, f9 2 = a2, f9 3 = a3, f9 4 = a4, f9 5 = a5, f9 6 = a6
         have hW9 : W64 w m F R s q0 q7 gp (st.1.set b x) W9 := by
          rw [hw9, Nat.zero_add]
          exact W64.set (W := wr.drew) ⟨hW.1.drew, hW.2.1, hW.2.2.1, hW.2.2.2.1, hW.2.2.2.2⟩ hwg.1 hgq b x
         rw [hput.out] at hp1'
         clear hw9 hW hX7w hPw hRw hcy hc7 hl7 hlg hche hPd hpc hput hy
         generalize W9 = w9 at *
         go_wp2_with fail
         go_roundg (gk - 1)
         case measure => omega
         case rel => exact ⟨p - e, k', b, (st.1.set b x, true), by omega, congrArg _ (by have := hk'.out; omega), congrArg _ (by omega), rfl, ⟨hp1', hp2', by omega, by omega, by omega, Lib.hid (by rw [List.length_set]; exact hp6.out), Lib.hid rfl⟩, hW9⟩
       ·have hfin : Hid (okS m F R s n = false) := Lib.hid (okS_of (finS_early (j := j + 1) (by omega) (by
         rw [hS1.out]
         show stF.2 = false
         rw [← hp1'.out]
         refine plc_free _ _ _ _ _ ?_
         unfold putS
         rw [← hy.out]; simp [hyz])))
        go_wp2_with (first | (refine wpList_storeAgg rfl 40 (.tmp 4) (.tmp 71) rfl (q0 + 1) _ rfl rfl 40 _ hRw (by kernel_rfl) rfl (by kernel_rfl) ?_; rintro w9 rfl) | fail)
        refine bodyPost_ret (results_ct (fn := Tryz.f64) Tryz.results64 rfl (setRow_hasO hRw) (by kernel_rfl) (by kernel_rfl) rfl) rfl ?_
        refine ⟨?_, setRow_below hW.1 hwg.2.1 hW.1.size⟩
        rw [if_neg (by rw [hfin.out]; simp)]
        rfl
      ·have h2i : (e : Int) > (p : Nat) := by omega
       have hp1' : Hid (plc x b k p st = stF) := Lib.hid (by rw [he] at h2; rw [plc_skip st h2] at hp1a; rw [hk'.out]; exact hp1a)
       have hp2' : Hid (sqOk b k p) := Lib.hid (by rw [he] at h2; rw [hk'.out]; exact sqOk_skip h2)
       clear hp1a hp2a hX7w hPw hRw hcy hc7 hl7 hlg hche
       replace he := Lib.hid he
       go_wp2_with fail
       go_roundg (gk - 1)
       case measure => omega
       case rel => exact ⟨p, k, b, st, by omega, rfl, rfl, rfl, ⟨hp1', hp2', by omega, hp4, hp5, hp6, hp7⟩, hW⟩
   ·obtain rfl : j = 10 := by omega
    obtain ⟨nF, hnF⟩ : ∃ x, x = (grpS m s n 10).1 := ⟨_, rfl⟩
    obtain ⟨xs, hxs⟩ : ∃ x, x = (grpS m s n 10).2.1 := ⟨_, rfl⟩
    have hxl : xs.length = s := by rw [hxs]; exact grpS_len m s n 10
    have hnF9 : nF ≤ 8192 := by rw [hnF]; exact hn9.out
    rw [← hxs] at hW
    rw [← hnF]
    obtain ⟨p1, hp1⟩ : ∃ x, x = nF % s := ⟨_, rfl⟩
    obtain ⟨nq, hnq⟩ : ∃ x, x = nF / s := ⟨_, rfl⟩
    obtain ⟨p2, hp2⟩ : ∃ x, x = nq % s := ⟨_, rfl⟩
    obtain ⟨nb, hnb⟩ : ∃ x, x = nq / s := ⟨_, rfl⟩
    have hp1l : p1 < s := by rw [hp1]; exact Nat.mod_lt _ hs1
    have hp2l : p2 < s := by rw [hp2]; exact Nat.mod_lt _ hs1
    have hnq9 : nq ≤ 8192 := by rw [hnq]; exact Nat.le_trans (Nat.div_le_self _ _) hnF9
    have hnb9 : nb ≤ 8192 := by rw [hnb]; exact Nat.le_trans (Nat.div_le_self _ _) hnq9
    have er1 := rem_i hp1
    have er2 := rem_i hp2
    have eq1 := quo_i hnq
    have eq2 := quo_i hnb
    have eq1' : (nF : Int) / (s : Int) = (nq : Nat) := by rw [hnq]; rfl
    have er2' : (nq : Int) % (s : Int) = (p2 : Nat) := by rw [hp2]; rfl
    have eq2' : (nq : Int) / (s : Int) = (nb : Nat) := by rw [hnb]; rfl
    have hs0 : ¬ (s : Int) = 0 := by omega
    have hi1 : (p1 : Int) < s := by omega
    have hi2 : (p2 : Int) < s := by omega
    obtain ⟨y1, hy1⟩ : ∃ z, z = xs[p1]?.getD 0 := ⟨_, rfl⟩
    obtain ⟨y2, hy2⟩ : ∃ z, z = xs[p2]?.getD 0 := ⟨_, rfl⟩
    obtain ⟨bl, hbl⟩ : ∃ b, b = ((nb : Int) == 1) := ⟨_, rfl⟩
    have hbl' : ((nb : Int) == 1) = bl := hbl.symm
    have hfS2 : (finS m s n).2 = (!decide (p2 = p1) && (decide (y2 = 0) && decide (y1 = 0))) := by
     show (decide (((grpS m s n 10).2.1.set ((grpS m s n 10).1 % s) (-6))[(grpS m s n 10).1 / s % s]?.getD 0 = 0) && (decide ((grpS m s n 10).2.1[(grpS m s n 10).1 % s]?.getD 0 = 0) && (grpS m s n 10).2.2)) = _
     rw [hfree.out, ← hxs, ← hnF, ← hp1, ← hnq, ← hp2, ← hy1, Bool.and_true]
     by_cases h : p2 = p1
     ·rw [h, List.getElem?_set_self (by rw [hxl]; exact hp1l)]; simp
     ·rw [List.getElem?_set_ne (fun e => h e.symm), ← hy2]; simp [h]
    have hfB : finB m s n = bl := by rw [hbl, hnb, hnq, hnF]; rfl
    have hfS1 : (finS m s n).1 = (xs.set p1 (-6)).set p2 6 := by
     show ((grpS m s n 10).2.1.set ((grpS m s n 10).1 % s) (-6)).set ((grpS m s n 10).1 / s % s) 6 = _
     rw [← hxs, ← hnF, ← hp1, ← hnq, ← hp2]
    have hX7 := hW.2.2.2.1
    have hPw := hW.2.2.2.2
    have hRw := hW.2.2.1
    have hcy1 : wr.cell? ⟨gp, p1, none⟩ = some (.int .i8 y1) := by
     rw [hPw.cells p1, hy1]
     have hbl : p1 < xs.length := by rw [hxl]; exact hp1l
     simp [List.getElem?_eq_getElem hbl]
    have hcy2 : wr.cell? ⟨gp, p2, none⟩ = some (.int .i8 y2) := by
     rw [hPw.cells p2, hy2]
     have hbl : p2 < xs.length := by rw [hxl]; exact hp2l
     simp [List.getElem?_eq_getElem hbl]
    have hlg := hPw.lt
    have hl7 := hX7.lt
    have hc72 := hX7.cells 2
    have hc73 := hX7.cells 3
    have hf73 := hX7.frozen 3
    have hfB := hfB
    replace hbl := Lib.hid hbl
    replace hnq := Lib.hid hnq
    replace hp1 := Lib.hid hp1
    replace hp2 := Lib.hid hp2
    replace hnb := Lib.hid hnb
    replace hy1 := Lib.hid hy1
    replace hy2 := Lib.hid hy2
    replace hnF := Lib.hid hnF
    replace hxs := Lib.hid hxs
    replace hfree := Lib.hid hfree
    replace hxl := Lib.hid hxl
    go_upto_region 21 with fail
    obtain ⟨w8, hw8⟩ : ∃ x, x = wr.setCell ⟨q7, 3, none⟩ (.bool bl) := ⟨_, rfl⟩
    have hX8 : HasO w8 q7 (.cells (posCs F R (some ⟨gp, 0, none⟩) s s bl 0 (-1) 0 1).toArray 40 (0, 0)) := by rw [hw8]; exact hX7.set_ 3 (.bool bl)
    have hP8 : HasO w8 gp (pcs xs) := by rw [hw8]; exact hPw.far (p := ⟨q7, 3, none⟩) hgq.2.2 _
    have hR8 : HasO w8 (q0 + 1) (.cells (posCs 0 0 none 0 0 false 0 0 0 0).toArray 40 (0, 0)) := by rw [hw8]; exact hRw.far (p := ⟨q7, 3, none⟩) (show q0 + 1 ≠ q7 by omega) _
    have hB8 : Below w.heap.size w w8 := by rw [hw8]; exact hW.1.setCell (p := ⟨q7, 3, none⟩) (show w.heap.size ≤ q7 by omega) _
    have hcy18 : w8.cell? ⟨gp, p1, none⟩ = some (.int .i8 y1) := by
     rw [hP8.cells p1, ← hcy1, hPw.cells p1]
    have hcy28 : w8.cell? ⟨gp, p2, none⟩ = some (.int .i8 y2) := by
     rw [hP8.cells p2, ← hcy2, hPw.cells p2]
    rw [← hw8]
    clear hw8 hW hX7 hPw hRw hcy1 hcy2 hlg hl7 hc72 hc73 hf73 er1 er2 eq1 eq2 eq1' er2' eq2' hbl'
    have hlg := hP8.lt
    have hl7 := hX8.lt
    have hc72 := hX8.cells 2
    rcases (by by_cases h1 : p2 = p1 <;> by_cases h2 : y2 = 0 <;> by_cases h3 : y1 = 0 <;> simp [h1, h2, h3] : p2 = p1 ∨ (p2 ≠ p1 ∧ y2 ≠ 0) ∨ (p2 ≠ p1 ∧ y2 = 0 ∧ y1 ≠ 0) ∨ (p2 ≠ p1 ∧ y2 = 0 ∧ y1 = 0)) with h21 | ⟨h21, hy20⟩ | ⟨h21, hy20, hy10⟩ | ⟨h21, hy20, hy10⟩
    ·have hfin : Hid (okS m F R s n = false) := Lib.hid (okS_of (by rw [hfS2]; simp [h21]))
     have h21i : (p2 : Int) = (p1 : Nat) := by omega
     clear hfS2 hfS1 hfB
     go_wp2_with (first | (refine wpList_storeAgg rfl 40 (.tmp 4) (.tmp 112) rfl (q0 + 1) _ rfl rfl 40 _ hR8 (by kernel_rfl) rfl (by kernel_rfl) ?_; rintro w9 rfl) | fail)
     refine bodyPost_ret (results_ct (fn := Tryz.f64) Tryz.results64 rfl (setRow_hasO hR8) (by kernel_rfl) (by kernel_rfl) rfl) rfl ?_
     refine ⟨?_, setRow_below hB8 hwg.2.1 hB8.size⟩
     rw [if_neg (by rw [hfin.out]; simp)]
     rfl
    ·have hfin : Hid (okS m F R s n = false) := Lib.hid (okS_of (by rw [hfS2]; simp [hy20]))
     have h21i : ¬ (p2 : Int) = (p1 : Nat) := by omega
     clear hfS2 hfS1 hfB
     go_wp2_with (first | (refine wpList_storeAgg rfl 40 (.tmp 4) (.tmp 112) rfl (q0 + 1) _ rfl rfl 40 _ hR8 (by kernel_rfl) rfl (by kernel_rfl) ?_; rintro w9 rfl) | fail)
     refine bodyPost_ret (results_ct (fn := Tryz.f64) Tryz.results64 rfl (setRow_hasO hR8) (by kernel_rfl) (by kernel_rfl) rfl) rfl ?_
     refine ⟨?_, setRow_below hB8 hwg.2.1 hB8.size⟩
     rw [if_neg (by rw [hfin.out]; simp)]
     rfl
    ·have hfin : Hid (okS m F R s n = false) := Lib.hid (okS_of (by rw [hfS2]; simp [hy10]))
     have h21i : ¬ (p2 : Int) = (p1 : Nat) := by omega
     have h21b : ((p2 : Int) == (p1 : Nat)) = false := by simp; omega
     have hyb : (y1 != 0) = true := by simp [hy10]
     subst hy20
     clear hfS2 hfS1 hfB
     go_wp2_with (first | (refine wpList_storeAgg rfl 40 (.tmp 4) (.tmp 112) rfl (q0 + 1) _ rfl rfl 40 _ hR8 (by kernel_rfl) rfl (by kernel_rfl) ?_; rintro w9 rfl) | fail)
     refine bodyPost_ret (results_ct (fn := Tryz.f64) Tryz.results64 rfl (setRow_hasO hR8) (by kernel_rfl) (by kernel_rfl) rfl) rfl ?_
     refine ⟨?_, setRow_below hB8 hwg.2.1 hB8.size⟩
     rw [if_neg (by rw [hfin.out]; simp)]
     rfl
    ·have hfr : Hid ((finS m s n).2 = true) := Lib.hid (by rw [hfS2]; simp [h21, hy20, hy10])
     have h21i : ¬ (p2 : Int) = (p1 : Nat) := by omega
     subst hy20 hy10
     replace hfS1 := Lib.hid hfS1
     replace hfB := Lib.hid hfB
     clear hfS2
     go_upto_region 23 with fail
     have d0 : w8.drew.cell? ⟨gp, 0 + p2, none⟩ = some (.int .i8 0) := by rw [Nat.zero_add]; exact hcy28
     have f0 : w8.drew.frozen? ⟨gp, 0 + p2, none⟩ = false := hP8.frozen (0 + p2)
     have hPm : HasO (w8.drew.setCell ⟨gp, 0 + p2, none⟩ (.int .i8 6)) gp (pcs (xs.set p2 6)) := by
      have h := HasO.set_ (w := w8.drew) hP8 p2 (.int .i8 6)
      rw [pcs_set] at h
      rw [Nat.zero_add]; exact h
     have d1 : (w8.drew.setCell ⟨gp, 0 + p2, none⟩ (.int .i8 6)).cell? ⟨gp, 0 + p1, none⟩ = some (.int .i8 0) := by
      rw [Nat.zero_add p1, hPm.cells p1, ← hcy18, hP8.cells p1]
      simp only [List.getElem?_toArray, List.getElem?_map]
      rw [List.getElem?_set_ne (fun e => h21 e)]
     have f1 := hPm.frozen (0 + p1)
     refine wp_region_chainF (by kernel_rfl) (by kernel_rfl) [some 113, some 114, some 115, some 116, some 117, some 118, some 119, none, some 120, none] (by rfl) (by rfl) [7, 9] (by kernel_rfl) (by decide) (by decide) [.pointer (some ⟨q7, 0 + 2, none⟩), .slice (some ⟨gp, 0, none⟩) s s, .int .i64 ((p2 : Nat)), .pointer (some ⟨q7, 0 + 2, none⟩), .slice (some ⟨gp, 0, none⟩) s s, .int .i64 ((p1 : Nat)), .pointer (some ⟨gp, 0 + p2, none⟩), undef, .pointer (some ⟨gp, 0 + p1, none⟩), undef] (pw64 w8 gp p1 p2) rfl ?hstep ?hturn ?hend
     case hstep =>
      intro i9 o9 f9 k9 ho hi hmem _ hf K hK
      have hi : i9 < 10 := hi
      have dX := (pw64_far (gp := gp) (p1 := p1) (p2 := p2) hX8 (fun e => hgq.2.2 e.symm) k9).cells 2
      generalize pw64 w8 gp p1 p2 k9 = W at *
      rcases (by simp at hmem; omega : i9 = 0 ∨ i9 = 1 ∨ i9 = 2 ∨ i9 = 3 ∨ i9 = 4 ∨ i9 = 5 ∨ i9 = 6 ∨ i9 = 8) with rfl | rfl | rfl | rfl | rfl | rfl | rfl | rfl
      ·exact st_field (og ho rfl) 40 (.tmp 7) 1 (oo ho rfl) (rd_out rfl rfl) (n := 2) (by kernel_rfl) hK
      ·exact st_loadS (og ho rfl) 38 (.tmp 113) (oo ho rfl) (ri 0 (hf ⟨0, .data⟩ (oa ho rfl) rfl)) (by kernel_rfl) dX hK
      ·exact st_move (og ho rfl) (.tmp 13) (oo ho rfl) (rd_out rfl rfl) hK
      ·exact st_field (og ho rfl) 40 (.tmp 7) 1 (oo ho rfl) (rd_out rfl rfl) (n := 2) (by kernel_rfl) hK
      ·exact st_loadS (og ho rfl) 38 (.tmp 116) (oo ho rfl) (ri 3 (hf ⟨3, .data⟩ (oa ho rfl) rfl)) (by kernel_rfl) dX hK
      ·exact st_move (og ho rfl) (.tmp 12) (oo ho rfl) (rd_out rfl rfl) hK
      ·exact st_index (og ho rfl) 38 (.tmp 114) (.tmp 115) (oo ho rfl) (ri 1 (hf ⟨1, .data⟩ (oa ho rfl) rfl)) (ri 2 (hf ⟨2, .data⟩ (oa ho rfl) rfl)) (index25 _ gp 0 s s p2 hp2l) hK
      ·exact st_index (og ho rfl) 38 (.tmp 117) (.tmp 118) (oo ho rfl) (ri 4 (hf ⟨4, .data⟩ (oa ho rfl) rfl)) (ri 5 (hf ⟨5, .data⟩ (oa ho rfl) rfl)) (index25 _ gp 0 s s p1 hp1l) hK
     case hturn =>
      intro i9 o9 f9 k9 ho hst hf K hK
      have hk9 : k9 < 2 := (List.getElem?_eq_some_iff.1 hst).1
      rcases (by omega : k9 = 0 ∨ k9 = 1) with rfl | rfl
      ·obtain rfl : i9 = 7 := by simp at hst; exact hst.symm
       exact st_storeS (og ho rfl) 81 (.tmp 119) (.const (.int .i8 6)) (oo ho rfl) (ri 6 (hf ⟨6, .data⟩ (oa ho rfl) rfl)) rfl (by kernel_rfl) (by rfl) d0 f0 hK
      ·obtain rfl : i9 = 9 := by simp at hst; exact hst.symm
       exact st_storeS (og ho rfl) 81 (.tmp 120) (.const (.int .i8 (-6))) (oo ho rfl) (ri 8 (hf ⟨8, .data⟩ (oa ho rfl) rfl)) rfl (by kernel_rfl) (by rfl) d1 f1 hK
     case hend =>
      intro f9 hf9
      clear hf9
      simp only [putL, Act.put, List.setIfInBounds_toArray, List.set_cons_succ, List.set_cons_zero]
      generalize f9 0 = b0, f9 1 = b1, f9 2 = b2, f9 3 = b3, f9 4 = b4, f9 5 = b5, f9 6 = b6, f9 7 = b7, f9 8 = b8, f9 9 = b9
      rw [show ([7, 9] : List Nat).length = 2 from rfl]
      obtain ⟨wB, hwB⟩ : ∃ x, x = pw64 w8 gp p1 p2 2 := ⟨_, rfl⟩
      have hXB := pw64_far (gp := gp) (p1 := p1) (p2 := p2) hX8 (fun e => hgq.2.2 e.symm) 2
      have hRB := pw64_far (gp := gp) (p1 := p1) (p2 := p2) hR8 (show q0 + 1 ≠ gp by omega) 2
      rw [← hwB] at hXB hRB
      have hPB : HasO wB gp (pcs ((xs.set p1 (-6)).set p2 6)) := by
       have h := hPm.set_ p1 (.int .i8 (-6))
       rw [pcs_set, List.set_comm _ _ (fun e => h21 e)] at h
       rw [hwB]
       show HasO ((w8.drew.setCell ⟨gp, 0 + p2, none⟩ (.int .i8 6)).setCell ⟨gp, 0 + p1, none⟩ (.int .i8 (-6))) gp _
       rw [Nat.zero_add p1]; exact h
      have hBB : Below w.heap.size w wB := by
       rw [hwB]
       exact (hB8.drew.setCell (p := ⟨gp, 0 + p2, none⟩) hwg.1 _).setCell (p := ⟨gp, 0 + p1, none⟩) hwg.1 _
      have hl2 : ((xs.set p1 (-6)).set p2 6).length = s := by rw [List.length_set, List.length_set]; exact hxl.out
      have hxB : Arr .i8 wB (some ⟨gp, 0, none⟩) ((xs.set p1 (-6)).set p2 6) := arr_pcs hPB
      rw [← hwB]
      clear hwB hX8 hR8 hP8 hB8 hPm d0 d1 f0 f1 hcy18 hcy28 hlg hl7 hc72
      have hpv := refPos_any F R 0 (-1) 0 1 bl (some ⟨gp, 0, none⟩) s ((xs.set p1 (-6)).set p2 6) (by omega) wB hxB
      rw [hl2] at hpv
      obtain ⟨pv, hpvd⟩ : ∃ x, x = pvB F R ((xs.set p1 (-6)).set p2 6) bl 0 (-1) 0 1 := ⟨_, rfl⟩
      rw [← hpvd] at hpv
      replace hpvd := Lib.hid hpvd
      go_wp2_with (first | (refine wpList_loadO rfl 40 (.tmp 7) rfl q7 _ 40 rfl hXB (by kernel_rfl) ?_) | fail)
      refine hpv.mono ?_
      rintro e wD ⟨rfl, hb8⟩
      have hRE := hRB.call hb8
      have hXE := hXB.call hb8
      have hPE := hPB.call hb8
      have hBE := below_call hBB hBB.size hb8
      clear hRB hXB hPB hBB hb8 hxB hpv
      cases pv
      ·go_wp2_with (first | (refine wpList_storeAgg rfl 40 (.tmp 4) (.tmp 124) rfl (q0 + 1) _ rfl rfl 40 _ hRE (by kernel_rfl) rfl (by kernel_rfl) ?_; rintro w9 rfl) | fail)
       refine bodyPost_ret (results_ct (fn := Tryz.f64) Tryz.results64 rfl (setRow_hasO hRE) (by kernel_rfl) (by kernel_rfl) rfl) rfl ?_
       refine ⟨?_, setRow_below hBE hwg.2.1 hBE.size⟩
       rw [if_neg (by unfold okS; rw [hfr.out, hfS1.out, hfB.out, ← hpvd.out]; simp)]
       rfl
      ·have hi40 : Hid ((Tryz.prog.info? 40).map (·.size) = some (posCs F R (some ⟨gp, 0, none⟩) s s bl 0 (-1) 0 1).toArray.size) := Lib.hid (by kernel_rfl)
       have hone : Hid ((posCs F R (some ⟨gp, 0, none⟩) s s bl 0 (-1) 0 1).toArray.all (·.oneCell') = true) := Lib.hid (by first | kernel_rfl | simp [Value.oneCell'])
       go_wp2_with (first | (refine wpList_loadO rfl 40 (.tmp 7) rfl q7 _ 40 rfl hXE (by kernel_rfl) ?_) | (refine wpList_storeAgg rfl 40 (.tmp 4) (.tmp 125) rfl (q0 + 1) _ rfl rfl 40 _ hRE hi40.out rfl hone.out ?_; rintro w9 rfl) | fail)
       refine bodyPost_ret (results_ct (fn := Tryz.f64) Tryz.results64 rfl (setRow_hasO hRE) (by kernel_rfl) hi40.out rfl) rfl ?_
       refine ⟨?_, setRow_below hBE hwg.2.1 hBE.size⟩
       rw [if_pos (by unfold okS; rw [hfr.out, hfS1.out, hfB.out, ← hpvd.out]; rfl)]
       refine ⟨gp, by rw [hfB.out]; rfl, hwg.1, ?_⟩
       rw [hfS1.out]
       exact hPE.setRow_far (show gp ≠ q0 + 1 by omega)
end Go.Proofs.YtnpomigmeieofaaGreatDoor
