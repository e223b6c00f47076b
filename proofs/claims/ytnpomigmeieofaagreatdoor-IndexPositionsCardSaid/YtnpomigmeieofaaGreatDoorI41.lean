import Derived.Test.YtnpomigmeieofaaGreatDoorI40
namespace Go.Proofs.YtnpomigmeieofaaGreatDoor
open Go.RowKit
attribute [local go_sem] Oper.semAt_some

theorem quo_natG (n s : Nat) (hs : 1 ≤ s) (hn : n ≤ 1048576) (W : World) : (binOp .quo 3 (.int .i64 (n : Nat)) (.int .i64 (s : Nat))).run Tryz.prog W = .ok (.int .i64 ((n / s : Nat) : Int)) W := by
 have h2 : n / s ≤ n := Nat.div_le_self _ _
 have h1 : IntKind.i64.wrap ((n / s : Nat) : Int) = ((n / s : Nat) : Int) := by
  generalize n / s = d at *
  exact IntWalk.i64_in _ (by omega)
 have h3 : (n : Int).tdiv (s : Int) = ((n / s : Nat) : Int) := rfl
 have h4 : ¬ s = 0 := by omega
 simp only [go_sem, h3, h1]
 simp [h4]
def I21g (w : World) (Bs : List (Nat × Obj)) (q3 gp q11 : Nat) (st : Nat × (List Int × Bool)) (cc : Nat) (W : World) : Prop :=
 Below w.heap.size w W ∧ Ld Bs W ∧ (HasO W q3 (.cells #[.int .i64 (st.1 : Nat)] 3 (0, 0)) ∧ HasO W gp (pcs st.2.1) ∧ HasO W q11 (.cells #[.bool st.2.2] 4 (0, 0))) ∧ cc ≤ W.heap.size
def L21 (w : World) (Bs : List (Nat × Obj)) (q3 gp q11 n' : Nat) (x : Int) (s D cc : Nat) (stF : List Int × Bool) (W5 : World) (p k a : Nat) (st : List Int × Bool) (wr : World) : Prop :=
 (plc x a k p st = stF ∧ sqOk a k p ∧ a ≤ s ∧ k ≤ 4 ∧ p ≤ 1048576 ∧ st.1.length = s) ∧ I21g w Bs q3 gp q11 (n', st) cc wr ∧ (∀ q o, D ≤ q → HasO W5 q o → HasO wr q o)
theorem I21g.put {w : World} {Bs : List (Nat × Obj)} {q3 gp q11 n' : Nat} {st : List Int × Bool} {cc : Nat} {W : World} (h : I21g w Bs q3 gp q11 (n', st) cc W) (hBn : ∀ x ∈ Bs, x.1 ≠ q3 ∧ x.1 ≠ gp ∧ x.1 ≠ q11) (hne : q3 ≠ gp ∧ q3 ≠ q11 ∧ gp ≠ q11)
  (hw : w.heap.size ≤ q3 ∧ w.heap.size ≤ gp ∧ w.heap.size ≤ q11) (a : Nat) (x : Int) : I21g w Bs q3 gp q11 (n', putS st a x) cc ((W.setCell ⟨gp, a, none⟩ (.int .i8 x)).setCell ⟨q11, 0, none⟩ (.bool (putS st a x).2)) := by
 obtain ⟨h1, h2, ⟨h3, h4, h5⟩, h6⟩ := h
 refine ⟨(h1.setCell (p := ⟨gp, a, none⟩) hw.2.1 _).setCell (p := ⟨q11, 0, none⟩) hw.2.2 _, fun y hy => ((h2 y hy).far (p := ⟨gp, a, none⟩) (hBn y hy).2.1 _).far (p := ⟨q11, 0, none⟩) (hBn y hy).2.2 _,
  ⟨(h3.far (p := ⟨gp, a, none⟩) hne.1 _).far (p := ⟨q11, 0, none⟩) hne.2.1 _, ?_, (h5.far (p := ⟨gp, a, none⟩) (fun e => hne.2.2 e.symm) _).set_ 0 _⟩, by simpa using h6⟩
 have h := h4.set_ a (.int .i8 x)
 rw [pcs_set] at h
 exact h.far (p := ⟨q11, 0, none⟩) hne.2.2 _
set_option maxRecDepth 100000 in
set_option maxHeartbeats 12800000 in
theorem body21g (w : World) (Bs : List (Nat × Obj)) (q3 q8 q9 q10 q11 gp g s F R : Nat) (x : Int) (k nn : Nat) (xs : List Int) (fr : Bool) (D cc j : Nat) (St : Nat → Nat × (List Int × Bool)) (W : World) (T : Array Value) (hT : T.size = 141)
  (h3 : ofA T 3 = .pointer (some ⟨q3, 0, none⟩)) (h8 : ofA T 8 = .pointer (some ⟨q8, 0, none⟩)) (h9 : ofA T 9 = .pointer (some ⟨q9, 0, none⟩)) (h10 : ofA T 10 = .pointer (some ⟨q10, 0, none⟩)) (h11 : ofA T 11 = .pointer (some ⟨q11, 0, none⟩)) (h53 : ofA T 53 = .agg #[.int .i8 x, .int .i64 (k : Nat)])
  (m8 : (q8, Obj.cells #[.int .i64 (s : Nat)] 3 (0, 0)) ∈ Bs) (m9 : (q9, Obj.cells #[.pointer (some ⟨g, 0, none⟩)] 77 (0, 0)) ∈ Bs) (m10 : (q10, Obj.cells (posCs F R (some ⟨gp, 0, none⟩) s s false 0 (-1) 0 1).toArray 40 (0, 0)) ∈ Bs)
  (htab : ∀ W, Ld Bs W → TabW g W) (hD : w.heap.size ≤ D) (hBD : ∀ x ∈ Bs, x.1 < D) (hvD : q3 < D ∧ gp < D ∧ q11 < D) (hBn : ∀ x ∈ Bs, x.1 ≠ q3 ∧ x.1 ≠ gp ∧ x.1 ≠ q11) (hne : q3 ≠ gp ∧ q3 ≠ q11 ∧ gp ≠ q11)
  (hw3 : w.heap.size ≤ q3 ∧ w.heap.size ≤ gp ∧ w.heap.size ≤ q11) (hs : s ≤ 64) (hs4 : 4 ≤ s) (hk : k ≤ 4) (hn : nn ≤ 1048576) (hxl : xs.length = s)
  (hS0 : Hid (St j = (nn, (xs, fr)))) (hS1 : Hid (St (j + 1) = (nn / ch s k, plc x s k (nn % ch s k) (xs, fr))))
  (hI : I21g w Bs q3 gp q11 (St j) cc W) (_hcc : D + 2 ≤ cc)
  (ab : Code × Code) (hab : Tryz.f21.body.bind firstRange = some ab) :
  ab.1.wpIn (Fence.wide.inRound (D + 1)) 3 Tryz.prog (Exit.then (fun a₁ W₁ => (∀ q o, (D ≤ q ∧ q < cc) → HasO W q o → HasO W₁ q o) ∧
     ∀ W₂, Alt (D + 1) (D + 2) W₁ W₂ → W₂.heap.size = W₁.heap.size → (∃ r, HasO W₂ (D + 1) (.loop r)) →
      ab.2.wpIn (Fence.wide.inRound (D + 1)) 3 Tryz.prog (bodyI (D + 1) D (fun i => I21g w Bs q3 gp q11 (St i) cc) (fun _ _ => False) j (fun D q => D + 2 ≤ q ∧ q < cc) W₂) a₁ W₂) (fun _ _ _ => False))
    { tmps := T, defers := [] } W := by
 obtain rfl := Option.some.inj ((show Tryz.f21.body.bind firstRange = some _ from rfl).symm.trans hab)
 have hTl := litP T hT
 rw [h3, h8, h9, h10, h11, h53] at hTl
 rw [hTl]
 generalize ofA T = Y
 clear hTl h3 h8 h9 h10 h11 h53 hT hab
 rw [hS0.out] at hI
 obtain ⟨h1, h2, ⟨v1, v2, v3⟩, h4⟩ := hI
 obtain ⟨c, hc⟩ : ∃ c, c = ch s k := ⟨_, rfl⟩
 have hc1 : 1 ≤ c := by rw [hc]; exact ch_pos hk hs4 hs
 have hcm : Hid (k = 0 ∨ nn % c < ch s k) := Lib.hid (.inr (by rw [← hc]; exact Nat.mod_lt _ hc1))
 rw [← hc] at hS1
 have hcW : ∀ W, Ld Bs W → W.cell? ⟨g, s * 5 + k, none⟩ = some (.int .i64 (c : Nat)) := fun W h => by rw [hc]; exact (htab W h).2 s k hs hk
 replace hc := Lib.hid hc
 obtain ⟨p0, hp0⟩ : ∃ z, z = nn % c := ⟨_, rfl⟩
 obtain ⟨n1, hn1⟩ : ∃ z, z = nn / c := ⟨_, rfl⟩
 have erem : ∀ W, (binOp .rem 3 (.int .i64 (nn : Nat)) (.int .i64 (c : Nat))).run Tryz.prog W = .ok (.int .i64 (p0 : Nat)) W := fun W => by rw [hp0]; exact rem_nat nn c hc1 W
 have equo : ∀ W, (binOp .quo 3 (.int .i64 (nn : Nat)) (.int .i64 (c : Nat))).run Tryz.prog W = .ok (.int .i64 (n1 : Nat)) W := fun W => by rw [hn1]; exact quo_natG nn c hc1 hn W
 have hpl : p0 ≤ 1048576 := by rw [hp0]; exact Nat.le_trans (Nat.mod_le _ _) hn
 rw [← hp0, ← hn1] at hS1
 replace hcm : Hid (k = 0 ∨ p0 < ch s k) := by rw [hp0, hc.out]; rw [hc.out] at hcm; exact hcm
 replace hp0 := Lib.hid hp0
 replace hn1 := Lib.hid hn1
 gi_wp2_with fail
 refine ⟨fun q o _ h => h.alloc _, fun W2 ha hz hrec => ?_⟩
 have hb0 := below_box W (.cells #[.int .i8 x, .int .i64 (k : Nat)] 85)
 have hG0 := HasO.new W (.cells #[.int .i8 x, .int .i64 (k : Nat)] 85)
 have hB0 := below_call h1 h1.size hb0
 have hL0 := h2.call hb0
 have v10 := v1.call hb0
 have v20 := v2.call hb0
 have v30 := v3.call hb0
 have hzW : W2.heap.size = W.heap.size + 1 := by rw [hz]; simp
 obtain ⟨q13, hq13⟩ : ∃ q, q = W.heap.size := ⟨_, rfl⟩
 rw [← hq13] at hG0 hzW ⊢
 have hG := ha.hasO hG0 (by omega)
 have hB := ha.below hB0 (by omega) hB0.size
 have hL := hL0.alt ha (fun x hx => Nat.lt_succ_of_lt (hBD x hx))
 replace v1 := ha.hasO v10 (by omega)
 replace v2 := ha.hasO v20 (by omega)
 replace v3 := ha.hasO v30 (by omega)
 have hcc : D + 2 ≤ cc ∧ cc ≤ q13 := by omega
 clear h1 h2 h4 hb0 hG0 hB0 hL0 ha hz hrec hq13 v10 v20 v30
 have d3 := v1.cells 0
 have f3 := v1.frozen 0
 have d8 := (hL _ m8).cells 0
 have d9 := (hL _ m9).cells 0
 have dg := hG.cells 1
 have dt := hcW W2 hL
 have es : IntKind.i64.wrap ((s : Int) - 1) = (s : Int) - 1 := IntWalk.i64_in _ (by omega)
 have hl3 := v1.lt
 have hl8 := (hL _ m8).lt
 have hl9 := (hL _ m9).lt
 have hlg := (htab W2 hL).1
 have hlG := hG.lt
 replace htab := Lib.hid htab
 replace hcW := Lib.hid hcW
 replace hBD := Lib.hid hBD
 replace hBn := Lib.hid hBn
 replace hxl := Lib.hid hxl
 gi_wp2_with fail
 refine wpIn_region_valsL (by kernel_rfl) (by kernel_rfl) [some 54, some 55, some 56, some 57, some 58, some 59, some 60, some 61, some 62, some 63, some 14] (by rfl) (by rfl) (fun i8 => match i8 with | 0 => .int .i64 ((nn : Nat)) | 1 => .pointer (some ⟨g, 0, none⟩) | 2 => .int .i64 ((s : Nat)) | 3 => .pointer (some ⟨q13, 0 + 1, none⟩) | 4 => .int .i64 ((k : Nat)) | 5 => .pointer (some ⟨g, 0, none⟩) | 6 => .pointer (some ⟨g, s * 5, none⟩) | 7 => .pointer (some ⟨g, s * 5 + k, none⟩) | 8 => .int .i64 ((c : Nat)) | 9 => .int .i64 ((p0 : Nat)) | 10 => .int .i64 ((p0 : Nat)) | _ => undef) (fun W9 => W9 = W2.drew) rfl ?hstep ?hend
 case hstep =>
  intro i9 o9 f9 W9 ho hi hC hf K hK
  have hi : i9 < 11 := hi
  subst hC
  rcases (by omega : i9 = 0 ∨ i9 = 1 ∨ i9 = 2 ∨ i9 = 3 ∨ i9 = 4 ∨ i9 = 5 ∨ i9 = 6 ∨ i9 = 7 ∨ i9 = 8 ∨ i9 = 9 ∨ i9 = 10) with rfl | rfl | rfl | rfl | rfl | rfl | rfl | rfl | rfl | rfl | rfl
  ·exact st_in (X := False) (og ho rfl) (by injection ho with h; rw [← h]; rfl) (st_loadS (og ho rfl) 3 (.tmp 3) (oo ho rfl) (rd_out rfl rfl) (by kernel_rfl) d3 (hK _ rfl))
  ·exact st_in (X := False) (og ho rfl) (by injection ho with h; rw [← h]; rfl) (st_loadS (og ho rfl) 77 (.tmp 9) (oo ho rfl) (rd_out rfl rfl) (by kernel_rfl) d9 (hK _ rfl))
  ·exact st_in (X := False) (og ho rfl) (by injection ho with h; rw [← h]; rfl) (st_loadS (og ho rfl) 3 (.tmp 8) (oo ho rfl) (rd_out rfl rfl) (by kernel_rfl) d8 (hK _ rfl))
  ·exact st_in (X := False) (og ho rfl) (by injection ho with h; rw [← h]; rfl) (st_field (og ho rfl) 85 (.tmp 13) 1 (oo ho rfl) (rd_out rfl rfl) (n := 1) (by kernel_rfl) (hK _ rfl))
  ·exact st_in (X := False) (og ho rfl) (by injection ho with h; rw [← h]; rfl) (st_loadS (og ho rfl) 3 (.tmp 57) (oo ho rfl) (ri 3 (hf ⟨3, .data⟩ (oa ho rfl) rfl)) (by kernel_rfl) dg (hK _ rfl))
  ·exact st_nilIn (og ho rfl) (.tmp 55) (oo ho rfl) (ri 1 (hf ⟨1, .data⟩ (oa ho rfl) rfl)) (hK _ rfl)
  ·exact st_in (X := False) (og ho rfl) (by injection ho with h; rw [← h]; rfl) (st_index (og ho rfl) 139 (.tmp 59) (.tmp 56) (oo ho rfl) (ri 5 (hf ⟨5, .data⟩ (oa ho rfl) rfl)) (ri 2 (hf ⟨2, .data⟩ (oa ho rfl) rfl)) (ix170 _ g s (by omega)) (hK _ rfl))
  ·exact st_in (X := False) (og ho rfl) (by injection ho with h; rw [← h]; rfl) (st_index (og ho rfl) 24 (.tmp 60) (.tmp 58) (oo ho rfl) (ri 6 (hf ⟨6, .data⟩ (oa ho rfl) rfl)) (ri 4 (hf ⟨4, .data⟩ (oa ho rfl) rfl)) (ix39 _ g (s * 5) k (by omega)) (hK _ rfl))
  ·exact st_in (X := False) (og ho rfl) (by injection ho with h; rw [← h]; rfl) (st_loadS (og ho rfl) 3 (.tmp 61) (oo ho rfl) (ri 7 (hf ⟨7, .data⟩ (oa ho rfl) rfl)) (by kernel_rfl) dt (hK _ rfl))
  ·exact st_in (X := False) (og ho rfl) (by injection ho with h; rw [← h]; rfl) (st_bin (og ho rfl) .rem 3 3 (.tmp 54) (.tmp 62) (oo ho rfl) (ri 0 (hf ⟨0, .data⟩ (oa ho rfl) rfl)) (ri 8 (hf ⟨8, .data⟩ (oa ho rfl) rfl)) (gu_i _ _ _ _ _ _ _ _) (erem _) (hK _ rfl))
  ·exact st_in (X := False) (og ho rfl) (by injection ho with h; rw [← h]; rfl) (st_assign (og ho rfl) (.tmp 63) (oo ho rfl) (ri 9 (hf ⟨9, .data⟩ (oa ho rfl) rfl)) (hK _ rfl))
 case hend =>
  rintro f9 W9 rfl hf9
  have v10 : f9 10 = .int .i64 (p0 : Nat) := hf9 10 (by decide)
  simp only [putL, Act.put, List.setIfInBounds_toArray, List.set_cons_succ, List.set_cons_zero]
  rw [v10]
  clear hf9 v10
  generalize f9 0 = u0, f9 1 = u1, f9 2 = u2, f9 3 = u3, f9 4 = u4, f9 5 = u5, f9 6 = u6, f9 7 = u7, f9 8 = u8, f9 9 = u9
  obtain ⟨W3, hW3⟩ : ∃ W3, W3 = W2.drew := ⟨_, rfl⟩
  replace d3 : W3.cell? ⟨q3, 0, none⟩ = some (.int .i64 (nn : Nat)) := by rw [hW3]; exact d3
  replace f3 : W3.frozen? ⟨q3, 0, none⟩ = false := by rw [hW3]; exact f3
  replace d8 : W3.cell? ⟨q8, 0, none⟩ = some (.int .i64 (s : Nat)) := by rw [hW3]; exact d8
  replace d9 : W3.cell? ⟨q9, 0, none⟩ = some (.pointer (some ⟨g, 0, none⟩)) := by rw [hW3]; exact d9
  replace dg : W3.cell? ⟨q13, 1, none⟩ = some (.int .i64 (k : Nat)) := by rw [hW3]; exact dg
  replace dt : W3.cell? ⟨g, s * 5 + k, none⟩ = some (.int .i64 (c : Nat)) := by rw [hW3]; exact dt
  have hkeep : ∀ q o, HasO W2 q o → HasO W3 q o := fun q o h => by rw [hW3]; exact h
  replace hL : Ld Bs W3 := fun x hx => hkeep _ _ (hL x hx)
  replace hG := hkeep _ _ hG
  replace v1 := hkeep _ _ v1
  replace v2 := hkeep _ _ v2
  replace v3 := hkeep _ _ v3
  replace hB : Below w.heap.size w W3 := by rw [hW3]; exact hB.drew
  rw [← hW3]
  have hzW3 : W3.heap.size = q13 + 1 := by rw [hW3]; exact hzW
  gi_wp2_with fail
  refine wpIn_region_last (by kernel_rfl) (by kernel_rfl) [some 64, some 65, some 66, some 67, some 68, some 69, some 70, some 71, some 72, some 73, none] (by rfl) (by rfl) 10 (by rfl) (by kernel_rfl) (fun i8 => match i8 with | 0 => .int .i64 ((nn : Nat)) | 1 => .pointer (some ⟨g, 0, none⟩) | 2 => .int .i64 ((s : Nat)) | 3 => .pointer (some ⟨q13, 0 + 1, none⟩) | 4 => .int .i64 ((k : Nat)) | 5 => .pointer (some ⟨g, 0, none⟩) | 6 => .pointer (some ⟨g, s * 5, none⟩) | 7 => .pointer (some ⟨g, s * 5 + k, none⟩) | 8 => .int .i64 ((c : Nat)) | 9 => .int .i64 ((n1 : Nat)) | _ => undef) (fun W9 => W9 = W3.drew) (fun W9 => W9 = (W3.setCell ⟨q3, 0, none⟩ (.int .i64 (n1 : Nat))).drew) rfl ?hstep ?hturn ?hend
  case hstep =>
   intro i9 o9 f9 W9 ho hi hne hC hf K hK
   have hi : i9 < 11 := hi
   subst hC
   rcases (by omega : i9 = 0 ∨ i9 = 1 ∨ i9 = 2 ∨ i9 = 3 ∨ i9 = 4 ∨ i9 = 5 ∨ i9 = 6 ∨ i9 = 7 ∨ i9 = 8 ∨ i9 = 9) with rfl | rfl | rfl | rfl | rfl | rfl | rfl | rfl | rfl | rfl
   ·exact st_in (X := False) (og ho rfl) (by injection ho with h; rw [← h]; rfl) (st_loadS (og ho rfl) 3 (.tmp 3) (oo ho rfl) (rd_out rfl rfl) (by kernel_rfl) d3 (hK _ rfl))
   ·exact st_in (X := False) (og ho rfl) (by injection ho with h; rw [← h]; rfl) (st_loadS (og ho rfl) 77 (.tmp 9) (oo ho rfl) (rd_out rfl rfl) (by kernel_rfl) d9 (hK _ rfl))
   ·exact st_in (X := False) (og ho rfl) (by injection ho with h; rw [← h]; rfl) (st_loadS (og ho rfl) 3 (.tmp 8) (oo ho rfl) (rd_out rfl rfl) (by kernel_rfl) d8 (hK _ rfl))
   ·exact st_in (X := False) (og ho rfl) (by injection ho with h; rw [← h]; rfl) (st_field (og ho rfl) 85 (.tmp 13) 1 (oo ho rfl) (rd_out rfl rfl) (n := 1) (by kernel_rfl) (hK _ rfl))
   ·exact st_in (X := False) (og ho rfl) (by injection ho with h; rw [← h]; rfl) (st_loadS (og ho rfl) 3 (.tmp 67) (oo ho rfl) (ri 3 (hf ⟨3, .data⟩ (oa ho rfl) rfl)) (by kernel_rfl) dg (hK _ rfl))
   ·exact st_nilIn (og ho rfl) (.tmp 65) (oo ho rfl) (ri 1 (hf ⟨1, .data⟩ (oa ho rfl) rfl)) (hK _ rfl)
   ·exact st_in (X := False) (og ho rfl) (by injection ho with h; rw [← h]; rfl) (st_index (og ho rfl) 139 (.tmp 69) (.tmp 66) (oo ho rfl) (ri 5 (hf ⟨5, .data⟩ (oa ho rfl) rfl)) (ri 2 (hf ⟨2, .data⟩ (oa ho rfl) rfl)) (ix170 _ g s (by omega)) (hK _ rfl))
   ·exact st_in (X := False) (og ho rfl) (by injection ho with h; rw [← h]; rfl) (st_index (og ho rfl) 24 (.tmp 70) (.tmp 68) (oo ho rfl) (ri 6 (hf ⟨6, .data⟩ (oa ho rfl) rfl)) (ri 4 (hf ⟨4, .data⟩ (oa ho rfl) rfl)) (ix39 _ g (s * 5) k (by omega)) (hK _ rfl))
   ·exact st_in (X := False) (og ho rfl) (by injection ho with h; rw [← h]; rfl) (st_loadS (og ho rfl) 3 (.tmp 71) (oo ho rfl) (ri 7 (hf ⟨7, .data⟩ (oa ho rfl) rfl)) (by kernel_rfl) dt (hK _ rfl))
   ·exact st_in (X := False) (og ho rfl) (by injection ho with h; rw [← h]; rfl) (st_bin (og ho rfl) .quo 3 3 (.tmp 64) (.tmp 72) (oo ho rfl) (ri 0 (hf ⟨0, .data⟩ (oa ho rfl) rfl)) (ri 8 (hf ⟨8, .data⟩ (oa ho rfl) rfl)) (gu_i _ _ _ _ _ _ _ _) (equo _) (hK _ rfl))
  case hturn =>
   intro o9 f9 W9 ho hC hf K hK
   subst hC
   exact st_in (X := False) (og ho rfl) (by injection ho with h; rw [← h]; rfl) (st_storeS (og ho rfl) 3 (.tmp 3) (.tmp 73) (oo ho rfl) (rd_out rfl rfl) (ri 9 (hf ⟨9, .data⟩ (oa ho rfl) rfl)) (by kernel_rfl) (by rfl) d3 f3 (hK _ rfl))
  case hend =>
   rintro f9 W9 rfl hf9
   simp only [putL, Act.put, List.setIfInBounds_toArray, List.set_cons_succ, List.set_cons_zero]
   clear hf9
   generalize f9 0 = a0, f9 1 = a1, f9 2 = a2, f9 3 = a3, f9 4 = a4, f9 5 = a5, f9 6 = a6, f9 7 = a7, f9 8 = a8, f9 9 = a9
   obtain ⟨W4, hW4⟩ : ∃ W4, W4 = (W3.setCell ⟨q3, 0, none⟩ (.int .i64 (n1 : Nat))).drew := ⟨_, rfl⟩
   have hk4 : ∀ q o, q ≠ q3 → HasO W3 q o → HasO W4 q o := fun q o hq h => by rw [hW4]; exact h.far (p := ⟨q3, 0, none⟩) hq _
   have hL4 : Ld Bs W4 := fun x hx => hk4 _ _ (hBn.out x hx).1 (hL x hx)
   have hG4 := hk4 _ _ (by omega) hG
   have hA4 : Alt q3 (q3 + 1) W3 W4 := by
    rw [hW4]
    have h0 : Alt q3 (q3 + 1) W3 (W3.setCell ⟨q3, 0, none⟩ (.int .i64 (n1 : Nat))) := Alt.setCell ⟨Nat.le_refl _, Nat.lt_succ_self _⟩
    exact h0.trans (Alt.drewN 1)
   have hB4 := hA4.below hB hw3.1 hB.size
   have hz4 : cc ≤ W4.heap.size := by have := hA4.size; omega
   have hfin : ∀ W9, W9 = W4.drew → (∀ q o, D ≤ q → HasO W2 q o → HasO W9 q o) ∧ I21g w Bs q3 gp q11 (n1, (xs, fr)) cc W9 := by
    rintro W9 rfl
    refine ⟨fun q o hq h => hk4 q o (by omega) (hkeep q o h), hB4.drew, hL4, ⟨?_, hk4 _ _ (fun e => hne.1 e.symm) v2, hk4 _ _ (fun e => hne.2.1 e.symm) v3⟩, hz4⟩
    rw [hW4]
    exact v1.set_ 0 _
   replace d8 := (hL4 _ m8).cells 0
   replace dg := hG4.cells 1
   have hl8 := (hL4 _ m8).lt
   have hlG := hG4.lt
   rw [← hW4]
   clear hW4 hk4 hL4 hA4 hB4 hz4 hkeep hL hG hB d3 f3 d9 dt hl3 hl9 hlg hW3 hzW hzW3 v1 v2 v3
   replace hfin := Lib.hid hfin
   gi_wp2_with fail
   refine wpIn_region_valsL (by kernel_rfl) (by kernel_rfl) [some 74, some 75, some 76, some 77, some 15, some 16] (by rfl) (by rfl) (fun i8 => match i8 with | 0 => .pointer (some ⟨q13, 0 + 1, none⟩) | 1 => .int .i64 ((k : Nat)) | 2 => .int .i64 ((s : Nat)) | 3 => .int .i64 ((s : Int) - 1) | 4 => .int .i64 ((k : Nat)) | 5 => .int .i64 ((s : Int) - 1) | _ => undef) (fun W9 => W9 = W4.drew) rfl ?hstep ?hend
   case hstep =>
    intro i9 o9 f9 W9 ho hi hC hf K hK
    have hi : i9 < 6 := hi
    subst hC
    rcases (by omega : i9 = 0 ∨ i9 = 1 ∨ i9 = 2 ∨ i9 = 3 ∨ i9 = 4 ∨ i9 = 5) with rfl | rfl | rfl | rfl | rfl | rfl
    ·exact st_in (X := False) (og ho rfl) (by injection ho with h; rw [← h]; rfl) (st_field (og ho rfl) 85 (.tmp 13) 1 (oo ho rfl) (rd_out rfl rfl) (n := 1) (by kernel_rfl) (hK _ rfl))
    ·exact st_in (X := False) (og ho rfl) (by injection ho with h; rw [← h]; rfl) (st_loadS (og ho rfl) 3 (.tmp 74) (oo ho rfl) (ri 0 (hf ⟨0, .data⟩ (oa ho rfl) rfl)) (by kernel_rfl) dg (hK _ rfl))
    ·exact st_in (X := False) (og ho rfl) (by injection ho with h; rw [← h]; rfl) (st_loadS (og ho rfl) 3 (.tmp 8) (oo ho rfl) (rd_out rfl rfl) (by kernel_rfl) d8 (hK _ rfl))
    ·exact st_in (X := False) (og ho rfl) (by injection ho with h; rw [← h]; rfl) (st_bin (og ho rfl) .sub 3 3 (.tmp 76) (.const (.int .i64 1)) (oo ho rfl) (ri 2 (hf ⟨2, .data⟩ (oa ho rfl) rfl)) rfl (gu_i _ _ _ _ _ _ _ _) (bin_subE es) (hK _ rfl))
    ·exact st_in (X := False) (og ho rfl) (by injection ho with h; rw [← h]; rfl) (st_assign (og ho rfl) (.tmp 75) (oo ho rfl) (ri 1 (hf ⟨1, .data⟩ (oa ho rfl) rfl)) (hK _ rfl))
    ·exact st_in (X := False) (og ho rfl) (by injection ho with h; rw [← h]; rfl) (st_assign (og ho rfl) (.tmp 77) (oo ho rfl) (ri 3 (hf ⟨3, .data⟩ (oa ho rfl) rfl)) (hK _ rfl))
   case hend =>
    rintro f9 W9 rfl hf9
    have v4 : f9 4 = .int .i64 (k : Nat) := hf9 4 (by decide)
    have v5 : f9 5 = .int .i64 ((s : Int) - 1) := hf9 5 (by decide)
    simp only [putL, Act.put, List.setIfInBounds_toArray, List.set_cons_succ, List.set_cons_zero]
    rw [v4, v5]
    clear hf9 v4 v5
    generalize f9 0 = c0, f9 1 = c1, f9 2 = c2, f9 3 = c3
    obtain ⟨W5, hW5⟩ : ∃ W5, W5 = W4.drew := ⟨_, rfl⟩
    obtain ⟨hf1, hf2⟩ := hfin.out W5 hW5
    have hG5 : HasO W5 q13 (.cells #[.int .i8 x, .int .i64 (k : Nat)] 85 (0, 0)) := by rw [hW5]; exact hG4
    rw [← hW5]
    obtain ⟨stF, hstF⟩ : ∃ z, z = plc x s k p0 (xs, fr) := ⟨_, rfl⟩
    have hL5 : L21 w Bs q3 gp q11 n1 x s D cc stF W5 p0 k s (xs, fr) W5 := ⟨⟨hstF.symm, hcm.out, Nat.le_refl _, hk, hpl, hxl.out⟩, hf2, fun _ _ _ h => h⟩
    rw [← hstF] at hS1
    replace hf1 := Lib.hid hf1
    replace hG5 := Lib.hid hG5
    replace hstF := Lib.hid hstF
    clear hW5 d8 dg hl8 hlG hfin hf2 hG4 hcm hpl erem equo
    gi_wp2_with fail
    gi_loopw [14, 15, 16] (fun u1 u2 u3 wr => ∃ (p k a : Nat) (st : List Int × Bool), u1 = .int .i64 (p : Nat) ∧ u2 = .int .i64 (k : Nat) ∧ u3 = .int .i64 ((a : Int) - 1) ∧ L21 w Bs q3 gp q11 n1 x s D cc stF W5 p k a st wr) (fun _ _ u3 _ => (intOf u3 + 1).toNat)
    case atStart => exact ⟨_, _, _, _, rfl, rfl, rfl, hL5⟩
    case round =>
     clear hL5
     obtain ⟨p, k, a, st, rfl, rfl, rfl, ⟨hp1, hp2, hp3, hp4, hp5, hp6⟩, hI, hKp⟩ := hrel
     by_cases hkz : k = 0
     ·subst hkz
      clear hp2 hp6
      rw [plc_zero] at hp1
      subst hp1
      gi_wp2_with fail
      refine ⟨fun q o hq h => hKp q o (by omega) (hf1.out q o (by omega) h), ?_⟩
      show I21g w Bs q3 gp q11 (St (j + 1)) cc wr
      rw [hS1.out]
      exact hI
     ·obtain ⟨k', hk'⟩ : ∃ z, k = z + 1 := ⟨k - 1, by omega⟩
      have hp4' : k' + 1 ≤ 4 := by omega
      have hp2a := hp2
      rw [hk'] at hp1 hp2a
      obtain ⟨b, rfl⟩ := sqOk_pos hp4' hp2a
      have eb : ((b + 1 : Nat) : Int) - 1 = (b : Nat) := by omega
      rw [eb]
      clear eb
      have hb64 : b < 64 := by omega
      have hbs : b < s := by omega
      have hk0 : (k : Int) > 0 := by omega
      obtain ⟨e, he⟩ : ∃ z, z = ch b (k' + 1) := ⟨_, rfl⟩
      have hLw := hI.2.1
      have dt : wr.cell? ⟨g, b * 5 + k, none⟩ = some (.int .i64 (e : Nat)) := by rw [he, hk']; exact (htab.out wr hLw).2 b (k' + 1) (by omega) hp4'
      have d9 := (hLw _ m9).cells 0
      have hl9 := (hLw _ m9).lt
      have hlg := (htab.out wr hLw).1
      have hq10 : wr.cell? ⟨q10, 2, none⟩ = some (.slice (some ⟨gp, 0, none⟩) st.1.length s) := by rw [hp6]; exact (hLw _ m10).cells 2
      have hGw := hKp q13 _ (by omega) hG5.out
      have dG := hGw.cells 0
      have hlG := hGw.lt
      have hq11 := hI.2.2.1.2.2
      have d11 := hq11.cells 0
      have f11 := hq11.frozen 0
      have hl11 := hq11.lt
      have hput := put_any q10 gp s b st.1 x (by rw [hp6]; exact hbs) wr hq10 hI.2.2.1.2.1
      by_cases h2 : e ≤ p
      ·have h2i : (e : Int) ≤ (p : Nat) := by omega
       have hp1' : plc x b k' (p - e) (putS st b x) = stF := by rw [he] at h2 ⊢; rw [plc_put st h2] at hp1; exact hp1
       have hp2' : sqOk b k' (p - e) := by rw [he] at h2 ⊢; exact sqOk_put hb64 hp4' hp2a h2
       have hIp := I21g.put hI hBn.out hne hw3 b x
       have hKp' : ∀ v, ∀ q o, D ≤ q → HasO W5 q o → HasO ((wr.setCell ⟨gp, b, none⟩ (.int .i8 x)).setCell ⟨q11, 0, none⟩ v) q o := fun v q o hq h => ((hKp q o hq h).far (p := ⟨gp, b, none⟩) (show q ≠ gp by omega) _).far (p := ⟨q11, 0, none⟩) (show q ≠ q11 by omega) _
       have hq11p : HasO (wr.setCell ⟨gp, b, none⟩ (.int .i8 x)) q11 (.cells #[.bool st.2] 4 (0, 0)) := hq11.far (p := ⟨gp, b, none⟩) (fun h => hne.2.2 h.symm) _
       replace he := Lib.hid he
       replace hp1 := Lib.hid hp1
       replace hp2 := Lib.hid hp2
       replace hp2a := Lib.hid hp2a
       replace hk' := Lib.hid hk'
       replace hp1' := Lib.hid hp1'
       replace hp2' := Lib.hid hp2'
       replace hIp := Lib.hid hIp
       replace hKp := Lib.hid hKp
       replace hKp' := Lib.hid hKp'
       replace hI := Lib.hid hI
       replace hp6 := Lib.hid hp6
       gi_wp2_with fail
       refine ⟨trivial, (CallsIn.inRound _ (callsIn_wide.2 hput)).mono ?_⟩
       rintro e2 w2 ⟨rfl, hw2⟩
       obtain ⟨b1, hb1⟩ : ∃ z, z = decide (st.1[b]?.getD 0 = 0) := ⟨_, rfl⟩
       rw [← hb1]
       have hval : Hid ((putS st b x).2 = (b1 && st.2)) := Lib.hid (by rw [hb1]; rfl)
       rw [← hw2] at hq11p
       replace d11 := hq11p.cells 0
       replace f11 := hq11p.frozen 0
       replace hl11 := hq11p.lt
       have hb0 : (b : Int) ≥ 0 := by omega
       replace hb1 := Lib.hid hb1
       replace hw2 := Lib.hid hw2
       clear hput hq10 dt d9 hl9 hlg hGw dG hlG hq11 hLw
       cases b1
       all_goals
        gi_wp2_with fail
        go_roundw
        case measure => simp [intOf] <;> omega
        case rel =>
         have hI2 := hIp.out
         rw [hval.out, ← hw2.out] at hI2
         have hK2 := hKp'.out
         rw [← hw2.out] at hK2
         exact ⟨p - e, k', b, putS st b x, congrArg _ (by omega), congrArg _ (by have := hk'.out; omega), rfl, ⟨hp1'.out, hp2'.out, by omega, by omega, by omega, by rw [putS_len]; exact hp6.out⟩, hI2, hK2 _⟩
      ·have h2i : ¬ (e : Int) ≤ (p : Nat) := by omega
       have hp1' : plc x b k p st = stF := by rw [he] at h2; rw [plc_skip st h2] at hp1; rw [hk']; exact hp1
       have hp2' : sqOk b k p := by rw [he] at h2; rw [hk']; exact sqOk_skip h2
       have hb0 : (b : Int) ≥ 0 := by omega
       replace he := Lib.hid he
       replace hp1 := Lib.hid hp1
       replace hp2 := Lib.hid hp2
       replace hp2a := Lib.hid hp2a
       replace hk' := Lib.hid hk'
       replace hp1' := Lib.hid hp1'
       replace hp2' := Lib.hid hp2'
       replace hKp := Lib.hid hKp
       replace hI := Lib.hid hI
       replace hp6 := Lib.hid hp6
       clear hput hq10 hGw hq11 hLw
       gi_wp2_with fail
       go_roundw
       case measure => simp [intOf] <;> omega
       case rel => exact ⟨p, k, b, st, rfl, rfl, rfl, ⟨hp1'.out, hp2'.out, by omega, hp4, hp5, hp6.out⟩, hI.out, hKp.out⟩
end Go.Proofs.YtnpomigmeieofaaGreatDoor
