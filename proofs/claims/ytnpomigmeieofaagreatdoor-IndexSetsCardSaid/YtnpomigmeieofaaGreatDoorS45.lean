import Derived.Test.YtnpomigmeieofaaGreatDoorS21
import Derived.Test.YtnpomigmeieofaaGreatDoorS44
set_option maxHeartbeats 12800000
namespace Go.Proofs.YtnpomigmeieofaaGreatDoor
open Go.RowKit
attribute [local go_sem] Oper.semAt_some

theorem litP (T : Array Value) (h : T.size = 141) : T = #[ofA T 0, ofA T 1, ofA T 2, ofA T 3, ofA T 4, ofA T 5, ofA T 6, ofA T 7, ofA T 8, ofA T 9, ofA T 10, ofA T 11, ofA T 12, ofA T 13, ofA T 14, ofA T 15, ofA T 16, ofA T 17, ofA T 18, ofA T 19, ofA T 20, ofA T 21, ofA T 22, ofA T 23, ofA T 24, ofA T 25, ofA T 26, ofA T 27, ofA T 28, ofA T 29, ofA T 30, ofA T 31, ofA T 32, ofA T 33, ofA T 34, ofA T 35, ofA T 36, ofA T 37, ofA T 38, ofA T 39, ofA T 40, ofA T 41, ofA T 42, ofA T 43, ofA T 44, ofA T 45, ofA T 46, ofA T 47, ofA T 48, ofA T 49, ofA T 50, ofA T 51, ofA T 52, ofA T 53, ofA T 54, ofA T 55, ofA T 56, ofA T 57, ofA T 58, ofA T 59, ofA T 60, ofA T 61, ofA T 62, ofA T 63, ofA T 64, ofA T 65, ofA T 66, ofA T 67, ofA T 68, ofA T 69, ofA T 70, ofA T 71, ofA T 72, ofA T 73, ofA T 74, ofA T 75, ofA T 76, ofA T 77, ofA T 78, ofA T 79, ofA T 80, ofA T 81, ofA T 82, ofA T 83, ofA T 84, ofA T 85, ofA T 86, ofA T 87, ofA T 88, ofA T 89, ofA T 90, ofA T 91, ofA T 92, ofA T 93, ofA T 94, ofA T 95, ofA T 96, ofA T 97, ofA T 98, ofA T 99, ofA T 100, ofA T 101, ofA T 102, ofA T 103, ofA T 104, ofA T 105, ofA T 106, ofA T 107, ofA T 108, ofA T 109, ofA T 110, ofA T 111, ofA T 112, ofA T 113, ofA T 114, ofA T 115, ofA T 116, ofA T 117, ofA T 118, ofA T 119, ofA T 120, ofA T 121, ofA T 122, ofA T 123, ofA T 124, ofA T 125, ofA T 126, ofA T 127, ofA T 128, ofA T 129, ofA T 130, ofA T 131, ofA T 132, ofA T 133, ofA T 134, ofA T 135, ofA T 136, ofA T 137, ofA T 138, ofA T 139, ofA T 140] := by
 have := arr_lit T
 rw [h] at this
 exact this
def Ld (Bs : List (Nat × Obj)) (W : World) : Prop := ∀ x ∈ Bs, HasO W x.1 x.2
theorem Ld.alt {Bs : List (Nat × Obj)} {lo hi : Nat} {W W' : World} (h : Ld Bs W) (ha : Alt lo hi W W') (hl : ∀ x ∈ Bs, x.1 < lo) : Ld Bs W' := fun x hx => ha.hasO (h x hx) (.inl (hl x hx))
theorem Ld.call {Bs : List (Nat × Obj)} {W W' : World} (h : Ld Bs W) (hb : Below W.heap.size W W') : Ld Bs W' := fun x hx => (h x hx).call hb
theorem setCell_same {W : World} {q : Nat} {v : Value} {t : TypeId} (h : HasO W q (.cells #[v] t (0, 0))) {q' : Nat} {o : Obj} (h' : HasO W q' o) : HasO (W.setCell ⟨q, 0, none⟩ v) q' o := by
 by_cases e : q' = q
 ·subst e
  have e2 : o = .cells #[v] t (0, 0) := by
   unfold HasO at h h'
   rw [h] at h'; injection h' with h'; exact h'.symm
  subst e2
  exact h.set_ 0 v
 ·exact h'.far e v
theorem wpIn_region_valsL {F : Fence} {n : Nat} {P : Program} {id : Nat} {ops : Array Oper} {Q : Exit → Act → World → Prop} {a : Act} {w : World} (hm : P.follows .mixedOrders = true) (hb : edgesBack .any ops = true)
  (ds : List (Option Tmp)) (hds : ops.toList.map (·.dst) = ds) (hok : dstsOk ds = true) (vals : Nat → Value) (C : World → Prop) (h0 : C w.drew)
  (hstep : ∀ i o f W, ops[i]? = some o → i < ops.size → C W → (∀ e ∈ o.after, Region.binds .any e = true → f e.on = vals e.on) → ∀ K : Act → World → Prop, (∀ W', C W' → K ((putL ds f 0 a).put o.dst (vals i)) W') →
   if Region.wanted o (yielded ops (putL ds f 0 a).tmps) = true then o.wpIn F n P (putL ds f 0 a) W K Q else False)
  (hend : ∀ f W, C W → (∀ i, i < ops.size → f i = vals i) → Q .normal (putL ds f 0 a) W) : (Code.region id ops true).wpIn F n P Q a w := by
 have hlt : ∀ (i : Nat) (o : Oper), ops[i]? = some o → ∀ e ∈ o.after, Region.binds .any e = true → e.on < ops.size := by
  intro i o ho e he hbd
  have hi : i < ops.size := (Array.getElem?_eq_some_iff.1 ho).1
  have hb' := hb
  unfold edgesBack at hb'
  rw [List.all_eq_true] at hb'
  have h := hb' i (List.mem_range.2 hi)
  rw [ho] at h
  simp only [Option.map_some, Option.getD_some, Array.all_eq_true', Bool.or_eq_true, Bool.not_eq_true', decide_eq_true_eq] at h
  rcases h e he with h | h
  ·rw [hbd] at h; cases h
  ·omega
 refine wpIn_region_relL hm hb ds hds hok (fun S f W => (∀ i, i < ops.size → S i = true → f i = vals i) ∧ C W) ?_ ?_ ?_ ?_
 ·rintro S S' f W hS ⟨h1, h2⟩
  exact ⟨fun i hi h => h1 i hi (by rw [hS i hi]; exact h), h2⟩
 ·intro f
  exact ⟨fun i _ h => (by cases h), h0⟩
 ·rintro S i o f W ho hi hSi hpre hcl ⟨h1, h2⟩ K hK
  refine hstep i o f W ho hi h2 (fun e he hbd => h1 e.on (hlt i o ho e he hbd) (hpre e he hbd)) K (fun W' hC' => hK _ _ ⟨fun j hj h => ?_, hC'⟩)
  by_cases e : j = i
  ·simp [e]
  ·simp only [upd, if_neg e] at h
   simp only [if_neg e]; exact h1 j hj h
 ·rintro S f W hall2 ⟨h1, h2⟩
  exact hend f W h2 (fun i hi => h1 i hi (hall2 i hi))
theorem rem_one (n : Nat) (W : World) : (binOp .rem 3 (.int .i64 (n : Nat)) (.int .i64 1)).run Tryz.prog W = .ok (.int .i64 0) W := by
 simp [go_sem]
theorem quo_one (n : Nat) (hn : n ≤ 1000000000) (W : World) : (binOp .quo 3 (.int .i64 (n : Nat)) (.int .i64 1)).run Tryz.prog W = .ok (.int .i64 (n : Nat)) W := by
 have h := IntWalk.i64_in (n : Int) (by omega)
 simp [go_sem, h]
def I21 (w : World) (Bs : List (Nat × Obj)) (cc : Nat) (W : World) : Prop := Below w.heap.size w W ∧ Ld Bs W ∧ cc ≤ W.heap.size
set_option maxRecDepth 100000 in
theorem body21 (w : World) (Bs : List (Nat × Obj)) (q3 q8 q9 g n s : Nat) (gp : Int) (D cc j : Nat) (W : World) (T : Array Value) (hT : T.size = 141)
  (h3 : ofA T 3 = .pointer (some ⟨q3, 0, none⟩)) (h8 : ofA T 8 = .pointer (some ⟨q8, 0, none⟩)) (h9 : ofA T 9 = .pointer (some ⟨q9, 0, none⟩)) (h53 : ofA T 53 = .agg #[.int .i8 gp, .int .i64 0])
  (m3 : (q3, Obj.cells #[.int .i64 (n : Nat)] 3 (0, 0)) ∈ Bs) (m8 : (q8, Obj.cells #[.int .i64 (s : Nat)] 3 (0, 0)) ∈ Bs) (m9 : (q9, Obj.cells #[.pointer (some ⟨g, 0, none⟩)] 77 (0, 0)) ∈ Bs)
  (htab : ∀ W, Ld Bs W → TabW g W) (hD : w.heap.size ≤ D) (hBD : ∀ x ∈ Bs, x.1 < D) (hw3 : w.heap.size ≤ q3) (hs : s ≤ 64) (hn : n ≤ 1000000000)
  (hI : I21 w Bs cc W) (_hcc : D + 2 ≤ cc)
  (ab : Code × Code) (hab : Tryz.f21.body.bind firstRange = some ab) :
  ab.1.wpIn (Fence.wide.inRound (D + 1)) 3 Tryz.prog (Exit.then (fun a₁ W₁ => (∀ q o, (D ≤ q ∧ q < cc) → HasO W q o → HasO W₁ q o) ∧
     ∀ W₂, Alt (D + 1) (D + 2) W₁ W₂ → W₂.heap.size = W₁.heap.size → (∃ r, HasO W₂ (D + 1) (.loop r)) →
      ab.2.wpIn (Fence.wide.inRound (D + 1)) 3 Tryz.prog (bodyI (D + 1) D (fun _ => I21 w Bs cc) (fun _ _ => False) j (fun D q => D + 2 ≤ q ∧ q < cc) W₂) a₁ W₂) (fun _ _ _ => False))
    { tmps := T, defers := [] } W := by
 obtain rfl := Option.some.inj ((show Tryz.f21.body.bind firstRange = some _ from rfl).symm.trans hab)
 have hTl := litP T hT
 rw [h3, h8, h9, h53] at hTl
 rw [hTl]
 generalize ofA T = Y
 clear hTl h3 h8 h9 h53 hT hab
 obtain ⟨h1, h2, h4⟩ := hI
 gi_wp2_with fail
 refine ⟨fun q o _ h => h.alloc _, fun W2 ha hz hrec => ?_⟩
 have hb0 := below_box W (.cells #[.int .i8 gp, .int .i64 0] 85)
 have hG0 := HasO.new W (.cells #[.int .i8 gp, .int .i64 0] 85)
 have hB0 := below_call h1 h1.size hb0
 have hL0 := h2.call hb0
 have hzW : W2.heap.size = W.heap.size + 1 := by rw [hz]; simp
 obtain ⟨q13, hq13⟩ : ∃ q, q = W.heap.size := ⟨_, rfl⟩
 rw [← hq13] at hG0 hzW ⊢
 have hG := ha.hasO hG0 (by omega)
 have hB := ha.below hB0 (by omega) hB0.size
 have hL := hL0.alt ha (fun x hx => Nat.lt_succ_of_lt (hBD x hx))
 have hcc : D + 2 ≤ cc ∧ cc ≤ q13 := by omega
 clear h1 h2 h4 hb0 hG0 hB0 hL0 ha hz hrec hq13
 have d3 := (hL _ m3).cells 0
 have f3 := (hL _ m3).frozen 0
 have d8 := (hL _ m8).cells 0
 have d9 := (hL _ m9).cells 0
 have dg := hG.cells 1
 have dt : W2.cell? ⟨g, s * 5 + 0, none⟩ = some (.int .i64 1) := (htab W2 hL).2 s 0 hs (by omega)
 have es : IntKind.i64.wrap ((s : Int) - 1) = (s : Int) - 1 := IntWalk.i64_in _ (by omega)
 have hl3 := (hL _ m3).lt
 have hl8 := (hL _ m8).lt
 have hl9 := (hL _ m9).lt
 have hlg := (htab W2 hL).1
 have hlG := hG.lt
 replace htab := Lib.hid htab
 replace hBD := Lib.hid hBD
 gi_wp2_with fail
 refine wpIn_region_valsL (by kernel_rfl) (by kernel_rfl) [some 54, some 55, some 56, some 57, some 58, some 59, some 60, some 61, some 62, some 63, some 14] (by rfl) (by rfl) (fun i8 => match i8 with | 0 => .int .i64 ((n : Nat)) | 1 => .pointer (some ⟨g, 0, none⟩) | 2 => .int .i64 ((s : Nat)) | 3 => .pointer (some ⟨q13, 0 + 1, none⟩) | 4 => .int .i64 (0) | 5 => .pointer (some ⟨g, 0, none⟩) | 6 => .pointer (some ⟨g, s * 5, none⟩) | 7 => .pointer (some ⟨g, s * 5 + 0, none⟩) | 8 => .int .i64 (1) | 9 => .int .i64 (0) | 10 => .int .i64 (0) | _ => undef) (fun W9 => W9 = W2.drew) rfl ?hstep ?hend
 case hstep =>
  intro i9 o9 f9 W9 ho hi hC hf K hK
  have hi : i9 < 11 := hi
  subst hC
  rcases i9 with _ | _ | _ | _ | _ | _ | _ | _ | _ | _ | _ | i9
  ·exact st_in (X := False) (og ho) (by injection ho with h; rw [← h]; rfl) (st_loadS (og ho) 3 (.tmp 3) (oo ho) (rd_out rfl rfl) (by kernel_rfl) d3 (hK _ rfl))
  ·exact st_in (X := False) (og ho) (by injection ho with h; rw [← h]; rfl) (st_loadS (og ho) 77 (.tmp 9) (oo ho) (rd_out rfl rfl) (by kernel_rfl) d9 (hK _ rfl))
  ·exact st_in (X := False) (og ho) (by injection ho with h; rw [← h]; rfl) (st_loadS (og ho) 3 (.tmp 8) (oo ho) (rd_out rfl rfl) (by kernel_rfl) d8 (hK _ rfl))
  ·exact st_in (X := False) (og ho) (by injection ho with h; rw [← h]; rfl) (st_field (og ho) 85 (.tmp 13) 1 (oo ho) (rd_out rfl rfl) (n := 1) (by kernel_rfl) (hK _ rfl))
  ·exact st_in (X := False) (og ho) (by injection ho with h; rw [← h]; rfl) (st_loadS (og ho) 3 (.tmp 57) (oo ho) (ri 3 (da ho hf 3)) (by kernel_rfl) dg (hK _ rfl))
  ·exact st_nilIn (og ho) (.tmp 55) (oo ho) (ri 1 (da ho hf 1)) (hK _ rfl)
  ·exact st_in (X := False) (og ho) (by injection ho with h; rw [← h]; rfl) (st_index (og ho) 139 (.tmp 59) (.tmp 56) (oo ho) (ri 5 (da ho hf 5)) (ri 2 (da ho hf 2)) (ix170 _ g s (by omega)) (hK _ rfl))
  ·exact st_in (X := False) (og ho) (by injection ho with h; rw [← h]; rfl) (st_index (og ho) 24 (.tmp 60) (.tmp 58) (oo ho) (ri 6 (da ho hf 6)) (ri 4 (da ho hf 4)) (ix39 _ g (s * 5) 0 (by omega)) (hK _ rfl))
  ·exact st_in (X := False) (og ho) (by injection ho with h; rw [← h]; rfl) (st_loadS (og ho) 3 (.tmp 61) (oo ho) (ri 7 (da ho hf 7)) (by kernel_rfl) dt (hK _ rfl))
  ·exact st_in (X := False) (og ho) (by injection ho with h; rw [← h]; rfl) (st_bin (og ho) .rem 3 3 (.tmp 54) (.tmp 62) (oo ho) (ri 0 (da ho hf 0)) (ri 8 (da ho hf 8)) (gu_i _ _ _ _ _ _ _ _) (rem_one n _) (hK _ rfl))
  ·exact st_in (X := False) (og ho) (by injection ho with h; rw [← h]; rfl) (st_assign (og ho) (.tmp 63) (oo ho) (ri 9 (da ho hf 9)) (hK _ rfl))
  ·omega
 case hend =>
  rintro f9 W9 rfl hf9
  have v10 : f9 10 = .int .i64 0 := hf9 10 (by decide)
  simp only [putL, Act.put, List.setIfInBounds_toArray, List.set_cons_succ, List.set_cons_zero]
  rw [v10]
  clear hf9 v10
  generalize f9 0 = u0, f9 1 = u1, f9 2 = u2, f9 3 = u3, f9 4 = u4, f9 5 = u5, f9 6 = u6, f9 7 = u7, f9 8 = u8, f9 9 = u9
  obtain ⟨W3, hW3⟩ : ∃ W3, W3 = W2.drew := ⟨_, rfl⟩
  replace d3 : W3.cell? ⟨q3, 0, none⟩ = some (.int .i64 (n : Nat)) := by rw [hW3]; exact d3
  replace f3 : W3.frozen? ⟨q3, 0, none⟩ = false := by rw [hW3]; exact f3
  replace d8 : W3.cell? ⟨q8, 0, none⟩ = some (.int .i64 (s : Nat)) := by rw [hW3]; exact d8
  replace d9 : W3.cell? ⟨q9, 0, none⟩ = some (.pointer (some ⟨g, 0, none⟩)) := by rw [hW3]; exact d9
  replace dg : W3.cell? ⟨q13, 1, none⟩ = some (.int .i64 0) := by rw [hW3]; exact dg
  replace dt : W3.cell? ⟨g, s * 5 + 0, none⟩ = some (.int .i64 1) := by rw [hW3]; exact dt
  replace hL : Ld Bs W3 := by rw [hW3]; exact hL
  replace hG : HasO W3 q13 (.cells #[.int .i8 gp, .int .i64 0] 85 (0, 0)) := by rw [hW3]; exact hG
  have hkeep : ∀ q o, HasO W2 q o → HasO W3 q o := fun q o h => by rw [hW3]; exact h
  replace hB : Below w.heap.size w W3 := by rw [hW3]; exact hB.drew
  rw [← hW3]
  have hzW3 : W3.heap.size = q13 + 1 := by rw [hW3]; exact hzW
  gi_wp2_with fail
  refine wpIn_region_last (by kernel_rfl) (by kernel_rfl) [some 64, some 65, some 66, some 67, some 68, some 69, some 70, some 71, some 72, some 73, none] (by rfl) (by rfl) 10 (by rfl) (by kernel_rfl) (fun i8 => match i8 with | 0 => .int .i64 ((n : Nat)) | 1 => .pointer (some ⟨g, 0, none⟩) | 2 => .int .i64 ((s : Nat)) | 3 => .pointer (some ⟨q13, 0 + 1, none⟩) | 4 => .int .i64 (0) | 5 => .pointer (some ⟨g, 0, none⟩) | 6 => .pointer (some ⟨g, s * 5, none⟩) | 7 => .pointer (some ⟨g, s * 5 + 0, none⟩) | 8 => .int .i64 (1) | 9 => .int .i64 ((n : Nat)) | _ => undef) (fun W9 => W9 = W3.drew) (fun W9 => W9 = (W3.setCell ⟨q3, 0, none⟩ (.int .i64 (n : Nat))).drew) rfl ?hstep ?hturn ?hend
  case hstep =>
   intro i9 o9 f9 W9 ho hi hne hC hf K hK
   have hi : i9 < 11 := hi
   subst hC
   rcases i9 with _ | _ | _ | _ | _ | _ | _ | _ | _ | _ | i9
   ·exact st_in (X := False) (og ho) (by injection ho with h; rw [← h]; rfl) (st_loadS (og ho) 3 (.tmp 3) (oo ho) (rd_out rfl rfl) (by kernel_rfl) d3 (hK _ rfl))
   ·exact st_in (X := False) (og ho) (by injection ho with h; rw [← h]; rfl) (st_loadS (og ho) 77 (.tmp 9) (oo ho) (rd_out rfl rfl) (by kernel_rfl) d9 (hK _ rfl))
   ·exact st_in (X := False) (og ho) (by injection ho with h; rw [← h]; rfl) (st_loadS (og ho) 3 (.tmp 8) (oo ho) (rd_out rfl rfl) (by kernel_rfl) d8 (hK _ rfl))
   ·exact st_in (X := False) (og ho) (by injection ho with h; rw [← h]; rfl) (st_field (og ho) 85 (.tmp 13) 1 (oo ho) (rd_out rfl rfl) (n := 1) (by kernel_rfl) (hK _ rfl))
   ·exact st_in (X := False) (og ho) (by injection ho with h; rw [← h]; rfl) (st_loadS (og ho) 3 (.tmp 67) (oo ho) (ri 3 (da ho hf 3)) (by kernel_rfl) dg (hK _ rfl))
   ·exact st_nilIn (og ho) (.tmp 65) (oo ho) (ri 1 (da ho hf 1)) (hK _ rfl)
   ·exact st_in (X := False) (og ho) (by injection ho with h; rw [← h]; rfl) (st_index (og ho) 139 (.tmp 69) (.tmp 66) (oo ho) (ri 5 (da ho hf 5)) (ri 2 (da ho hf 2)) (ix170 _ g s (by omega)) (hK _ rfl))
   ·exact st_in (X := False) (og ho) (by injection ho with h; rw [← h]; rfl) (st_index (og ho) 24 (.tmp 70) (.tmp 68) (oo ho) (ri 6 (da ho hf 6)) (ri 4 (da ho hf 4)) (ix39 _ g (s * 5) 0 (by omega)) (hK _ rfl))
   ·exact st_in (X := False) (og ho) (by injection ho with h; rw [← h]; rfl) (st_loadS (og ho) 3 (.tmp 71) (oo ho) (ri 7 (da ho hf 7)) (by kernel_rfl) dt (hK _ rfl))
   ·exact st_in (X := False) (og ho) (by injection ho with h; rw [← h]; rfl) (st_bin (og ho) .quo 3 3 (.tmp 64) (.tmp 72) (oo ho) (ri 0 (da ho hf 0)) (ri 8 (da ho hf 8)) (gu_i _ _ _ _ _ _ _ _) (quo_one n hn _) (hK _ rfl))
   ·omega
  case hturn =>
   intro o9 f9 W9 ho hC hf K hK
   subst hC
   exact st_in (X := False) (og ho) (by injection ho with h; rw [← h]; rfl) (st_storeS (og ho) 3 (.tmp 3) (.tmp 73) (oo ho) (rd_out rfl rfl) (ri 9 (da ho hf 9)) (by kernel_rfl) (by rfl) d3 f3 (hK _ rfl))
  case hend =>
   rintro f9 W9 rfl hf9
   simp only [putL, Act.put, List.setIfInBounds_toArray, List.set_cons_succ, List.set_cons_zero]
   clear hf9
   generalize f9 0 = a0, f9 1 = a1, f9 2 = a2, f9 3 = a3, f9 4 = a4, f9 5 = a5, f9 6 = a6, f9 7 = a7, f9 8 = a8, f9 9 = a9
   obtain ⟨W4, hW4⟩ : ∃ W4, W4 = (W3.setCell ⟨q3, 0, none⟩ (.int .i64 (n : Nat))).drew := ⟨_, rfl⟩
   have hk4 : ∀ q o, HasO W3 q o → HasO W4 q o := fun q o h => by rw [hW4]; exact setCell_same (hL _ m3) h
   have hL4 : Ld Bs W4 := fun x hx => hk4 _ _ (hL x hx)
   have hG4 := hk4 _ _ hG
   have hA4 : Alt q3 (q3 + 1) W3 W4 := by
    rw [hW4]
    have h0 : Alt q3 (q3 + 1) W3 (W3.setCell ⟨q3, 0, none⟩ (.int .i64 (n : Nat))) := Alt.setCell ⟨Nat.le_refl _, Nat.lt_succ_self _⟩
    exact h0.trans (Alt.drewN 1)
   have hB4 := hA4.below hB hw3 hB.size
   have hz4 : cc ≤ W4.heap.size := by have := hA4.size; omega
   have hfin : ∀ W9, W9 = W4.drew → (∀ q o, (q = D + 1 ∨ q = D ∨ (D + 2 ≤ q ∧ q < cc)) → HasO W2 q o → HasO W9 q o) ∧ I21 w Bs cc W9 := by
    rintro W9 rfl
    exact ⟨fun q o _ h => hk4 q o (hkeep q o h), hB4.drew, hL4, hz4⟩
   replace d8 := (hL4 _ m8).cells 0
   replace dg := hG4.cells 1
   have hl8 := (hL4 _ m8).lt
   have hlG := hG4.lt
   rw [← hW4]
   clear hW4 hk4 hL4 hG4 hA4 hB4 hz4 hkeep hL hG hB d3 f3 d9 dt hl3 hl9 hlg hW3 hzW hzW3
   replace hfin := Lib.hid hfin
   gi_wp2_with fail
   refine wpIn_region_valsL (by kernel_rfl) (by kernel_rfl) [some 74, some 75, some 76, some 77, some 15, some 16] (by rfl) (by rfl) (fun i8 => match i8 with | 0 => .pointer (some ⟨q13, 0 + 1, none⟩) | 1 => .int .i64 (0) | 2 => .int .i64 ((s : Nat)) | 3 => .int .i64 ((s : Int) - 1) | 4 => .int .i64 (0) | 5 => .int .i64 ((s : Int) - 1) | _ => undef) (fun W9 => W9 = W4.drew) rfl ?hstep ?hend
   case hstep =>
    intro i9 o9 f9 W9 ho hi hC hf K hK
    have hi : i9 < 6 := hi
    subst hC
    rcases i9 with _ | _ | _ | _ | _ | _ | i9
    ·exact st_in (X := False) (og ho) (by injection ho with h; rw [← h]; rfl) (st_field (og ho) 85 (.tmp 13) 1 (oo ho) (rd_out rfl rfl) (n := 1) (by kernel_rfl) (hK _ rfl))
    ·exact st_in (X := False) (og ho) (by injection ho with h; rw [← h]; rfl) (st_loadS (og ho) 3 (.tmp 74) (oo ho) (ri 0 (da ho hf 0)) (by kernel_rfl) dg (hK _ rfl))
    ·exact st_in (X := False) (og ho) (by injection ho with h; rw [← h]; rfl) (st_loadS (og ho) 3 (.tmp 8) (oo ho) (rd_out rfl rfl) (by kernel_rfl) d8 (hK _ rfl))
    ·exact st_in (X := False) (og ho) (by injection ho with h; rw [← h]; rfl) (st_bin (og ho) .sub 3 3 (.tmp 76) (.const (.int .i64 1)) (oo ho) (ri 2 (da ho hf 2)) rfl (gu_i _ _ _ _ _ _ _ _) (bin_subE es) (hK _ rfl))
    ·exact st_in (X := False) (og ho) (by injection ho with h; rw [← h]; rfl) (st_assign (og ho) (.tmp 75) (oo ho) (ri 1 (da ho hf 1)) (hK _ rfl))
    ·exact st_in (X := False) (og ho) (by injection ho with h; rw [← h]; rfl) (st_assign (og ho) (.tmp 77) (oo ho) (ri 3 (da ho hf 3)) (hK _ rfl))
    ·omega
   case hend =>
    rintro f9 W9 rfl hf9
    have v4 : f9 4 = .int .i64 0 := hf9 4 (by decide)
    have v5 : f9 5 = .int .i64 ((s : Int) - 1) := hf9 5 (by decide)
    simp only [putL, Act.put, List.setIfInBounds_toArray, List.set_cons_succ, List.set_cons_zero]
    rw [v4, v5]
    clear hf9 v4 v5
    generalize f9 0 = c0, f9 1 = c1, f9 2 = c2, f9 3 = c3
    obtain ⟨W5, hW5⟩ : ∃ W5, W5 = W4.drew := ⟨_, rfl⟩
    replace hfin := hfin.out W5 hW5
    rw [← hW5]
    replace hfin := Lib.hid hfin
    clear hW5 d8 dg hl8 hlG
    gi_wp2_with fail
    gi_loopw [15] (fun v wr => v = .int .i64 0 ∧ wr = W5) (fun _ _ => 0)
    case atStart => exact ⟨rfl, rfl⟩
    case round =>
     obtain ⟨rfl, rfl⟩ := hrel
     gi_wp2_with fail
     exact hfin.out
end Go.Proofs.YtnpomigmeieofaaGreatDoor
namespace Go.Proofs.YtnpomigmeieofaaGreatDoor
open Go.RowKit

def Vs (k : Nat) (v : Nat → Value) (S : Nat → Bool) (f : Nat → Value) : Prop := ∀ i, i < k → S i = true → f i = v i
theorem Vs.put {k i : Nat} {v : Nat → Value} {S : Nat → Bool} {f : Nat → Value} (h : Vs k v S f) : Vs k v (upd S i) (fun j => if j = i then v i else f j) := by
 intro j hj hs
 by_cases e : j = i
 ·simp [e]
 ·simp only [upd, if_neg e] at hs
  simp only [if_neg e]; exact h j hj hs
theorem Vs.past {k i : Nat} {v : Nat → Value} {S : Nat → Bool} {f : Nat → Value} {u : Value} (h : Vs k v S f) (hi : k ≤ i) : Vs k v (upd S i) (fun j => if j = i then u else f j) := by
 intro j hj hs
 have e : j ≠ i := by omega
 simp only [upd, if_neg e] at hs
 simp only [if_neg e]; exact h j hj hs
theorem upd_ne {S : Nat → Bool} {i j : Nat} (h : j ≠ i) : upd S i j = S j := by simp [upd, h]
def s6R (w1 : World) (v : Nat → Value) (s : Nat) (S : Nat → Bool) (f : Nat → Value) (W : World) : Prop :=
 Below w1.heap.size w1 W ∧ Vs 7 v S f ∧ (S 7 = true → ∃ g, f 7 = .pointer (some ⟨g, 0, none⟩) ∧ w1.heap.size ≤ g ∧ TabW g W) ∧
 (S 8 = true → ∃ q, f 8 = .pointer (some ⟨q, 0, none⟩) ∧ w1.heap.size ≤ q ∧ HasO W q (.cells #[.int .i64 (if S 10 then (s : Int) else 0)] 3 (0, 0))) ∧
 (S 9 = true → ∃ q, f 9 = .pointer (some ⟨q, 0, none⟩) ∧ w1.heap.size ≤ q ∧ ∃ x, HasO W q (.cells #[x] 77 (0, 0)) ∧ (S 11 = true → x = f 7)) ∧
 (S 10 = true → S 8 = true) ∧ (S 11 = true → S 7 = true ∧ S 9 = true)
section
variable {w1 W : World} {v : Nat → Value} {s : Nat} {S : Nat → Bool} {f : Nat → Value}
theorem s6_congr (S S' : Nat → Bool) (f : Nat → Value) (W : World) (hS : ∀ i, i < 12 → S i = S' i) (h : s6R w1 v s S f W) : s6R w1 v s S' f W := by
 obtain ⟨h0, h1, h⟩ := h
 rw [hS 7 (by omega), hS 8 (by omega), hS 9 (by omega), hS 10 (by omega), hS 11 (by omega)] at h
 exact ⟨h0, fun i hi hs => h1 i hi (by rw [hS i (by omega)]; exact hs), h⟩
theorem s6_init (f : Nat → Value) : s6R w1 v s (fun _ => false) f w1.drew :=
 ⟨(Below.refl _ _).drew, fun i _ h => (by cases h), fun h => (by cases h), fun h => (by cases h), fun h => (by cases h), fun h => (by cases h), fun h => (by cases h)⟩
theorem s6_val (h : s6R w1 v s S f W) {i : Nat} (hi : i < 7) : s6R w1 v s (upd S i) (fun j => if j = i then v i else f j) W := by
 obtain ⟨hC, h0, h7, h8, h9, h10, h11⟩ := h
 have n7 : (7 : Nat) ≠ i := by omega
 have n8 : (8 : Nat) ≠ i := by omega
 have n9 : (9 : Nat) ≠ i := by omega
 have n10 : (10 : Nat) ≠ i := by omega
 have n11 : (11 : Nat) ≠ i := by omega
 refine ⟨hC, h0.put, ?_, ?_, ?_, ?_, ?_⟩
 ·rw [upd_ne n7]; simpa [n7] using h7
 ·rw [upd_ne n8, upd_ne n10]; simpa [n8] using h8
 ·rw [upd_ne n9, upd_ne n11]; simpa [n9, n7] using h9
 ·rw [upd_ne n10, upd_ne n8]; exact h10
 ·rw [upd_ne n11, upd_ne n7, upd_ne n9]; exact h11
theorem s6_7 (h : s6R w1 v s S f W) (hS : S 7 = false) {W' : World} {g : Nat} (hb : Below W.heap.size W W') (hg : w1.heap.size ≤ g) (ht : TabW g W') :
  s6R w1 v s (upd S 7) (fun j => if j = 7 then .pointer (some ⟨g, 0, none⟩) else f j) W' := by
 obtain ⟨hC, h0, h7, h8, h9, h10, h11⟩ := h
 have hS11 : S 11 = false := by
  rcases h : S 11 with _ | _
  ·rfl
  ·rw [(h11 h).1] at hS; cases hS
 refine ⟨below_call hC hC.size hb, h0.past (Nat.le_refl _), fun _ => ⟨g, by simp, hg, ht⟩, ?_, ?_, by simpa [upd] using h10, by simp [upd, hS11]⟩
 ·intro hs
  obtain ⟨q, e, hq, ho⟩ := h8 (by simpa [upd] using hs)
  exact ⟨q, by simpa using e, hq, by simpa [upd] using ho.call hb⟩
 ·intro hs
  obtain ⟨q, e, hq, x, ho, _⟩ := h9 (by simpa [upd] using hs)
  exact ⟨q, by simpa using e, hq, x, ho.call hb, by simp [upd, hS11]⟩
theorem s6_8 (h : s6R w1 v s S f W) (hS : S 8 = false) : s6R w1 v s (upd S 8) (fun j => if j = 8 then .pointer (some ⟨W.heap.size, 0, none⟩) else f j) (W.alloc (.cells #[.int .i64 0] 3)) := by
 obtain ⟨hC, h0, h7, h8, h9, h10, h11⟩ := h
 have hS10 : S 10 = false := by
  rcases h : S 10 with _ | _
  ·rfl
  ·rw [h10 h] at hS; cases hS
 have hb := below_box W (.cells #[.int .i64 0] 3)
 refine ⟨below_call hC hC.size hb, h0.past (by omega), ?_, fun _ => ⟨W.heap.size, by simp, hC.size, by simp [upd, hS10]; exact HasO.new _ _⟩, ?_, by simp [upd, hS10], by simpa [upd] using h11⟩
 ·intro hs
  obtain ⟨g, e, hg, ht⟩ := h7 (by simpa [upd] using hs)
  exact ⟨g, by simpa using e, hg, ht.call hb⟩
 ·intro hs
  obtain ⟨q, e, hq, x, ho, hx⟩ := h9 (by simpa [upd] using hs)
  exact ⟨q, by simpa using e, hq, x, ho.call hb, by simpa [upd] using hx⟩
theorem s6_9 (h : s6R w1 v s S f W) (hS : S 9 = false) : s6R w1 v s (upd S 9) (fun j => if j = 9 then .pointer (some ⟨W.heap.size, 0, none⟩) else f j) (W.alloc (.cells #[.pointer none] 77)) := by
 obtain ⟨hC, h0, h7, h8, h9, h10, h11⟩ := h
 have hS11 : S 11 = false := by
  rcases h : S 11 with _ | _
  ·rfl
  ·rw [(h11 h).2] at hS; cases hS
 have hb := below_box W (.cells #[.pointer none] 77)
 refine ⟨below_call hC hC.size hb, h0.past (by omega), ?_, ?_, fun _ => ⟨W.heap.size, by simp, hC.size, _, HasO.new _ _, by simp [upd, hS11]⟩, by simpa [upd] using h10, by simp [upd, hS11]⟩
 ·intro hs
  obtain ⟨g, e, hg, ht⟩ := h7 (by simpa [upd] using hs)
  exact ⟨g, by simpa using e, hg, ht.call hb⟩
 ·intro hs
  obtain ⟨q, e, hq, ho⟩ := h8 (by simpa [upd] using hs)
  exact ⟨q, by simpa using e, hq, by simpa [upd] using ho.call hb⟩
theorem s6_10 (h : s6R w1 v s S f W) (hS8 : S 8 = true) {q : Nat} (e8 : f 8 = .pointer (some ⟨q, 0, none⟩)) :
  s6R w1 v s (upd S 10) (fun j => if j = 10 then undef else f j) (W.setCell ⟨q, 0, none⟩ (.int .i64 (s : Nat))) := by
 obtain ⟨hC, h0, h7, h8, h9, h10, h11⟩ := h
 obtain ⟨q', e', hq, ho⟩ := h8 hS8
 rw [e8] at e'
 injection e' with e'; injection e' with e'; injection e' with e'
 subst e'
 have hA : Alt q (q + 1) W (W.setCell ⟨q, 0, none⟩ (.int .i64 (s : Nat))) := Alt.setCell ⟨Nat.le_refl _, Nat.lt_succ_self _⟩
 refine ⟨hC.setCell (p := ⟨q, 0, none⟩) hq _, h0.past (by omega), ?_, ?_, ?_, fun _ => by simpa [upd] using hS8, by simpa [upd] using h11⟩
 ·intro hs
  obtain ⟨g, e, hg, ht⟩ := h7 (by simpa [upd] using hs)
  have hne := ht.ne ho
  exact ⟨g, by simpa using e, hg, ht.alt hA (by omega)⟩
 ·intro _
  refine ⟨q, by simpa using e8, hq, ?_⟩
  have := ho.set_ 0 (.int .i64 (s : Nat))
  simpa [upd] using this
 ·intro hs
  obtain ⟨q9, e, hq9, x, ho9, hx⟩ := h9 (by simpa [upd] using hs)
  have hne : q9 ≠ q := by
   rintro rfl
   unfold HasO at ho ho9
   rw [ho] at ho9; injection ho9 with ho9; injection ho9 with _ ho9; cases ho9
  exact ⟨q9, by simpa using e, hq9, x, hA.hasO ho9 (by omega), by simpa [upd] using hx⟩
theorem s6_11 (h : s6R w1 v s S f W) (hS7 : S 7 = true) (hS9 : S 9 = true) {q : Nat} (e9 : f 9 = .pointer (some ⟨q, 0, none⟩)) :
  s6R w1 v s (upd S 11) (fun j => if j = 11 then undef else f j) (W.setCell ⟨q, 0, none⟩ (f 7)) := by
 obtain ⟨hC, h0, h7, h8, h9, h10, h11⟩ := h
 obtain ⟨g, e7, hg, ht⟩ := h7 hS7
 obtain ⟨q', e', hq, x, ho, _⟩ := h9 hS9
 rw [e9] at e'
 injection e' with e'; injection e' with e'; injection e' with e'
 subst e'
 have hne := ht.ne ho
 have hA : Alt q (q + 1) W (W.setCell ⟨q, 0, none⟩ (f 7)) := Alt.setCell ⟨Nat.le_refl _, Nat.lt_succ_self _⟩
 refine ⟨hC.setCell (p := ⟨q, 0, none⟩) hq _, h0.past (by omega), fun _ => ⟨g, by simpa using e7, hg, ht.alt hA (by omega)⟩, ?_, fun _ => ⟨q, by simpa using e9, hq, f 7, ho.set_ 0 (f 7), by simp⟩, by simpa [upd] using h10, by simp [upd, hS7, hS9]⟩
 intro hs
 obtain ⟨q8, e, hq8, ho8⟩ := h8 (by simpa [upd] using hs)
 have hne : q8 ≠ q := by
  rintro rfl
  unfold HasO at ho ho8
  rw [ho] at ho8; injection ho8 with ho8; injection ho8 with _ ho8; cases ho8
 exact ⟨q8, by simpa using e, hq8, by simpa [upd] using hA.hasO ho8 (by omega)⟩
end
def s7R (w1 : World) (v : Nat → Value) (F R : Int) (s : Nat) (S : Nat → Bool) (f : Nat → Value) (W : World) : Prop :=
 Below w1.heap.size w1 W ∧ Vs 3 v S f ∧
 (S 3 = true → ∃ g, f 3 = .slice (some ⟨g, 0, none⟩) s s ∧ w1.heap.size ≤ g ∧ HasO W g (pcs (List.replicate s 0)) ∧ (S 4 = true → f 4 = .agg (posCs F R (some ⟨g, 0, none⟩) s s false 0 (-1) 0 1).toArray)) ∧
 (S 5 = true → ∃ q old, f 5 = .pointer (some ⟨q, 0, none⟩) ∧ w1.heap.size ≤ q ∧ HasO W q (.cells old 40 (0, 0)) ∧ old.size = 8 ∧ (S 6 = true → f 4 = .agg old)) ∧
 (S 4 = true → S 3 = true) ∧ (S 6 = true → S 4 = true ∧ S 5 = true)
section
variable {w1 W : World} {v : Nat → Value} {F R : Int} {s : Nat} {S : Nat → Bool} {f : Nat → Value}
theorem s7_congr (S S' : Nat → Bool) (f : Nat → Value) (W : World) (hS : ∀ i, i < 7 → S i = S' i) (h : s7R w1 v F R s S f W) : s7R w1 v F R s S' f W := by
 obtain ⟨h0, h1, h⟩ := h
 rw [hS 3 (by omega), hS 4 (by omega), hS 5 (by omega), hS 6 (by omega)] at h
 exact ⟨h0, fun i hi hs => h1 i hi (by rw [hS i (by omega)]; exact hs), h⟩
theorem s7_init (f : Nat → Value) : s7R w1 v F R s (fun _ => false) f w1.drew :=
 ⟨(Below.refl _ _).drew, fun i _ h => (by cases h), fun h => (by cases h), fun h => (by cases h), fun h => (by cases h), fun h => (by cases h)⟩
theorem s7_val (h : s7R w1 v F R s S f W) {i : Nat} (hi : i < 3) : s7R w1 v F R s (upd S i) (fun j => if j = i then v i else f j) W := by
 obtain ⟨hC, h0, h3, h5, h4, h6⟩ := h
 have n3 : (3 : Nat) ≠ i := by omega
 have n4 : (4 : Nat) ≠ i := by omega
 have n5 : (5 : Nat) ≠ i := by omega
 have n6 : (6 : Nat) ≠ i := by omega
 refine ⟨hC, h0.put, ?_, ?_, ?_, ?_⟩
 ·rw [upd_ne n3, upd_ne n4]; simpa [n3, n4] using h3
 ·rw [upd_ne n5, upd_ne n6]; simpa [n4, n5] using h5
 ·rw [upd_ne n4, upd_ne n3]; exact h4
 ·rw [upd_ne n6, upd_ne n4, upd_ne n5]; exact h6
theorem s7_3 (h : s7R w1 v F R s S f W) (hS : S 3 = false) : s7R w1 v F R s (upd S 3) (fun j => if j = 3 then .slice (some ⟨W.heap.size, 0, none⟩) s s else f j) (W.alloc (pcs (List.replicate s 0))) := by
 obtain ⟨hC, h0, h3, h5, h4, h6⟩ := h
 have hS4 : S 4 = false := by
  rcases h : S 4 with _ | _
  ·rfl
  ·rw [h4 h] at hS; cases hS
 have hb := below_box W (pcs (List.replicate s 0))
 refine ⟨below_call hC hC.size hb, h0.past (by omega), fun _ => ⟨W.heap.size, by simp, hC.size, HasO.new _ _, by simp [upd, hS4]⟩, ?_, by simp [upd, hS4], by simpa [upd] using h6⟩
 intro hs
 obtain ⟨q, old, e, hq, ho, hz, hx⟩ := h5 (by simpa [upd] using hs)
 exact ⟨q, old, by simpa using e, hq, ho.call hb, hz, by simpa [upd] using hx⟩
theorem s7_4 (h : s7R w1 v F R s S f W) (hS : S 4 = false) (hS3 : S 3 = true) {g : Nat} (e3 : f 3 = .slice (some ⟨g, 0, none⟩) s s) :
  s7R w1 v F R s (upd S 4) (fun j => if j = 4 then .agg (posCs F R (some ⟨g, 0, none⟩) s s false 0 (-1) 0 1).toArray else f j) W := by
 obtain ⟨hC, h0, h3, h5, h4, h6⟩ := h
 have hS6 : S 6 = false := by
  rcases h : S 6 with _ | _
  ·rfl
  ·rw [(h6 h).1] at hS; cases hS
 refine ⟨hC, h0.past (by omega), ?_, ?_, fun _ => by simpa [upd] using hS3, by simp [upd, hS6]⟩
 ·intro _
  obtain ⟨g', e, hg, ho, _⟩ := h3 hS3
  rw [e3] at e
  injection e with e; injection e with e; injection e with e
  subst e
  exact ⟨g, by simpa using e3, hg, ho, fun _ => by simp⟩
 ·intro hs
  obtain ⟨q, old, e, hq, ho, hz, hx⟩ := h5 (by simpa [upd] using hs)
  exact ⟨q, old, by simpa using e, hq, ho, hz, by simp [upd, hS6]⟩
theorem s7_5 (h : s7R w1 v F R s S f W) (hS : S 5 = false) : s7R w1 v F R s (upd S 5) (fun j => if j = 5 then .pointer (some ⟨W.heap.size, 0, none⟩) else f j) (W.alloc (.cells (posCs 0 0 none 0 0 false 0 0 0 0).toArray 40)) := by
 obtain ⟨hC, h0, h3, h5, h4, h6⟩ := h
 have hS6 : S 6 = false := by
  rcases h : S 6 with _ | _
  ·rfl
  ·rw [(h6 h).2] at hS; cases hS
 have hb := below_box W (.cells (posCs 0 0 none 0 0 false 0 0 0 0).toArray 40)
 refine ⟨below_call hC hC.size hb, h0.past (by omega), ?_, fun _ => ⟨W.heap.size, _, by simp, hC.size, HasO.new _ _, by rfl, by simp [upd, hS6]⟩, by simpa [upd] using h4, by simp [upd, hS6]⟩
 intro hs
 obtain ⟨g, e, hg, ho, hx⟩ := h3 (by simpa [upd] using hs)
 exact ⟨g, by simpa using e, hg, ho.call hb, by simpa [upd] using hx⟩
theorem s7_6 (h : s7R w1 v F R s S f W) (hS4 : S 4 = true) (hS5 : S 5 = true) {q : Nat} {cells : Array Value} (e5 : f 5 = .pointer (some ⟨q, 0, none⟩)) (e4 : f 4 = .agg cells) (hz : cells.size = 8) :
  s7R w1 v F R s (upd S 6) (fun j => if j = 6 then undef else f j) (W.setRow q cells) := by
 obtain ⟨hC, h0, h3, h5, h4, h6⟩ := h
 obtain ⟨q', old, e', hq, ho, hz', _⟩ := h5 hS5
 rw [e5] at e'
 injection e' with e'; injection e' with e'; injection e' with e'
 subst e'
 have hA := setRow_alt W q cells
 refine ⟨hA.below hC hq hC.size, h0.past (by omega), ?_, fun _ => ⟨q, cells, by simpa using e5, hq, setRow_hasO ho, hz, fun _ => by simpa using e4⟩, by simpa [upd] using h4, by simp [upd, hS4, hS5]⟩
 intro hs
 obtain ⟨g, e, hg, hog, hx⟩ := h3 (by simpa [upd] using hs)
 have hne : g ≠ q := by
  rintro rfl
  unfold HasO at ho hog
  rw [hog] at ho; injection ho with ho; injection ho with _ ho; cases ho
 exact ⟨g, by simpa using e, hg, hA.hasO hog (by omega), by simpa [upd] using hx⟩
end
def splF (sep : UInt8) (acc : List (List UInt8)) (c : UInt8) : List (List UInt8) := if c = sep then acc ++ [[]] else acc.dropLast ++ [acc.getLastD [] ++ [c]]
def splT (sep : UInt8) (s : List UInt8) : Nat → List (List UInt8)
 | 0 => [[]]
 | k + 1 => splF sep (splT sep s k) (s[k]?.getD 0)
theorem splT_len (sep : UInt8) (s : List UInt8) : ∀ k, 1 ≤ (splT sep s k).length ∧ (splT sep s k).length ≤ k + 1 := by
 intro k
 induction k with
 | zero => simp [splT]
 | succ k ih =>
  simp only [splT, splF]
  split
  ·simp; omega
  ·simp; omega
theorem splT_word (sep : UInt8) (s : List UInt8) : ∀ k, ∀ l ∈ splT sep s k, l.length ≤ k := by
 intro k
 induction k with
 | zero => intro l hl; simp [splT] at hl; simp [hl]
 | succ k ih =>
  intro l hl
  simp only [splT, splF] at hl
  split at hl
  ·rcases List.mem_append.1 hl with h | h
   ·exact Nat.le_succ_of_le (ih l h)
   ·simp at h; simp [h]
  ·rcases List.mem_append.1 hl with h | h
   ·exact Nat.le_succ_of_le (ih l (List.dropLast_subset _ h))
   ·simp only [List.mem_singleton] at h
    rw [h, List.length_append, List.length_singleton]
    have hne : splT sep s k ≠ [] := fun h0 => by have := (splT_len sep s k).1; rw [h0] at this; simp at this
    have hm := ih ((splT sep s k).getLast hne) (List.getLast_mem hne)
    rw [List.getLastD_eq_getLast?, List.getLast?_eq_some_getLast hne]
    simp only [Option.getD_some]
    omega
def spl (sep : UInt8) (s : List UInt8) : List (List UInt8) := splT sep s s.length

def ltrS : List UInt8 := [112, 110, 98, 114, 113, 107, 97, 99, 100, 101, 102, 103, 104, 105, 106]
def ltrL : List UInt8 := [80, 78, 66, 82, 81, 75, 65, 67, 68, 69, 70, 71, 72, 73, 74]
def ltrOf (p : Int) : UInt8 := if p < 0 then ltrS[(-p - 1).toNat]?.getD 0 else ltrL[(p - 1).toNat]?.getD 0
def ltrP (c : UInt8) : Nat → Int
 | 0 => 0
 | k + 1 => if (15 - (k : Int)) ≠ 0 ∧ ltrOf (15 - (k : Int)) = c then 15 - (k : Int) else ltrP c k
def rowF (acc : Option (List Int × Bool)) (c : UInt8) : Option (List Int × Bool) :=
 match acc with
 | none => none
 | some (l, d) => if 49 ≤ c.toNat ∧ c.toNat ≤ 56 then (if d then none else some (l ++ List.replicate (c.toNat - 48) 0, true)) else (if ltrP c 31 = 0 then none else some (l ++ [ltrP c 31], false))
def rowT (s : List UInt8) : Nat → Option (List Int × Bool)
 | 0 => some ([], false)
 | k + 1 => rowF (rowT s k) (s[k]?.getD 0)
end Go.Proofs.YtnpomigmeieofaaGreatDoor
