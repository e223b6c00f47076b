import Derived.Test.YtnpomigmeieofaaGreatDoorI30
namespace Go.Proofs.YtnpomigmeieofaaGreatDoor
open Go.RowKit

theorem bin_lssE {x y : Int} {d : Bool} {W : World} (h : decide (x < y) = d) : (binOp .lss 3 (.int .i64 x) (.int .i64 y)).run Tryz.prog W = .ok (.bool d) W := by rw [bin_lss, h]
theorem index57 (W : World) (g N cap k : Nat) (hk : k < N) : (Instr.indexAt 57 (.slice (some ⟨g, 0, none⟩) N cap) (.int .i64 k)).run Tryz.prog W = .ok (.pointer (some ⟨g, k * 12, none⟩)) W := by
 simp [Instr.indexAt, go_sem, run_underlying Tryz.underlying57, hk]
theorem own_at {W : World} {base g n cap : Nat} {L : List Men} (h : W.ownsRow base 26 12 (.slice (some ⟨g, 0, none⟩) n cap) n (mensV L)) {j : Nat} (hj : j < n) {i : Nat} {v : Value} (hv : (L[j]?.getD zeroMen).cs[i]? = some v) : W.cell? ⟨g, j * 12 + i, none⟩ = some v := by
 have hn : n = L.length := by have := h.1; rw [mensV_len] at this; omega
 have hi : i < 12 := (List.getElem?_eq_some_iff.1 hv).1
 rw [h.cellAt _ (by omega)]
 exact mensV_get L j i v (by omega) hv
theorem setRow_grown (W : World) (g : Nat) (cs : Array Value) : W.grownBy (W.setRow g cs) (some g) := by
 have h := setRow_alt W g cs
 exact ⟨h.os, h.tape, h.output, h.size, fun k hk hne => h.block k hk (by have : k ≠ g := fun e => hne (by rw [e]); omega)⟩
def swR (w5 : World) (base g n cap : Nat) (M : List Men) (j : Nat) (x y : Men) (vv : Nat → Value) (S : Nat → Bool) (f : Nat → Value) (W : World) : Prop :=
 (∀ i, i < 18 → S i = true → f i = vv i) ∧ (S 15 = false → W.ownsRow base 26 12 (.slice (some ⟨g, 0, none⟩) n cap) n (mensV M)) ∧
 (S 15 = true → S 17 = false → W.ownsRow base 26 12 (.slice (some ⟨g, 0, none⟩) n cap) n (mensV (M.set (j + 1) y))) ∧
 (S 17 = true → S 15 = true ∧ W.ownsRow base 26 12 (.slice (some ⟨g, 0, none⟩) n cap) n (mensV ((M.set (j + 1) y).set j x))) ∧ w5.grownBy W (some g)
section
variable {w5 : World} {base g n cap : Nat} {M : List Men} {j : Nat} {x y : Men} {vv : Nat → Value} {S : Nat → Bool} {f : Nat → Value} {W : World}
theorem swR_congr {S' : Nat → Bool} (h : ∀ i, i < 18 → S i = S' i) (hR : swR w5 base g n cap M j x y vv S f W) : swR w5 base g n cap M j x y vv S' f W := by
 obtain ⟨a, b, c, d, e⟩ := hR
 rw [h 15 (by decide)] at b c d
 rw [h 17 (by decide)] at c d
 exact ⟨fun i hi hs => a i hi (by rw [h i hi]; exact hs), b, c, d, e⟩
theorem swR_val (hR : swR w5 base g n cap M j x y vv S f W) (i : Nat) (h1 : i ≠ 15) (h2 : i ≠ 17) : swR w5 base g n cap M j x y vv (upd S i) (fun k => if k = i then vv i else f k) W := by
 obtain ⟨a, b, c, d, e⟩ := hR
 have u15 : upd S i 15 = S 15 := by simp only [upd, if_neg (Ne.symm h1)]
 have u17 : upd S i 17 = S 17 := by simp only [upd, if_neg (Ne.symm h2)]
 refine ⟨fun k hk hs => ?_, by rw [u15]; exact b, by rw [u15, u17]; exact c, by rw [u15, u17]; exact d, e⟩
 show (if k = i then vv i else f k) = vv k
 by_cases hki : k = i
 ·rw [if_pos hki, hki]
 ·rw [if_neg hki]; exact a k hk (by simpa [upd, hki] using hs)
theorem swR_st1 (hR : swR w5 base g n cap M j x y (fun i => vv i) S f W) (h : S 15 = false) (hv : vv 15 = undef) {W' : World} (ho : W'.ownsRow base 26 12 (.slice (some ⟨g, 0, none⟩) n cap) n (mensV (M.set (j + 1) y))) (hg : W.grownBy W' (some g)) :
  swR w5 base g n cap M j x y (fun i => vv i) (upd S 15) (fun k => if k = 15 then undef else f k) W' := by
 obtain ⟨a, b, c, d, e⟩ := hR
 have u17 : upd S 15 17 = S 17 := by simp [upd]
 refine ⟨fun k hk hs => ?_, (fun h => by simp [upd] at h), fun _ _ => ho, fun h2 => ?_, e.trans hg⟩
 ·show (if k = 15 then undef else f k) = vv k
  by_cases hki : k = 15
  ·rw [if_pos hki, hki]; exact hv.symm
  ·rw [if_neg hki]; exact a k hk (by simpa [upd, hki] using hs)
 ·rw [u17] at h2
  rw [(d h2).1] at h; cases h
theorem swR_st2 (hR : swR w5 base g n cap M j x y (fun i => vv i) S f W) (h : S 15 = true) (hv : vv 17 = undef) {W' : World} (ho : W'.ownsRow base 26 12 (.slice (some ⟨g, 0, none⟩) n cap) n (mensV ((M.set (j + 1) y).set j x))) (hg : W.grownBy W' (some g)) :
  swR w5 base g n cap M j x y (fun i => vv i) (upd S 17) (fun k => if k = 17 then undef else f k) W' := by
 obtain ⟨a, b, c, d, e⟩ := hR
 have u15 : upd S 17 15 = S 15 := by simp [upd]
 refine ⟨fun k hk hs => ?_, fun h2 => ?_, (fun _ h => by simp [upd] at h), fun h2 => ⟨by rw [u15]; exact h, ho⟩, e.trans hg⟩
 ·show (if k = 17 then undef else f k) = vv k
  by_cases hki : k = 17
  ·rw [if_pos hki, hki]; exact hv.symm
  ·rw [if_neg hki]; exact a k hk (by simpa [upd, hki] using hs)
 ·rw [u15, h] at h2; cases h2
end
theorem edge_lt {ops : Array Oper} (hb : edgesBack .any ops = true) {i : Nat} {o : Oper} (ho : ops[i]? = some o) : ∀ e ∈ o.after, Region.binds .any e = true → e.on < i := by
 intro e he hbd
 have hi : i < ops.size := (Array.getElem?_eq_some_iff.1 ho).1
 unfold edgesBack at hb
 rw [List.all_eq_true] at hb
 have h := hb i (List.mem_range.2 hi)
 rw [ho] at h
 simp only [Option.map_some, Option.getD_some, Array.all_eq_true', Bool.or_eq_true, Bool.not_eq_true', decide_eq_true_eq] at h
 rcases h e he with h | h
 ·rw [hbd] at h; cases h
 ·exact h
def ltc (cf : Men → Men → Int) (x y : Men) : Bool := decide (cf x y < 0)
set_option maxRecDepth 100000 in
set_option maxHeartbeats 6400000 in
theorem insSort_any (fn : Nat) (cf : Men → Men → Int) (V : Men → Prop) (hcf : ∀ args w, (callFunc fn args).run Tryz.prog w = .ok (.enter fn args) w)
  (hcmp : ∀ x y, V x → V y → ∀ W, Calls Tryz.prog fn #[.agg x.cs.toArray, .agg y.cs.toArray] W fun e w' => e = .returned (.int .i64 (cf x y)) ∧ Below W.heap.size W w')
  (base g n cap : Nat) (L : List Men) (hn : n = L.length) (hn2 : n ≤ 900) (hV : ∀ x ∈ L, V x) (w : World) (hown : w.ownsRow base 26 12 (.slice (some ⟨g, 0, none⟩) n cap) n (mensV L)) :
  Calls Tryz.prog 154 #[.slice (some ⟨g, 0, none⟩) n cap, .int .i64 0, .int .i64 n, .func (.func fn) #[] #[]] w fun e w' => e = .returned (.tuple #[]) ∧ w'.ownsRow base 26 12 (.slice (some ⟨g, 0, none⟩) n cap) n (mensV (insS (ltc cf) L (n - 1))) ∧ w.grownBy w' (some g) := by
 replace hn := Lib.hid hn
 go_enter Tryz.func154, Tryz.ntmps154
 go_wp2_with fail
 go_loopg [8] 1001 (fun q iv wr => ∃ k : Nat, ∃ wz, wz = wr ∧ q + k = 1001 ∧ k ≤ n - 1 ∧ iv = .int .i64 ((k + 1 : Nat) : Int) ∧ wr.ownsRow base 26 12 (.slice (some ⟨g, 0, none⟩) n cap) n (mensV (insS (ltc cf) L k)) ∧ (∀ x ∈ insS (ltc cf) L k, V x) ∧ w.grownBy wr (some g))
 case atStart => exact ⟨0, _, rfl, rfl, Nat.zero_le _, rfl, hown, hV, ⟨rfl, rfl, rfl, Nat.le_refl _, fun _ _ _ => rfl⟩⟩
 case round =>
  clear hown hV
  obtain ⟨k, w2, rfl, hq, hk, rfl, hown, hV, hg2⟩ := hrel
  by_cases hlt : k + 1 < n
  ·obtain ⟨i, hi'⟩ : ∃ i, i = k + 1 := ⟨_, rfl⟩
   rw [← hi']
   have hii : (i : Int) < n := by omega
   have hin : i < n := by omega
   obtain ⟨T, hT⟩ : ∃ T, T = insS (ltc cf) L (k + 1) := ⟨_, rfl⟩
   obtain ⟨M0, hM0⟩ : ∃ M0, M0 = insS (ltc cf) L k := ⟨_, rfl⟩
   have hM0n : M0.length = n := by rw [hM0, insS_len, hn.out]
   have hins : insD (ltc cf) M0 (k + 1) = T := by rw [hT, hM0]; rfl
   rw [← hM0] at hown hV
   rw [← hi'] at hins
   have hT2 : T = insS (ltc cf) L i := by rw [hT, hi']
   have hik : k + 1 ≤ n - 1 := by omega
   replace hT := Lib.hid hT
   replace hT2 := Lib.hid hT2
   replace hM0 := Lib.hid hM0
   replace hi' := Lib.hid hi'
   go_wp2_with fail
   obtain ⟨g1, hg1⟩ : ∃ x, x = gk := ⟨_, rfl⟩
   subst hg1
   go_loopg [9] 1001 (fun q jv wr => ∃ (j : Nat) (M : List Men), ∃ wz, wz = wr ∧ q + i = 1001 + j ∧ j ≤ i ∧ jv = .int .i64 (j : Nat) ∧ M.length = n ∧ Hid (insD (ltc cf) M j = T) ∧ wr.ownsRow base 26 12 (.slice (some ⟨g, 0, none⟩) n cap) n (mensV M) ∧ (∀ x ∈ M, V x) ∧ w.grownBy wr (some g))
   case atStart => exact ⟨i, M0, _, rfl, by omega, Nat.le_refl _, rfl, hM0n, Lib.hid hins, hown, hV, hg2⟩
   case round =>
    clear hown hV hg2 hins hM0n
    obtain ⟨j, M, w4, rfl, hqj, hj, rfl, hMn, hins, hown, hV, hg4⟩ := hrel
    rcases j with _ | j
    ·go_wp2_with fail
     have hins : M = T := hins.out
     refine wp_region_valsL (by kernel_rfl) (by kernel_rfl) [some 18, some 19, some 20, some 21, some 22, some 23, some 24, some 25, some 26, some 27, some 28, some 29, some 30, some 31, some 32, some 33, some 34] (by rfl) (by rfl) (fun i8 => match i8 with | 0 => .int .i64 0 | 1 => .int .i64 0 | 2 => .bool false | 3 => .bool false | 16 => .bool false | _ => undef) (fun W => Below w4.heap.size w4 W) ((Below.refl _ _).drew) ?hstep ?hend
     case hstep =>
      intro i9 o9 f9 W ho hi hC hf K hK
      have hi : i9 < 17 := hi
      rcases (by omega : i9 = 0 ∨ i9 = 1 ∨ i9 = 2 ∨ i9 = 3 ∨ i9 = 4 ∨ i9 = 5 ∨ i9 = 6 ∨ i9 = 7 ∨ i9 = 8 ∨ i9 = 9 ∨ i9 = 10 ∨ i9 = 11 ∨ i9 = 12 ∨ i9 = 13 ∨ i9 = 14 ∨ i9 = 15 ∨ i9 = 16) with rfl | rfl | rfl | rfl | rfl | rfl | rfl | rfl | rfl | rfl | rfl | rfl | rfl | rfl | rfl | rfl | rfl
      ·exact st_move (og ho rfl) (.tmp 9) (oo ho rfl) (rd_out rfl rfl) (hK _ hC)
      ·exact st_move (og ho rfl) (.tmp 1) (oo ho rfl) (rd_out rfl rfl) (hK _ hC)
      ·exact st_bin (og ho rfl) .gtr 3 3 (.tmp 18) (.tmp 19) (oo ho rfl) (ri 0 (hf ⟨0, .data⟩ (oa ho rfl) rfl)) (ri 1 (hf ⟨1, .data⟩ (oa ho rfl) rfl)) (gu_i _ _ _ _ _ _ _ _) (bin_gtrE rfl) (hK _ hC)
      ·exact st_move (og ho rfl) (.tmp 20) (oo ho rfl) (ri 2 (hf ⟨2, .data⟩ (oa ho rfl) rfl)) (hK _ hC)
      iterate 12 exact skip_gd (uw ho (hf ⟨3, .guard⟩ (oa ho rfl) rfl)) (hK _ hC)
      ·exact st_pickF (og ho rfl) (.tmp 21) (.tmp 33) (.const (.bool false)) (oo ho rfl) (ri 3 (hf ⟨3, .data⟩ (oa ho rfl) rfl)) rfl (hK _ hC)
     case hend =>
      intro W hC
      simp only [putL, Act.put, List.setIfInBounds_toArray, List.set_cons_succ, List.set_cons_zero]
      have hown5 := own_call hown hC
      have hg5 := hg4.trans (⟨hC.os, hC.tape, hC.output, hC.size, fun k hk _ => hC.block k hk⟩ : w4.grownBy W (some g))
      rw [hins] at hown5 hV
      rw [hT.out] at hown5 hV
      clear hown hg4 hC hins
      go_wp2_with fail
      go_roundg (g1 - 1)
      case measure => omega
      case rel => exact ⟨k + 1, _, rfl, by omega, hik, by have := hi'.out; go_num, hown5, hV, hg5⟩
    ·obtain ⟨x, hx⟩ : ∃ x, x = M[j + 1]?.getD zeroMen := ⟨_, rfl⟩
     obtain ⟨y, hy⟩ : ∃ y, y = M[j]?.getD zeroMen := ⟨_, rfl⟩
     have hVx : V x := by rw [hx, List.getElem?_eq_getElem (by omega)]; exact hV _ (List.getElem_mem _)
     have hVy : V y := by rw [hy, List.getElem?_eq_getElem (by omega)]; exact hV _ (List.getElem_mem _)
     have hgl := (hown.lt g rfl).2
     have hcx : ∀ i v, x.cs[i]? = some v → w4.cell? ⟨g, (j + 1) * 12 + i, none⟩ = some v := fun i v hv => own_at hown (by omega) (by rw [← hx]; exact hv)
     have hcy : ∀ i v, y.cs[i]? = some v → w4.cell? ⟨g, j * 12 + i, none⟩ = some v := fun i v hv => own_at hown (by omega) (by rw [← hy]; exact hv)
     have hj1 : IntKind.i64.wrap (((j + 1 : Nat) : Int) - 1) = (j : Nat) := by rw [IntWalk.i64_in _ (by omega)]; omega
     have hnx : insD (ltc cf) M (j + 1) = if ltc cf x y then insD (ltc cf) ((M.set (j + 1) y).set j x) j else M := by rw [hx, hy]; rfl
     have hVs : ∀ z ∈ (M.set (j + 1) y).set j x, V z := by rw [hx, hy]; exact swap_mem hV (by omega)
     obtain ⟨d, hd⟩ : ∃ d, decide (cf x y < 0) = d := ⟨_, rfl⟩
     have hnd : ltc cf x y = d := hd
     rw [hnd] at hnx
     replace hx := Lib.hid hx
     replace hy := Lib.hid hy
     replace hnx := Lib.hid hnx
     go_wp2_with fail
     refine wp_region_valsL (by kernel_rfl) (by kernel_rfl) [some 18, some 19, some 20, some 21, some 22, some 23, some 24, some 25, some 26, some 27, some 28, some 29, some 30, some 31, some 32, some 33, some 34] (by rfl) (by rfl) (fun i8 => match i8 with | 0 => .int .i64 ((j + 1 : Nat) : Int) | 1 => .int .i64 0 | 2 => .bool true | 3 => .bool true | 4 => .func (.func fn) #[] #[] | 5 => .slice (some ⟨g, 0, none⟩) n cap | 6 => .int .i64 ((j + 1 : Nat) : Int) | 7 => .pointer (some ⟨g, (j + 1) * 12, none⟩) | 8 => .agg x.cs.toArray | 9 => .slice (some ⟨g, 0, none⟩) n cap | 10 => .int .i64 ((j + 1 : Nat) : Int) | 11 => .int .i64 (j : Nat) | 12 => .pointer (some ⟨g, j * 12, none⟩) | 13 => .agg y.cs.toArray | 14 => .int .i64 (cf x y) | 15 => .bool d | 16 => .bool d | _ => undef) (fun W => Below w4.heap.size w4 W) ((Below.refl _ _).drew) ?hstep ?hend
     case hstep =>
      intro i9 o9 f9 W ho hi hC hf K hK
      have hi : i9 < 17 := hi
      rcases (by omega : i9 = 0 ∨ i9 = 1 ∨ i9 = 2 ∨ i9 = 3 ∨ i9 = 4 ∨ i9 = 5 ∨ i9 = 6 ∨ i9 = 7 ∨ i9 = 8 ∨ i9 = 9 ∨ i9 = 10 ∨ i9 = 11 ∨ i9 = 12 ∨ i9 = 13 ∨ i9 = 14 ∨ i9 = 15 ∨ i9 = 16) with rfl | rfl | rfl | rfl | rfl | rfl | rfl | rfl | rfl | rfl | rfl | rfl | rfl | rfl | rfl | rfl | rfl
      ·exact st_move (og ho rfl) (.tmp 9) (oo ho rfl) (rd_out rfl rfl) (hK _ hC)
      ·exact st_move (og ho rfl) (.tmp 1) (oo ho rfl) (rd_out rfl rfl) (hK _ hC)
      ·exact st_bin (og ho rfl) .gtr 3 3 (.tmp 18) (.tmp 19) (oo ho rfl) (ri 0 (hf ⟨0, .data⟩ (oa ho rfl) rfl)) (ri 1 (hf ⟨1, .data⟩ (oa ho rfl) rfl)) (gu_i _ _ _ _ _ _ _ _) (bin_gtrE (by rw [decide_eq_true_eq]; omega)) (hK _ hC)
      ·exact st_move (og ho rfl) (.tmp 20) (oo ho rfl) (ri 2 (hf ⟨2, .data⟩ (oa ho rfl) rfl)) (hK _ hC)
      ·exact gd (wanted_of rfl 3 true 21 (og ho rfl) rfl rfl (by simp) (hf ⟨3, .guard⟩ (oa ho rfl) rfl)) (st_move rfl (.tmp 3) (oo ho rfl) (rd_out rfl rfl) (hK _ hC))
      ·exact gd (wanted_of rfl 3 true 21 (og ho rfl) rfl rfl (by simp) (hf ⟨3, .guard⟩ (oa ho rfl) rfl)) (st_move rfl (.tmp 0) (oo ho rfl) (rd_out rfl rfl) (hK _ hC))
      ·exact gd (wanted_of rfl 3 true 21 (og ho rfl) rfl rfl (by simp) (hf ⟨3, .guard⟩ (oa ho rfl) rfl)) (st_move rfl (.tmp 9) (oo ho rfl) (rd_out rfl rfl) (hK _ hC))
      ·exact gd (wanted_of rfl 3 true 21 (og ho rfl) rfl rfl (by simp) (hf ⟨3, .guard⟩ (oa ho rfl) rfl)) (st_index rfl 57 (.tmp 23) (.tmp 24) (oo ho rfl) (ri 5 (hf ⟨5, .data⟩ (oa ho rfl) rfl)) (ri 6 (hf ⟨6, .data⟩ (oa ho rfl) rfl)) (index57 W g n cap (j + 1) (by omega)) (hK _ hC))
      ·exact gd (wanted_of rfl 3 true 21 (og ho rfl) rfl rfl (by simp) (hf ⟨3, .guard⟩ (oa ho rfl) rfl)) (st_loadA rfl 26 (.tmp 25) (oo ho rfl) (ri 7 (hf ⟨7, .data⟩ (oa ho rfl) rfl)) x.cs (by kernel_rfl) (fun i v hv => (hC.cell (p := ⟨g, (j + 1) * 12 + i, none⟩) hgl).trans (hcx i v hv)) (hK _ hC))
      ·exact gd (wanted_of rfl 3 true 21 (og ho rfl) rfl rfl (by simp) (hf ⟨3, .guard⟩ (oa ho rfl) rfl)) (st_move rfl (.tmp 0) (oo ho rfl) (rd_out rfl rfl) (hK _ hC))
      ·exact gd (wanted_of rfl 3 true 21 (og ho rfl) rfl rfl (by simp) (hf ⟨3, .guard⟩ (oa ho rfl) rfl)) (st_move rfl (.tmp 9) (oo ho rfl) (rd_out rfl rfl) (hK _ hC))
      ·exact gd (wanted_of rfl 3 true 21 (og ho rfl) rfl rfl (by simp) (hf ⟨3, .guard⟩ (oa ho rfl) rfl)) (st_bin rfl .sub 3 3 (.tmp 28) (.const (.int .i64 1)) (oo ho rfl) (ri 10 (hf ⟨10, .data⟩ (oa ho rfl) rfl)) rfl (gu_i _ _ _ _ _ _ _ _) (bin_subE hj1) (hK _ hC))
      ·exact gd (wanted_of rfl 3 true 21 (og ho rfl) rfl rfl (by simp) (hf ⟨3, .guard⟩ (oa ho rfl) rfl)) (st_index rfl 57 (.tmp 27) (.tmp 29) (oo ho rfl) (ri 9 (hf ⟨9, .data⟩ (oa ho rfl) rfl)) (ri 11 (hf ⟨11, .data⟩ (oa ho rfl) rfl)) (index57 W g n cap j (by omega)) (hK _ hC))
      ·exact gd (wanted_of rfl 3 true 21 (og ho rfl) rfl rfl (by simp) (hf ⟨3, .guard⟩ (oa ho rfl) rfl)) (st_loadA rfl 26 (.tmp 30) (oo ho rfl) (ri 12 (hf ⟨12, .data⟩ (oa ho rfl) rfl)) y.cs (by kernel_rfl) (fun i v hv => (hC.cell (p := ⟨g, j * 12 + i, none⟩) hgl).trans (hcy i v hv)) (hK _ hC))
      ·exact gd (wanted_of rfl 3 true 21 (og ho rfl) rfl rfl (by simp) (hf ⟨3, .guard⟩ (oa ho rfl) rfl)) (st_callV2 rfl fn (.tmp 22) (.tmp 26) (.tmp 31) #[26, 26] (oo ho rfl) (ri 4 (hf ⟨4, .data⟩ (oa ho rfl) rfl)) (ri 8 (hf ⟨8, .data⟩ (oa ho rfl) rfl)) (ri 13 (hf ⟨13, .data⟩ (oa ho rfl) rfl)) hcf (hcmp x y hVx hVy W) (by intro u w9 h9; rw [Ending.returned.inj h9.1]; exact hK _ (below_call hC hC.size h9.2)) (by rintro ch w9 ⟨h9, _⟩; cases h9) (by rintro w9 ⟨h9, _⟩; cases h9))
      ·exact gd (wanted_of rfl 3 true 21 (og ho rfl) rfl rfl (by simp) (hf ⟨3, .guard⟩ (oa ho rfl) rfl)) (st_bin rfl .lss 3 3 (.tmp 32) (.const (.int .i64 0)) (oo ho rfl) (ri 14 (hf ⟨14, .data⟩ (oa ho rfl) rfl)) rfl (gu_i _ _ _ _ _ _ _ _) (bin_lssE hd) (hK _ hC))
      ·exact st_pickT (og ho rfl) (.tmp 21) (.tmp 33) (.const (.bool false)) (oo ho rfl) (ri 3 (hf ⟨3, .data⟩ (oa ho rfl) rfl)) (ri 15 (hf ⟨15, .data⟩ (oa ho rfl) rfl)) (hK _ hC)
     case hend =>
      intro w5 hC
      simp only [putL, Act.put, List.setIfInBounds_toArray, List.set_cons_succ, List.set_cons_zero]
      have hown5 := own_call hown hC
      have hg5 := hg4.trans (⟨hC.os, hC.tape, hC.output, hC.size, fun k hk _ => hC.block k hk⟩ : w4.grownBy w5 (some g))
      clear hown hg4 hC hcx hcy hgl hd hnd
      cases d
      ·have hins : M = T := by have h := hnx.out; rw [if_neg (by decide)] at h; rw [← h]; exact hins.out
       rw [hins] at hown5 hV
       rw [hT.out] at hown5 hV
       clear hins hVs
       go_wp2_with fail
       go_roundg (g1 - 1)
       case measure => omega
       case rel => exact ⟨k + 1, _, rfl, by omega, hik, by have := hi'.out; go_num, hown5, hV, hg5⟩
      ·have hins2 : Hid (insD (ltc cf) ((M.set (j + 1) y).set j x) j = T) := Lib.hid (by have h := hnx.out; rw [if_pos rfl] at h; rw [← h]; exact hins.out)
       clear hins hV hnx
       go_wp2_with fail
       refine wp_region_relL (by kernel_rfl) (by kernel_rfl) [some 37, some 38, some 39, some 40, some 41, some 42, some 43, some 44, some 45, some 46, some 47, some 48, some 49, some 50, some 51, none, some 52, none] (by rfl) (by rfl) (swR w5 base g n cap M j x y (fun i8 => match i8 with | 0 => .slice (some ⟨g, 0, none⟩) n cap | 1 => .int .i64 ((j + 1 : Nat) : Int) | 2 => .slice (some ⟨g, 0, none⟩) n cap | 3 => .int .i64 ((j + 1 : Nat) : Int) | 4 => .int .i64 (j : Nat) | 5 => .slice (some ⟨g, 0, none⟩) n cap | 6 => .int .i64 ((j + 1 : Nat) : Int) | 7 => .int .i64 (j : Nat) | 8 => .pointer (some ⟨g, j * 12, none⟩) | 9 => .agg y.cs.toArray | 10 => .slice (some ⟨g, 0, none⟩) n cap | 11 => .int .i64 ((j + 1 : Nat) : Int) | 12 => .pointer (some ⟨g, (j + 1) * 12, none⟩) | 13 => .agg x.cs.toArray | 14 => .pointer (some ⟨g, (j + 1) * 12, none⟩) | 16 => .pointer (some ⟨g, j * 12, none⟩) | _ => undef)) ?hcong ?h0 ?hstep ?hend
       case hcong =>
        intro S S' f W h hR
        exact swR_congr h hR
       case h0 =>
        intro f
        exact ⟨(fun _ _ h => by cases h), fun _ => hown5.drew, (fun h => by cases h), (fun h => by cases h), ⟨rfl, rfl, rfl, Nat.le_refl _, fun _ _ _ => rfl⟩⟩
       case hstep =>
        intro S i9 o9 f9 W ho hi hSj hpre hcl hR K hK
        have hi : i9 < 18 := hi
        have hf := fun e he hb => hR.1 e.on (Nat.lt_trans (edge_lt (by kernel_rfl) ho e he hb) hi) (hpre e he hb)
        have hcyW : S 15 = false → ∀ i v, y.cs[i]? = some v → W.cell? ⟨g, j * 12 + i, none⟩ = some v := fun s i v hv => own_at (hR.2.1 s) (by omega) (by rw [← hy.out]; exact hv)
        have hcxW : S 15 = false → ∀ i v, x.cs[i]? = some v → W.cell? ⟨g, (j + 1) * 12 + i, none⟩ = some v := fun s i v hv => own_at (hR.2.1 s) (by omega) (by rw [← hx.out]; exact hv)
        rcases (by omega : i9 = 0 ∨ i9 = 1 ∨ i9 = 2 ∨ i9 = 3 ∨ i9 = 4 ∨ i9 = 5 ∨ i9 = 6 ∨ i9 = 7 ∨ i9 = 8 ∨ i9 = 9 ∨ i9 = 10 ∨ i9 = 11 ∨ i9 = 12 ∨ i9 = 13 ∨ i9 = 14 ∨ i9 = 15 ∨ i9 = 16 ∨ i9 = 17) with rfl | rfl | rfl | rfl | rfl | rfl | rfl | rfl | rfl | rfl | rfl | rfl | rfl | rfl | rfl | rfl | rfl | rfl
        ·exact st_move (og ho rfl) (.tmp 0) (oo ho rfl) (rd_out rfl rfl) (hK _ _ (swR_val hR 0 (by decide) (by decide)))
        ·exact st_move (og ho rfl) (.tmp 9) (oo ho rfl) (rd_out rfl rfl) (hK _ _ (swR_val hR 1 (by decide) (by decide)))
        ·exact st_move (og ho rfl) (.tmp 0) (oo ho rfl) (rd_out rfl rfl) (hK _ _ (swR_val hR 2 (by decide) (by decide)))
        ·exact st_move (og ho rfl) (.tmp 9) (oo ho rfl) (rd_out rfl rfl) (hK _ _ (swR_val hR 3 (by decide) (by decide)))
        ·exact st_bin (og ho rfl) .sub 3 3 (.tmp 40) (.const (.int .i64 1)) (oo ho rfl) (ri 3 (hf ⟨3, .data⟩ (oa ho rfl) rfl)) rfl (gu_i _ _ _ _ _ _ _ _) (bin_subE hj1) (hK _ _ (swR_val hR 4 (by decide) (by decide)))
        ·exact st_move (og ho rfl) (.tmp 0) (oo ho rfl) (rd_out rfl rfl) (hK _ _ (swR_val hR 5 (by decide) (by decide)))
        ·exact st_move (og ho rfl) (.tmp 9) (oo ho rfl) (rd_out rfl rfl) (hK _ _ (swR_val hR 6 (by decide) (by decide)))
        ·exact st_bin (og ho rfl) .sub 3 3 (.tmp 43) (.const (.int .i64 1)) (oo ho rfl) (ri 6 (hf ⟨6, .data⟩ (oa ho rfl) rfl)) rfl (gu_i _ _ _ _ _ _ _ _) (bin_subE hj1) (hK _ _ (swR_val hR 7 (by decide) (by decide)))
        ·exact st_index (og ho rfl) 57 (.tmp 42) (.tmp 44) (oo ho rfl) (ri 5 (hf ⟨5, .data⟩ (oa ho rfl) rfl)) (ri 7 (hf ⟨7, .data⟩ (oa ho rfl) rfl)) (index57 W g n cap j (by omega)) (hK _ _ (swR_val hR 8 (by decide) (by decide)))
        ·have s15 : S 15 = false := by
          rcases h : S 15 with _ | _
          ·rfl
          ·have := hcl 15 _ h rfl ⟨9, .data⟩ (by simp) rfl
           rw [hSj] at this; cases this
         exact st_loadA (og ho rfl) 26 (.tmp 45) (oo ho rfl) (ri 8 (hf ⟨8, .data⟩ (oa ho rfl) rfl)) y.cs (by kernel_rfl) (fun i v hv => hcyW s15 i v hv) (hK _ _ (swR_val hR 9 (by decide) (by decide)))
        ·exact st_move (og ho rfl) (.tmp 0) (oo ho rfl) (rd_out rfl rfl) (hK _ _ (swR_val hR 10 (by decide) (by decide)))
        ·exact st_move (og ho rfl) (.tmp 9) (oo ho rfl) (rd_out rfl rfl) (hK _ _ (swR_val hR 11 (by decide) (by decide)))
        ·exact st_index (og ho rfl) 57 (.tmp 47) (.tmp 48) (oo ho rfl) (ri 10 (hf ⟨10, .data⟩ (oa ho rfl) rfl)) (ri 11 (hf ⟨11, .data⟩ (oa ho rfl) rfl)) (index57 W g n cap (j + 1) (by omega)) (hK _ _ (swR_val hR 12 (by decide) (by decide)))
        ·have s15 : S 15 = false := by
          rcases h : S 15 with _ | _
          ·rfl
          ·have := hcl 15 _ h rfl ⟨13, .phase⟩ (by simp) rfl
           rw [hSj] at this; cases this
         exact st_loadA (og ho rfl) 26 (.tmp 49) (oo ho rfl) (ri 12 (hf ⟨12, .data⟩ (oa ho rfl) rfl)) x.cs (by kernel_rfl) (fun i v hv => hcxW s15 i v hv) (hK _ _ (swR_val hR 13 (by decide) (by decide)))
        ·exact st_index (og ho rfl) 57 (.tmp 37) (.tmp 38) (oo ho rfl) (ri 0 (hf ⟨0, .data⟩ (oa ho rfl) rfl)) (ri 1 (hf ⟨1, .data⟩ (oa ho rfl) rfl)) (index57 W g n cap (j + 1) (by omega)) (hK _ _ (swR_val hR 14 (by decide) (by decide)))
        ·obtain ⟨cur, hq, hl, ho2⟩ := own_putM (hR.2.1 hSj) (by omega) (j := j + 1) (by omega) y
         exact st_storeAt (og ho rfl) 26 (.tmp 51) (.tmp 46) (oo ho rfl) (ri 14 (hf ⟨14, .data⟩ (oa ho rfl) rfl)) y.cs cur 26 (ri 9 (hf ⟨9, .data⟩ (oa ho rfl) rfl)) hq (by kernel_rfl) hl (men_one26 y) (hK _ _ (swR_st1 hR hSj rfl ho2 (setRow_grown _ _ _)))
        ·exact st_index (og ho rfl) 57 (.tmp 39) (.tmp 41) (oo ho rfl) (ri 2 (hf ⟨2, .data⟩ (oa ho rfl) rfl)) (ri 4 (hf ⟨4, .data⟩ (oa ho rfl) rfl)) (index57 W g n cap j (by omega)) (hK _ _ (swR_val hR 16 (by decide) (by decide)))
        ·have s15 : S 15 = true := hpre ⟨15, .phase⟩ (oa ho rfl) rfl
         obtain ⟨cur, hq, hl, ho2⟩ := own_putM (hR.2.2.1 s15 hSj) (by rw [List.length_set]; omega) (j := j) (by rw [List.length_set]; omega) x
         exact st_storeAt (og ho rfl) 26 (.tmp 52) (.tmp 50) (oo ho rfl) (ri 16 (hf ⟨16, .data⟩ (oa ho rfl) rfl)) x.cs cur 26 (ri 13 (hf ⟨13, .data⟩ (oa ho rfl) rfl)) hq (by kernel_rfl) hl (men_one26 x) (hK _ _ (swR_st2 hR s15 rfl ho2 (setRow_grown _ _ _)))
       case hend =>
        intro S f9 W hS hR
        obtain ⟨_, _, _, h17, hg6⟩ := hR
        have hown6 := (h17 (hS 17 (by decide))).2
        have hg7 := hg5.trans hg6
        simp only [putL, Act.put, List.setIfInBounds_toArray, List.set_cons_succ, List.set_cons_zero]
        clear hS h17 hg6 hg5 hown5
        generalize f9 0 = u0, f9 1 = u1, f9 2 = u2, f9 3 = u3_, f9 4 = u4, f9 5 = u5, f9 6 = u6, f9 7 = u7, f9 8 = u8, f9 9 = u9, f9 10 = u10, f9 11 = u11, f9 12 = u12, f9 13 = u13, f9 14 = u14, f9 16 = u16
        have hlen : ((M.set (j + 1) y).set j x).length = n := by simp [hMn]
        go_wp2_with fail
        go_roundg (gk - 1)
        case measure => omega
        case rel => exact ⟨j, _, _, rfl, by omega, by omega, by go_num, hlen, hins2, hown6, hVs, hg7⟩
  ·have hii : ¬ ((k + 1 : Nat) : Int) < n := by omega
   have hk1 : k = n - 1 := by omega
   rw [hk1] at hown
   clear hk1
   go_wp2_with fail
   go_end0
   exact ⟨rfl, hown, hg2⟩
end Go.Proofs.YtnpomigmeieofaaGreatDoor
namespace Go.Proofs.YtnpomigmeieofaaGreatDoor
open Go.RowKit

def CmpOk (fn : Nat) (cf : Men → Men → Int) (V : Men → Prop) : Prop :=
 (∀ args w, (callFunc fn args).run Tryz.prog w = .ok (.enter fn args) w) ∧
 ∀ x y, V x → V y → ∀ W, Calls Tryz.prog fn #[.agg x.cs.toArray, .agg y.cs.toArray] W fun e w' => e = .returned (.int .i64 (cf x y)) ∧ Below W.heap.size W w'
set_option maxRecDepth 100000 in
theorem insSort_nil (fn : Nat) (w : World) : Calls Tryz.prog 154 #[.slice none 0 0, .int .i64 0, .int .i64 0, .func (.func fn) #[] #[]] w fun e w' => e = .returned (.tuple #[]) ∧ w = w' := by
 go_enter Tryz.func154, Tryz.ntmps154
 go_wp2_with fail
 go_loopg [8] 1 (fun q iv wr => q = 1 ∧ iv = .int .i64 1 ∧ w = wr)
 case atStart => exact ⟨rfl, rfl, rfl⟩
 case round =>
  obtain ⟨_, rfl, rfl⟩ := hrel
  go_wp2_with fail
  go_end0
  exact ⟨rfl, rfl⟩
theorem insSortV_any (fn : Nat) (cf : Men → Men → Int) (V : Men → Prop) (hc : CmpOk fn cf V) (base n : Nat) (v : Value) (L : List Men) (hn : n = L.length) (hn2 : n ≤ 900) (hV : ∀ x ∈ L, V x) (w : World) (hown : w.ownsRow base 26 12 v n (mensV L)) :
  Calls Tryz.prog 154 #[v, .int .i64 0, .int .i64 n, .func (.func fn) #[] #[]] w fun e w' => e = .returned (.tuple #[]) ∧ w'.ownsRow base 26 12 v n (mensV (insS (ltc cf) L (n - 1))) ∧ w.grownBy w' v.ownBlock := by
 rcases hown.2 with ⟨rfl, rfl⟩ | ⟨g, cap, cur, rfl, _⟩
 ·refine (insSort_nil fn w).mono ?_
  rintro e w' ⟨rfl, rfl⟩
  exact ⟨rfl, hown, ⟨rfl, rfl, rfl, Nat.le_refl _, fun _ _ _ => rfl⟩⟩
 ·exact insSort_any fn cf V hc.1 hc.2 base g n cap L hn hn2 hV w hown
set_option maxRecDepth 100000 in
set_option maxHeartbeats 1600000 in
theorem pdq_any (fn : Nat) (cf : Men → Men → Int) (V : Men → Prop) (hc : CmpOk fn cf V) (base n : Nat) (v : Value) (L : List Men) (hn : n = L.length) (hn2 : n ≤ 12) (hV : ∀ x ∈ L, V x) (lim : Int) (w : World) (hown : w.ownsRow base 26 12 v n (mensV L)) :
  Calls Tryz.prog 123 #[v, .int .i64 0, .int .i64 n, .int .i64 lim, .func (.func fn) #[] #[]] w fun e w' => e = .returned (.tuple #[]) ∧ w'.ownsRow base 26 12 v n (mensV (insS (ltc cf) L (n - 1))) ∧ w.grownBy w' v.ownBlock := by
 have hins := insSortV_any fn cf V hc base n v L hn (by omega) hV w hown
 have hn3 : (n : Int) ≤ 12 := by omega
 have e1 : IntKind.i64.wrap ((n : Int) - 0) = n := IntWalk.i64_in _ (by omega)
 have e2 : IntKind.i64.wrap (n : Int) = n := IntWalk.i64_in _ (by omega)
 replace hn := Lib.hid hn
 clear hown hV hc
 go_enter Tryz.func123, Tryz.ntmps123
 go_wp2_with fail
 go_loopg [1, 2, 3, 10, 11] 1 (fun q a1 a2 a3 b1 b2 wr => q = 1 ∧ a1 = .int .i64 0 ∧ a2 = .int .i64 n ∧ w = wr)
 case atStart => exact ⟨rfl, rfl, rfl, rfl⟩
 case round =>
  obtain ⟨_, rfl, rfl, rfl⟩ := hrel
  go_wp2_with fail
  refine hins.mono ?_
  rintro e w2 ⟨rfl, h⟩
  go_wp2_with fail
  exact bodyPost_ret (results_none rfl _ _ _) rfl ⟨rfl, h⟩
set_option maxRecDepth 100000 in
set_option maxHeartbeats 1600000 in
theorem sortFunc_any (fn : Nat) (cf : Men → Men → Int) (V : Men → Prop) (hc : CmpOk fn cf V) (base n : Nat) (v : Value) (L : List Men) (hn : n = L.length) (hn2 : n ≤ 12) (hV : ∀ x ∈ L, V x) (w : World) (hown : w.ownsRow base 26 12 v n (mensV L)) :
  Calls Tryz.prog 69 #[v, .func (.func fn) #[] #[]] w fun e w' => e = .returned (.tuple #[]) ∧ w'.ownsRow base 26 12 v n (mensV (insS (ltc cf) L (n - 1))) ∧ w.grownBy w' v.ownBlock := by
 have hpd := fun lim => pdq_any fn cf V hc base n v L hn hn2 hV lim w hown
 have hbl := Tryz.bits_Len (n : Int) w (by omega) (by omega)
 obtain ⟨p, c, rfl⟩ := own_form hown
 have e2 : IntKind.u64.wrap (n : Int) = n := IntWalk.u64_in _ (by omega)
 replace hn := Lib.hid hn
 clear hown hV hc
 go_enter Tryz.func69, Tryz.ntmps69
 go_wp2_with fail
 refine hbl.mono ?_
 rintro e w2 ⟨rfl, rfl⟩
 go_wp2_with fail
 refine (hpd _).mono ?_
 rintro e w2 ⟨rfl, h⟩
 go_wp2_with fail
 go_end0
 exact ⟨rfl, h⟩
end Go.Proofs.YtnpomigmeieofaaGreatDoor
namespace Go.Proofs.YtnpomigmeieofaaGreatDoor
open Go.RowKit

def cmpT (x y : Men) : Int := Lib.compareBytes (textL x) (textL y)
set_option maxRecDepth 100000 in
set_option maxHeartbeats 1600000 in
theorem cmpText_any (x y : Men) (hx : Hid (validB x = true)) (hy : Hid (validB y = true)) (w : World) : Calls Tryz.prog 121 #[.agg x.cs.toArray, .agg y.cs.toArray] w fun e w' => e = .returned (.int .i64 (cmpT x y)) ∧ Below w.heap.size w w' := by
 have hX := (HasO.new w (.cells x.cs.toArray 26)).alloc (.cells y.cs.toArray 26)
 have hY := HasO.new' (w.alloc (.cells x.cs.toArray 26)) (.cells y.cs.toArray 26) (q := w.heap.size + 1) (by simp)
 have hB := (below_box w (.cells x.cs.toArray 26)).alloc (by simp) (.cells y.cs.toArray 26)
 go_enter Tryz.func121, Tryz.ntmps121
 go_wp2_with fail
 show Code.wp _ _ _ _ ((w.alloc (.cells x.cs.toArray 26)).alloc (.cells y.cs.toArray 26))
 generalize (w.alloc (.cells x.cs.toArray 26)).alloc (.cells y.cs.toArray 26) = w1 at *
 refine wp_region_valsL (by kernel_rfl) (by kernel_rfl) [some 5, some 6, some 7, some 8, some 9, some 4] (by rfl) (by rfl) (fun i8 => match i8 with | 0 => .agg x.cs.toArray | 1 => .string (str (textL x)) | 2 => .agg y.cs.toArray | 3 => .string (str (textL y)) | 4 => .int .i64 (cmpT x y) | 5 => .int .i64 (cmpT x y) | _ => undef) (fun W => Below w1.heap.size w1 W) ((Below.refl _ _).drew) ?hstep ?hend
 case hstep =>
  intro i9 o9 f9 W ho hi hC hf K hK
  have hi : i9 < 6 := hi
  rcases (by omega : i9 = 0 ∨ i9 = 1 ∨ i9 = 2 ∨ i9 = 3 ∨ i9 = 4 ∨ i9 = 5) with rfl | rfl | rfl | rfl | rfl | rfl
  ·exact st_loadA (og ho rfl) 26 (.tmp 2) (oo ho rfl) (rd_out rfl rfl) x.cs (by kernel_rfl) (fun j v hv => by rw [Nat.zero_add, (hX.call hC).cells j]; simpa using hv) (hK _ hC)
  ·exact st_call1 (og ho rfl) 36 (.tmp 5) #[26] (oo ho rfl) (ri 0 (hf ⟨0, .data⟩ (oa ho rfl) rfl)) (fun _ _ => rfl) (text_any x W hx) (by (intro u w9 h9; rw [Ending.returned.inj h9.1]; exact hK _ (below_call hC hC.size h9.2))) (by rintro ch w9 h9; revert h9; rintro ⟨h9, _⟩; cases h9) (by rintro w9 h9; revert h9; rintro ⟨h9, _⟩; cases h9)
  ·exact st_loadA (og ho rfl) 26 (.tmp 3) (oo ho rfl) (rd_out rfl rfl) y.cs (by kernel_rfl) (fun j v hv => by rw [Nat.zero_add, (hY.call hC).cells j]; simpa using hv) (hK _ hC)
  ·exact st_call1 (og ho rfl) 36 (.tmp 7) #[26] (oo ho rfl) (ri 2 (hf ⟨2, .data⟩ (oa ho rfl) rfl)) (fun _ _ => rfl) (text_any y W hy) (by (intro u w9 h9; rw [Ending.returned.inj h9.1]; exact hK _ (below_call hC hC.size h9.2))) (by rintro ch w9 h9; revert h9; rintro ⟨h9, _⟩; cases h9) (by rintro w9 h9; revert h9; rintro ⟨h9, _⟩; cases h9)
  ·exact st_call2 (og ho rfl) 73 (.tmp 6) (.tmp 8) #[9, 9] (oo ho rfl) (ri 1 (hf ⟨1, .data⟩ (oa ho rfl) rfl)) (ri 3 (hf ⟨3, .data⟩ (oa ho rfl) rfl)) (fun _ _ => rfl) (Tryz.strings_Compare (str (textL x)) (str (textL y)) W) (by (intro u w9 h9; rw [Ending.returned.inj h9.1, h9.2]; exact hK _ hC)) (by rintro ch w9 h9; revert h9; rintro ⟨h9, _⟩; cases h9) (by rintro w9 h9; revert h9; rintro ⟨h9, _⟩; cases h9)
  ·exact st_assign (og ho rfl) (.tmp 9) (oo ho rfl) (ri 4 (hf ⟨4, .data⟩ (oa ho rfl) rfl)) (hK _ hC)
 case hend =>
  intro W hC
  go_wp2_with fail
  refine bodyPost_ret (results_tmp (fn := Tryz.f121) Tryz.results121 _ _ _) (by rw [putL_defers]) ?_
  refine ⟨?_, below_call hB hB.size hC⟩
  rw [slot_in rfl 5 rfl (by simp) rfl]
  rfl
theorem cmpText_ok : CmpOk 121 cmpT (fun m => validB m = true) := ⟨enters_of Tryz.func121 (by kernel_rfl) rfl, fun x y hx hy W => cmpText_any x y (Lib.hid hx) (Lib.hid hy) W⟩
end Go.Proofs.YtnpomigmeieofaaGreatDoor
