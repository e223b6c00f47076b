import Derived.Test.YtefmplccbkmalaaGreatDoorF43
import Derived.Test.YtefmplccbkmalaaGreatDoorF45
import Derived.Deep.CutRange
set_option maxHeartbeats 12800000
namespace Go.Proofs.YtefmplccbkmalaaGreatDoor
open Go.RowKit

theorem wp_region_chainF {P : Program} {id : Nat} {ops : Array Oper} {Q : Exit → Act → World → Prop} {a : Act} {w : World} (hm : P.follows .mixedOrders = true) (hb : edgesBack .any ops = true)
  (ds : List (Option Tmp)) (hds : ops.toList.map (·.dst) = ds) (hok : dstsOk ds = true)
  (st : List Nat) (hst : chainB ops st = true) (hnd : st.Nodup) (hlt : ∀ s ∈ st, s < ops.size)
  (vals : List Value) (Ws : Nat → World) (h0 : Ws 0 = w.drew)
  (hstep : ∀ i o f k, ops[i]? = some o → i < ops.size → i ∉ st → k ≤ st.length → (∀ e ∈ o.after, Region.binds .any e = true → f e.on = vals.getD e.on undef) → ∀ K : Act → World → Prop, K ((putL ds f 0 a).put o.dst (vals.getD i undef)) (Ws k) →
   if Region.wanted o (yielded ops (putL ds f 0 a).tmps) = true then o.wp P (putL ds f 0 a) (Ws k) K Q else K ((putL ds f 0 a).put o.dst undef) (Ws k))
  (hturn : ∀ i o f k, ops[i]? = some o → st[k]? = some i → (∀ e ∈ o.after, Region.binds .any e = true → f e.on = vals.getD e.on undef) → ∀ K : Act → World → Prop, K ((putL ds f 0 a).put o.dst (vals.getD i undef)) (Ws (k + 1)) →
   if Region.wanted o (yielded ops (putL ds f 0 a).tmps) = true then o.wp P (putL ds f 0 a) (Ws k) K Q else K ((putL ds f 0 a).put o.dst undef) (Ws k))
  (hend : ∀ f : Nat → Value, (∀ i, f i = vals.getD i undef) → Q .normal (putL ds f 0 a) (Ws st.length)) : (Code.region id ops true).wp P Q a w :=
 wp_region_chain hm hb ds hds hok st hst hnd hlt vals Ws h0 hstep hturn (hend _ (fun _ => rfl))
section ops
variable {P : Program} {o : Oper} {a : Act} {w : World} {K : Act → World → Prop} {Q : Exit → Act → World → Prop} {t : Nat → Option Bool} {X : Prop}
theorem st_buildL (hg : o.guard = none) (ty : TypeId) (parts : List (Nat × Operand)) (ho : o.op = .build ty parts.toArray) (vs : List (Nat × Value)) (hv : parts.map (fun p => (p.1, a.eval p.2)) = vs) {cs : Array Value}
  (hb : P.built ty vs = some cs) (h : K (a.put o.dst (.agg cs)) w) : if Region.wanted o t = true then o.wp P a w K Q else X := by
 refine st_wp hg ?_
 have e : (parts.toArray.map fun (i, x) => (i, a.eval x)).toList = vs := by rw [← hv]; simp
 refine wp_build ty _ ho (by rw [e, hb]; rfl) ?_
 rw [e, hb]
 exact h
end ops
theorem index68 (W : World) (g o N cap k : Nat) (hk : k < N) : (Instr.indexAt 158 (.slice (some ⟨g, o, none⟩) N cap) (.int .i64 k)).run Tryz.prog W = .ok (.pointer (some ⟨g, o + k, none⟩)) W := by
 simp [Instr.indexAt, go_sem, run_underlying Tryz.underlying158, hk]
theorem cat9 (a b : List UInt8) (h : a.length + b.length ≤ 1000) (W : World) : (binOp .add 9 (.string (str a)) (.string (str b))).run Tryz.prog W = .ok (.string (str (a ++ b))) W := by
 have h1 := str_size a
 have h2 := str_size b
 have h3 := str_append a b
 simp [go_sem, h1, h2, h3]
 omega
def colS (bl : Bool) : List UInt8 := if bl then [98] else [119]
theorem colS_eq (bl : Bool) (W : World) : (binOp .eql 9 (.string (str (colS bl))) (.string { data := #[98] })).run Tryz.prog W = .ok (.bool bl) W := by cases bl <;> kernel_rfl
theorem alloc40 (W : World) : (Instr.alloc 26 true (.tuple #[])).run Tryz.prog W = .ok (.pointer (some ⟨W.heap.size, 0, none⟩)) (W.alloc (.cells (posCs 0 0 none 0 0 false 0 0 0 0).toArray 26)) := by kernel_rfl
theorem arr_setRow {W : World} {q : Nat} {cs cells : Array Value} {T : TypeId} {p : Option Addr} {xs : List Int} (h : Arr .i8 W p xs) (hq : HasO W q (.cells cs T (0, 0))) (hn : ∀ (j : Nat) (x : Int), cs[j]? ≠ some (Value.int .i8 x)) : Arr .i8 (W.setRow q cells) p xs := by
 rcases h with rfl | ⟨b, o, rfl, hl, hc⟩
 ·exact .inl rfl
 ·rcases xs with _ | ⟨x, xs⟩
  ·exact .inl rfl
  ·have hb : b ≠ q := by
    rintro rfl
    have h0 := hc 0 (by simp)
    rw [hq.cells] at h0
    exact hn _ _ h0
   have ha := setRow_alt W q cells
   refine .inr ⟨b, o, rfl, Nat.lt_of_lt_of_le hl ha.size, fun j hj => ?_⟩
   rw [← hc j hj]
   simp only [World.cell?, ha.block b hl (by omega)]
def pw7 (w : World) (cs : Array Value) (k : Nat) : World :=
 match k with
 | 0 => w.drew
 | 1 => w.drew.alloc (.cells (posCs 0 0 none 0 0 false 0 0 0 0).toArray 26)
 | _ => (w.drew.alloc (.cells (posCs 0 0 none 0 0 false 0 0 0 0).toArray 26)).setRow w.heap.size cs
theorem pw7_below (w : World) (cs : Array Value) (k : Nat) : Below w.heap.size w (pw7 w cs k) := by
 rcases k with _ | _ | k
 ·exact (Below.refl _ _).drew
 ·exact (Below.refl _ _).drew.alloc (Nat.le_refl _) _
 ·exact setRow_below ((Below.refl _ _).drew.alloc (Nat.le_refl _) _) (Nat.le_refl _) (by simp)
set_option maxRecDepth 100000 in
theorem posParse_any (s wb : List UInt8) (rk : List (List UInt8)) (F R h u : Nat) (bl : Bool) (w : World) (hs : s.length ≤ 1000) (hsp : spl 32 s = [[digC F, 120, digC R], wb, colS bl, [45], [45], [digC h], [digC u]])
  (hwb : wb.length ≤ 1000) (hrk : spl 47 wb = rk) (hRl : R = rk.length) (hR : 3 ≤ R ∧ R ≤ 8) (hF : 3 ≤ F ∧ F ≤ 8) (hok : brdB F rk = true) (hh : h < 10) (hu : u < 10) (hpv : pvB F R (brdL rk R) bl 0 (-1) h u = true) :
  Calls Tryz.prog 70 #[.string (str s)] w fun e w' => (∃ p c, e = .returned (.tuple #[.agg (posCs F R p (R * F) c bl 0 (-1) h u).toArray, .bool true]) ∧ R * F ≤ c ∧ Arr .i8 w' p (brdL rk R)) ∧ Below w.heap.size w w' := by
 have hA := HasO.new w (.cells (posCs 0 0 none 0 0 false 0 0 0 0).toArray 26)
 have hB := below_box w (.cells (posCs 0 0 none 0 0 false 0 0 0 0).toArray 26)
 have hlb : (brdL rk R).length = R * F := brdL_len hok R (by omega)
 have hbp := fun W => brdParse_any wb F W hwb (by rw [hrk, ← hRl]; exact hR) hF (by rw [hrk]; exact hok)
 rw [hrk, ← hRl] at hbp
 have hspl := fun W => split_any s W hs
 rw [hsp] at hspl
 obtain ⟨N, hN⟩ : ∃ N, N = R * F := ⟨_, rfl⟩
 rw [← hN] at hbp hlb ⊢
 replace hN := Lib.hid hN
 replace hpv := Lib.hid hpv
 replace hlb := Lib.hid hlb
 replace hRl := Lib.hid hRl
 clear hsp hrk hok
 go_enter Tryz.func70, Tryz.ntmps70
 go_wp2_with fail
 show Calls _ _ _ (w.alloc (.cells (posCs 0 0 none 0 0 false 0 0 0 0).toArray 26)) _
 generalize w.alloc (.cells (posCs 0 0 none 0 0 false 0 0 0 0).toArray 26) = w1 at *
 refine (hspl w1).mono ?_
 rintro e w2 ⟨⟨v, rfl, ⟨g, c, rfl⟩, hown⟩, hb2⟩
 have hA2 := hA.call hb2
 have hB2 := below_call hB hB.size hb2
 have hgl := (hown.lt g rfl).2
 have hc0 : w2.cell? ⟨g, 0 + 0, none⟩ = some (strV [digC F, 120, digC R]) := by rw [hown.cellAt 0 (by simp)]; rfl
 have hc1 : w2.cell? ⟨g, 0 + 1, none⟩ = some (strV wb) := by rw [hown.cellAt 1 (by simp)]; rfl
 have hc2 : w2.cell? ⟨g, 0 + 2, none⟩ = some (strV (colS bl)) := by rw [hown.cellAt 2 (by simp)]; rfl
 have hc3 : w2.cell? ⟨g, 0 + 3, none⟩ = some (strV [45]) := by rw [hown.cellAt 3 (by simp)]; rfl
 have hc4 : w2.cell? ⟨g, 0 + 4, none⟩ = some (strV [45]) := by rw [hown.cellAt 4 (by simp)]; rfl
 have hc5 : w2.cell? ⟨g, 0 + 5, none⟩ = some (strV [digC h]) := by rw [hown.cellAt 5 (by simp)]; rfl
 have hc6 : w2.cell? ⟨g, 0 + 6, none⟩ = some (strV [digC u]) := by rw [hown.cellAt 6 (by simp)]; rfl
 clear hA hB hb2 hown hspl
 rw [show [[digC F, 120, digC R], wb, colS bl, [45], [45], [digC h], [digC u]].length = 7 from rfl]
 simp only [Nat.zero_add] at hc0 hc1 hc2 hc3 hc4 hc5 hc6
 have hn1 : (colS bl = [119] ∧ bl = false) ∨ (colS bl = [98] ∧ bl = true) := by cases bl <;> simp [colS]
 have hl1 : (str [98]).toList = [98] := str_toList _
 have hl2 : (str [119]).toList = [119] := str_toList _
 go_upto_region 2 with fail
 go_cut [25] from 11 to 25 (fun bv wx => bv = .bool false ∧ w2 = wx)
 case first =>
  rcases hn1 with ⟨e1, e2⟩ | ⟨e1, e2⟩
  all_goals
   clear e2
   go_wp2_with fail
   go_meet
   exact ⟨rfl, rfl⟩
 case rest =>
  obtain ⟨rfl, rfl⟩ := hcut
  clear hn1 hl1 hl2
  go_wp2_with fail
  refine (hbp _).mono ?_
  rintro e w3 ⟨⟨p, cp, rfl, hcp, hArr⟩, hb3⟩
  have hA3 := hA2.call hb3
  have hB3 := below_call hB2 hB2.size hb3
  have hgl3 := Nat.lt_of_lt_of_le hgl hb3.size
  have hQ := HasO.new w3 (.cells (bdCs F R p N cp).toArray 68)
  have hb5 := below_box w3 (.cells (bdCs F R p N cp).toArray 68)
  have hA5 := hA3.call hb5
  have hB5 := below_call hB3 hB3.size hb5
  have hb25 := below_call hb3 hb3.size hb5
  have hx5 := hArr.call hb5
  have hc0' := (hb25.cell (p := ⟨g, 0, none⟩) hgl).trans hc0
  have hc2' := (hb25.cell (p := ⟨g, 2, none⟩) hgl).trans hc2
  have hc3' := (hb25.cell (p := ⟨g, 3, none⟩) hgl).trans hc3
  have hc4' := (hb25.cell (p := ⟨g, 4, none⟩) hgl).trans hc4
  have hc5' := (hb25.cell (p := ⟨g, 5, none⟩) hgl).trans hc5
  have hc6' := (hb25.cell (p := ⟨g, 6, none⟩) hgl).trans hc6
  have hgl5 := Nat.lt_of_lt_of_le hgl hb25.size
  clear hc0 hc1 hc2 hc3 hc4 hc5 hc6 hgl hA2 hB2 hA3 hB3 hb3 hb5 hb25 hArr hbp hgl3
  go_wp2_with fail
  show Code.wp _ _ _ _ (w3.alloc (.cells (bdCs F R p N cp).toArray 68))
  generalize w3.alloc (.cells (bdCs F R p N cp).toArray 68) = w5 at *
  generalize w3.heap.size = q5 at *
  have hc0 := hc0'
  have hc2 := hc2'
  have hc3 := hc3'
  have hc4 := hc4'
  have hc5 := hc5'
  have hc6 := hc6'
  have hgl := hgl5
  clear hc0' hc2' hc3' hc4' hc5' hc6' hgl5
  refine wp_region_valsL (by kernel_rfl) (by kernel_rfl) [some 34, some 35, some 36, some 37, some 38, some 39, some 40, some 41, some 42, some 43, some 44, some 45, some 46, some 47, some 48, some 49, some 50, some 51] (by rfl) (by rfl) (fun i8 => match i8 with | 0 => .bool true | 1 => .bool false | 2 => .bool false | 3 => .slice (some ⟨g, 0, none⟩) 7 c | 4 => .pointer (some ⟨g, 0 + 0, none⟩) | 5 => strV [digC F, 120, digC R] | 6 => .pointer (some ⟨q5, 0, none⟩) | 7 => .pointer (some ⟨q5, 0, none⟩) | 8 => .int .i64 ((F : Nat) : Int) | 9 => strV [digC F] | 10 => strV [digC F, 120] | 11 => .pointer (some ⟨q5, 0, none⟩) | 12 => .pointer (some ⟨q5, 1, none⟩) | 13 => .int .i64 ((R : Nat) : Int) | 14 => strV [digC R] | 15 => strV [digC F, 120, digC R] | 16 => .bool false | 17 => .bool false | _ => undef) (fun W => Below w5.heap.size w5 W) ((Below.refl _ _).drew) ?hstep ?hend
  case hstep =>
   intro i9 o9 f9 W ho hi hC hf K hK
   have hi : i9 < 18 := hi
   rcases i9 with _ | _ | _ | _ | _ | _ | _ | _ | _ | _ | _ | _ | _ | _ | _ | _ | _ | _ | i9
   ·exact st_move (og ho) (.tmp 6) (oo ho) (rd_out rfl rfl) (hK _ hC)
   ·exact st_unop (og ho) .not 4 (.tmp 34) (oo ho) (ri 0 (da ho hf 0)) (not4 _ _) (hK _ hC)
   ·exact st_move (og ho) (.tmp 35) (oo ho) (ri 1 (da ho hf 1)) (hK _ hC)
   ·exact gd (wo ho (dg ho hf 2)) (st_move rfl (.tmp 4) (oo ho) (rd_out rfl rfl) (hK _ hC))
   ·exact gd (wo ho (dg ho hf 2)) (st_index rfl 158 (.tmp 37) (.const (.int .i64 0)) (oo ho) (ri 3 (da ho hf 3)) rfl (index68 W g 0 7 c 0 (by decide)) (hK _ hC))
   ·exact gd (wo ho (dg ho hf 2)) (st_loadS rfl 9 (.tmp 38) (oo ho) (ri 4 (da ho hf 4)) (by kernel_rfl) ((hC.cell (p := ⟨g, 0, none⟩) hgl).trans hc0) (hK _ hC))
   ·exact gd (wo ho (dg ho hf 2)) (st_field rfl 68 (.tmp 5) 0 (oo ho) (rd_out rfl rfl) (n := 0) (by kernel_rfl) (hK _ hC))
   ·exact gd (wo ho (dg ho hf 2)) (st_field rfl 23 (.tmp 40) 0 (oo ho) (ri 6 (da ho hf 6)) (n := 0) (by kernel_rfl) (hK _ hC))
   ·exact gd (wo ho (dg ho hf 2)) (st_loadS rfl 3 (.tmp 41) (oo ho) (ri 7 (da ho hf 7)) (by kernel_rfl) ((hQ.call hC).cells 0) (hK _ hC))
   ·exact gd (wo ho (dg ho hf 2)) (st_call1 rfl 128 (.tmp 42) #[3] (oo ho) (ri 8 (da ho hf 8)) (fun _ _ => rfl) (decimal_any F (by omega) W) (by rintro u w9 ⟨h9, h10⟩; injection h9 with h9; subst h9; subst h10; exact hK _ hC) (fun _ _ h => nomatch h.1) (fun _ h => nomatch h.1))
   ·exact gd (wo ho (dg ho hf 2)) (st_bin rfl .add 9 9 (.tmp 43) (.const (Value.string { data := #[120] })) (oo ho) (ri 9 (da ho hf 9)) rfl (gu_s _ _ _ _ _ _ _) (cat9 [digC F] [120] (by simp) W) (hK _ hC))
   ·exact gd (wo ho (dg ho hf 2)) (st_field rfl 68 (.tmp 5) 0 (oo ho) (rd_out rfl rfl) (n := 0) (by kernel_rfl) (hK _ hC))
   ·exact gd (wo ho (dg ho hf 2)) (st_field rfl 23 (.tmp 45) 1 (oo ho) (ri 11 (da ho hf 11)) (n := 1) (by kernel_rfl) (hK _ hC))
   ·exact gd (wo ho (dg ho hf 2)) (st_loadS rfl 3 (.tmp 46) (oo ho) (ri 12 (da ho hf 12)) (by kernel_rfl) ((hQ.call hC).cells 1) (hK _ hC))
   ·exact gd (wo ho (dg ho hf 2)) (st_call1 rfl 128 (.tmp 47) #[3] (oo ho) (ri 13 (da ho hf 13)) (fun _ _ => rfl) (decimal_any R (by omega) W) (by rintro u w9 ⟨h9, h10⟩; injection h9 with h9; subst h9; subst h10; exact hK _ hC) (fun _ _ h => nomatch h.1) (fun _ h => nomatch h.1))
   ·exact gd (wo ho (dg ho hf 2)) (st_bin rfl .add 9 9 (.tmp 44) (.tmp 48) (oo ho) (ri 10 (da ho hf 10)) (ri 14 (da ho hf 14)) (gu_s _ _ _ _ _ _ _) (cat9 [digC F, 120] [digC R] (by simp) W) (hK _ hC))
   ·exact gd (wo ho (dg ho hf 2)) (st_bin rfl .neq 9 9 (.tmp 39) (.tmp 49) (oo ho) (ri 5 (da ho hf 5)) (ri 15 (da ho hf 15)) (gu_s _ _ _ _ _ _ _) (str_neq_self [digC F, 120, digC R] W) (hK _ hC))
   ·exact st_pickF (og ho) (.tmp 36) (.const (.bool true)) (.tmp 50) (oo ho) (ri 2 (da ho hf 2)) (ri 16 (da ho hf 16)) (hK _ hC)
   ·omega
  case hend =>
   intro w6 hC
   simp only [putL, Act.put, List.setIfInBounds_toArray, List.set_cons_succ, List.set_cons_zero]
   have hA6 := hA5.call hC
   have hB6 := below_call hB5 hB5.size hC
   have hQ6 := hQ.call hC
   have hx6 := hx5.call hC
   have hc2' := (hC.cell (p := ⟨g, 2, none⟩) hgl).trans hc2
   have hc3' := (hC.cell (p := ⟨g, 3, none⟩) hgl).trans hc3
   have hc4' := (hC.cell (p := ⟨g, 4, none⟩) hgl).trans hc4
   have hc5' := (hC.cell (p := ⟨g, 5, none⟩) hgl).trans hc5
   have hc6' := (hC.cell (p := ⟨g, 6, none⟩) hgl).trans hc6
   have hgl6 := Nat.lt_of_lt_of_le hgl hC.size
   clear hA5 hB5 hQ hx5 hc0 hc2 hc3 hc4 hc5 hc6 hgl hC
   go_wp2_with fail
   have hc2 := hc2'
   have hc3 := hc3'
   have hc4 := hc4'
   have hc5 := hc5'
   have hc6 := hc6'
   have hgl := hgl6
   have hQ := hQ6
   clear hc2' hc3' hc4' hc5' hc6' hgl6 hQ6
   refine wp_region_chainF (by kernel_rfl) (by kernel_rfl) [some 53, some 54, some 55, some 56, some 57, some 58, some 59, some 60, some 61, some 62, some 63, some 64, some 65, some 66, some 67, some 68, some 69, some 7, none] (by rfl) (by rfl) [17, 18] (by kernel_rfl) (by decide) (by decide) [.pointer (some ⟨q5, 0, none⟩), .agg #[.int .i64 (F : Int), .int .i64 (R : Int)], .pointer (some ⟨q5, 2, none⟩), .slice p N cp, .slice (some ⟨g, 0, none⟩) 7 c, .pointer (some ⟨g, 0 + 2, none⟩), strV (colS bl), .bool bl, .slice (some ⟨g, 0, none⟩) 7 c, .pointer (some ⟨g, 0 + 5, none⟩), strV [digC h], .int .i64 ((h : Nat) : Int), .slice (some ⟨g, 0, none⟩) 7 c, .pointer (some ⟨g, 0 + 6, none⟩), strV [digC u], .int .i64 ((u : Nat) : Int), .agg (posCs F R p N cp bl 0 (-1) h u).toArray, .pointer (some ⟨w6.heap.size, 0, none⟩), undef] (pw7 w6 (posCs F R p N cp bl 0 (-1) h u).toArray) rfl ?hstep ?hturn ?hend
   case hstep =>
    intro i9 o9 f9 k9 ho hi hmem _ hf K hK
    have hi : i9 < 19 := hi
    obtain ⟨W, hW⟩ : ∃ W, W = pw7 w6 (posCs F R p N cp bl 0 (-1) h u).toArray k9 := ⟨_, rfl⟩
    have hC : Below w6.heap.size w6 W := by rw [hW]; exact pw7_below _ _ _
    rw [← hW] at hK ⊢
    clear hW
    rcases (by simp at hmem; omega : i9 = 0 ∨ i9 = 1 ∨ i9 = 2 ∨ i9 = 3 ∨ i9 = 4 ∨ i9 = 5 ∨ i9 = 6 ∨ i9 = 7 ∨ i9 = 8 ∨ i9 = 9 ∨ i9 = 10 ∨ i9 = 11 ∨ i9 = 12 ∨ i9 = 13 ∨ i9 = 14 ∨ i9 = 15 ∨ i9 = 16) with rfl | rfl | rfl | rfl | rfl | rfl | rfl | rfl | rfl | rfl | rfl | rfl | rfl | rfl | rfl | rfl | rfl
    ·exact st_field (og ho) 68 (.tmp 5) 0 (oo ho) (rd_out rfl rfl) (n := 0) (by kernel_rfl) hK
    ·exact st_loadA (og ho) 23 (.tmp 53) (oo ho) (ri 0 (da ho hf 0)) [.int .i64 (F : Int), .int .i64 (R : Int)] (by kernel_rfl) (fun j v hv => by rw [Nat.zero_add, (hQ.call hC).cells j]; match j, hv with | 0, hv => simpa using hv | 1, hv => simpa using hv) hK
    ·exact st_field (og ho) 68 (.tmp 5) 1 (oo ho) (rd_out rfl rfl) (n := 2) (by kernel_rfl) hK
    ·exact st_loadS (og ho) 24 (.tmp 55) (oo ho) (ri 2 (da ho hf 2)) (by kernel_rfl) ((hQ.call hC).cells 2) hK
    ·exact st_move (og ho) (.tmp 4) (oo ho) (rd_out rfl rfl) hK
    ·exact st_index (og ho) 158 (.tmp 57) (.const (.int .i64 2)) (oo ho) (ri 4 (da ho hf 4)) rfl (index68 W g 0 7 c 2 (by decide)) hK
    ·exact st_loadS (og ho) 9 (.tmp 58) (oo ho) (ri 5 (da ho hf 5)) (by kernel_rfl) ((hC.cell (p := ⟨g, 2, none⟩) hgl).trans hc2) hK
    ·exact st_bin (og ho) .eql 9 9 (.tmp 59) (.const (Value.string { data := #[98] })) (oo ho) (ri 6 (da ho hf 6)) rfl (gu_s _ _ _ _ _ _ _) (colS_eq bl W) hK
    ·exact st_move (og ho) (.tmp 4) (oo ho) (rd_out rfl rfl) hK
    ·exact st_index (og ho) 158 (.tmp 61) (.const (.int .i64 5)) (oo ho) (ri 8 (da ho hf 8)) rfl (index68 W g 0 7 c 5 (by decide)) hK
    ·exact st_loadS (og ho) 9 (.tmp 62) (oo ho) (ri 9 (da ho hf 9)) (by kernel_rfl) ((hC.cell (p := ⟨g, 5, none⟩) hgl).trans hc5) hK
    ·exact st_call1 (og ho) 129 (.tmp 63) #[9] (oo ho) (ri 10 (da ho hf 10)) (fun _ _ => rfl) (number_any h (by omega) W) (by intro u w9 h9; rw [Ending.returned.inj h9.1, ← h9.2]; exact hK) (fun _ _ h => nomatch h.1) (fun _ h => nomatch h.1)
    ·exact st_move (og ho) (.tmp 4) (oo ho) (rd_out rfl rfl) hK
    ·exact st_index (og ho) 158 (.tmp 65) (.const (.int .i64 6)) (oo ho) (ri 12 (da ho hf 12)) rfl (index68 W g 0 7 c 6 (by decide)) hK
    ·exact st_loadS (og ho) 9 (.tmp 66) (oo ho) (ri 13 (da ho hf 13)) (by kernel_rfl) ((hC.cell (p := ⟨g, 6, none⟩) hgl).trans hc6) hK
    ·exact st_call1 (og ho) 129 (.tmp 67) #[9] (oo ho) (ri 14 (da ho hf 14)) (fun _ _ => rfl) (number_any u (by omega) W) (by intro u w9 h9; rw [Ending.returned.inj h9.1, ← h9.2]; exact hK) (fun _ _ h => nomatch h.1) (fun _ h => nomatch h.1)
    ·exact st_buildL (og ho) 26 [(0, .tmp 54), (1, .tmp 56), (2, .tmp 60), (4, .const (.int .i64 (-1))), (5, .tmp 64), (6, .tmp 68)] (oo ho) [(0, .agg #[.int .i64 (F : Int), .int .i64 (R : Int)]), (1, .slice p N cp), (2, .bool bl), (4, .int .i64 (-1)), (5, .int .i64 ((h : Nat) : Int)), (6, .int .i64 ((u : Nat) : Int))] (by simp only [List.map_cons, List.map_nil]; rw [(ri 1 (da ho hf 1)), (ri 3 (da ho hf 3)), (ri 7 (da ho hf 7)), (ri 11 (da ho hf 11)), (ri 15 (da ho hf 15))]; rfl) (by kernel_rfl) hK
   case hturn =>
    intro i9 o9 f9 k9 ho hst hf K hK
    have hk9 : k9 < 2 := (List.getElem?_eq_some_iff.1 hst).1
    rcases (by omega : k9 = 0 ∨ k9 = 1) with rfl | rfl
    ·obtain rfl : i9 = 17 := by simp at hst; exact hst.symm
     exact st_alloc (og ho) 26 (oo ho) (alloc40 _) hK
    ·obtain rfl : i9 = 18 := by simp at hst; exact hst.symm
     exact st_storeO (og ho) 26 (.tmp 7) (.tmp 69) (oo ho) (ri 17 (da ho hf 17)) (posCs F R p N cp bl 0 (-1) h u).toArray (posCs 0 0 none 0 0 false 0 0 0 0).toArray 26 (ri 16 (da ho hf 16)) (HasO.new w6.drew _) (by kernel_rfl) rfl (by first | kernel_rfl | simp [Value.oneCell']) hK
   case hend =>
    intro f9 hf9
    have hv17 : f9 17 = .pointer (some ⟨w6.heap.size, 0, none⟩) := hf9 17
    clear hf9
    have hC7 := pw7_below w6 (posCs F R p N cp bl 0 (-1) h u).toArray 2
    have hQ7 : HasO (pw7 w6 (posCs F R p N cp bl 0 (-1) h u).toArray 2) w6.heap.size (.cells (posCs F R p N cp bl 0 (-1) h u).toArray 26 (0, 0)) := setRow_hasO (HasO.new w6.drew _)
    have hA7 := hA6.call hC7
    have hB7 := below_call hB6 hB6.size hC7
    have hx7 := hx6.call hC7
    have hc37 := (hC7.cell (p := ⟨g, 3, none⟩) hgl).trans hc3
    have hc47 := (hC7.cell (p := ⟨g, 4, none⟩) hgl).trans hc4
    have hq7 : w.heap.size < w6.heap.size := hA6.lt
    rw [show ([17, 18] : List Nat).length = 2 from rfl]
    generalize pw7 w6 (posCs F R p N cp bl 0 (-1) h u).toArray 2 = w7 at *
    simp only [putL, Act.put, List.setIfInBounds_toArray, List.set_cons_succ, List.set_cons_zero]
    rw [hv17]
    have hC8 := hC7.setCell (p := ⟨w6.heap.size, 4, none⟩) (Nat.le_refl _) (.int .u8 0)
    have hA8 := hA6.call hC8
    have hB8 := below_call hB6 hB6.size hC8
    have hx8 := hx6.call hC8
    have hc48 := (hC8.cell (p := ⟨g, 4, none⟩) hgl).trans hc4
    have hQ8 : HasO (w7.setCell ⟨w6.heap.size, 4, none⟩ (.int .u8 0)) w6.heap.size (.cells (posCs F R p N cp bl 0 (-1) h u).toArray 26 (0, 0)) := by have h := hQ7.set_ 4 (.int .u8 0); simpa using h
    have hrp := refPos_any F R 0 (-1) h u bl p cp (brdL rk R) (by omega) _ hx8
    rw [hlb.out, hpv.out] at hrp
    generalize w6.heap.size = q7 at *
    clear hv17 hA6 hB6 hQ hx6 hc2 hc3 hc4 hc5 hc6 hgl hC7 hC8
    generalize f9 0 = u0, f9 1 = u1, f9 2 = u2, f9 3 = u3, f9 4 = u4, f9 5 = u5, f9 6 = u6, f9 7 = u7, f9 8 = u8, f9 9 = u9, f9 10 = u10, f9 11 = u11, f9 12 = u12, f9 13 = u13, f9 14 = u14, f9 15 = u15, f9 16 = u16, f9 18 = u18
    have hc := hQ7.cells
    have hl7 := hQ7.lt
    have hfz := hQ7.frozen
    have hl45 : (str [45]).toList = [45] := str_toList _
    go_wp2_with fail
    refine (castleNone_any w7).mono ?_
    rintro e w8 ⟨rfl, rfl⟩
    go_upto_region 12 with fail
    show Code.wp _ _ _ _ (w7.setCell ⟨q7, 4, none⟩ (.int .u8 0))
    generalize w7.setCell ⟨q7, 4, none⟩ (.int .u8 0) = w8 at *
    clear hc hl7 hfz hQ7 hA7 hB7 hx7 hc37 hc47
    have hl8 := hQ8.lt
    have hi40 : Hid ((Tryz.prog.info? 26).map (·.size) = some (posCs F R p N cp bl 0 (-1) h u).toArray.size) := Lib.hid (by kernel_rfl)
    have hone : Hid ((posCs F R p N cp bl 0 (-1) h u).toArray.all (·.oneCell') = true) := Lib.hid (by first | kernel_rfl | simp [Value.oneCell'])
    go_wp2_with (first | (refine wpList_loadO rfl 26 (.tmp 7) rfl q7 _ 26 rfl hQ8 (by kernel_rfl) ?_) | fail)
    refine hrp.mono ?_
    rintro e w9 ⟨rfl, hb9⟩
    have hQ9 := hQ8.call hb9
    have hA9 := hA8.call hb9
    have hB9 := below_call hB8 hB8.size hb9
    have hx9 := arr_setRow (cells := (posCs F R p N cp bl 0 (-1) h u).toArray) (hx8.call hb9) hA9 (by
     intro j x
     rcases j with _ | _ | _ | _ | _ | _ | _ | _ | j <;> simp)
    clear hQ8 hA8 hB8 hx8 hrp hc48 hl8 hb9
    go_wp2_with (first | (refine wpList_loadO rfl 26 (.tmp 7) rfl q7 _ 26 rfl hQ9 (by kernel_rfl) ?_) | (refine wpList_storeAgg rfl 26 (.tmp 2) (.tmp 99) rfl w.heap.size _ rfl rfl 26 _ hA9 hi40.out rfl hone.out ?_; rintro w' rfl) | fail)
    refine bodyPost_ret (results_ct (fn := Tryz.f70) Tryz.results70 rfl (setRow_hasO hA9) (by kernel_rfl) hi40.out rfl) rfl ?_
    exact ⟨⟨p, cp, rfl, hcp, hx9⟩, setRow_below hB9 (Nat.le_refl _) hB9.size⟩
end Go.Proofs.YtefmplccbkmalaaGreatDoor
namespace Go.Proofs.YtefmplccbkmalaaGreatDoor
open Go.RowKit Go.Sort Go.BigFrame

set_option maxRecDepth 100000 in
theorem refMv_any (F R : Int) (m : Mv) (w : World) :
  Calls Tryz.prog 21 #[.agg #[.int .i64 F, .int .i64 R], .agg m.cs.toArray] w fun e w' => e = .returned (.bool (mvB F R m)) ∧ RowKit.Below w.heap.size w w' := by
 have hA := (HasO.new w (.cells #[.int .i64 F, .int .i64 R] 23)).alloc (.cells m.cs.toArray 40)
 have hD := HasO.new' (w.alloc (.cells #[.int .i64 F, .int .i64 R] 23)) (.cells m.cs.toArray 40) (q := w.heap.size + 1) (by simp)
 have hB := (below_box w (.cells #[.int .i64 F, .int .i64 R] 23)).alloc (by simp) (.cells m.cs.toArray 40)
 have hsv := fun a W => refSqValid_any F R a W
 have hV : mvB F R m = (sqB F R m.fr && (sqB F R m.tg && ((m.fr != m.tg) && ((m.pr == 0) || (decide (2 ≤ m.pr) && decide (m.pr ≤ 5)))))) := by
  unfold mvB
  have e1 : decide (m.fr ≠ m.tg) = (m.fr != m.tg) := by by_cases h : m.fr = m.tg <;> simp [h]
  rw [e1]; rfl
 generalize mvB F R m = V at *
 have h1 := hA.cells
 have h2 := hD.cells
 have l1 := hA.lt
 have l2 := hD.lt
 go_enter Tryz.func21, Tryz.ntmps21
 go_wp2_with fail
 refine (hsv _ _).mono ?_
 rintro e w2 ⟨rfl, hb2⟩
 have hA2 := hA.call hb2
 have hD2 := hD.call hb2
 have hB2 := below_call hB hB.size hb2
 clear h1 h2 l1 l2 hA hD hB hb2
 have h1 := hA2.cells
 have h2 := hD2.cells
 have l1 := hA2.lt
 have l2 := hD2.lt
 rcases z1 : sqB F R m.fr with _ | _
 ·have hV : Hid (V = false) := Lib.hid (by rw [hV, z1]; rfl)
  go_wp2_with fail
  go_ret
  exact ⟨by rw [hV.out]; rfl, hB2⟩
 ·rw [z1, Bool.true_and] at hV
  replace hV := Lib.hid hV
  go_wp2_with fail
  refine (hsv _ _).mono ?_
  rintro e w3 ⟨rfl, hb3⟩
  have hD3 := hD2.call hb3
  have hB3 := below_call hB2 hB2.size hb3
  clear h1 h2 l1 l2 hA2 hD2 hB2 hb3
  have h2 := hD3.cells
  have l2 := hD3.lt
  rcases z2 : sqB F R m.tg with _ | _
  ·go_wp2_with fail
   go_ret
   exact ⟨by rw [hV.out, z2]; rfl, hB3⟩
  ·rcases z3 : (m.fr != m.tg) with _ | _
   ·go_wp2_with fail
    go_ret
    exact ⟨by rw [hV.out, z2, z3]; rfl, hB3⟩
   ·rcases z4 : (m.pr == 0) with _ | _
    ·rcases z5 : decide (2 ≤ m.pr) with _ | _
     ·go_wp2_with fail
      go_ret
      exact ⟨by rw [hV.out, z2, z3, z4, z5]; rfl, hB3⟩
     ·go_wp2_with fail
      go_ret
      exact ⟨ret_bool (by rw [hV.out, z2, z3, z4, z5]; rfl), hB3⟩
    ·go_wp2_with fail
     go_ret
     exact ⟨by rw [hV.out, z2, z3, z4]; rfl, hB3⟩
def RArr (w : World) (p : Option Addr) (L : List Ret) : Prop :=
 L = [] ∨ ∃ g, p = some ⟨g, 0, none⟩ ∧ g < w.heap.size ∧ ∀ j, j < L.length → ∀ i v, (L[j]?.getD zeroRet).cs[i]? = some v → w.cell? ⟨g, j * 7 + i, none⟩ = some v
theorem RArr.call {w w' : World} {p : Option Addr} {L : List Ret} (h : RArr w p L) (hb : RowKit.Below w.heap.size w w') : RArr w' p L := by
 rcases h with h | ⟨g, rfl, hl, hc⟩
 ·exact .inl h
 ·exact .inr ⟨g, rfl, Nat.lt_of_lt_of_le hl hb.size, fun j hj i v hv => (hb.cell (p := ⟨g, j * 7 + i, none⟩) hl).trans (hc j hj i v hv)⟩
theorem RArr.at {w : World} {p : Option Addr} {L : List Ret} (h : RArr w p L) {j : Nat} (hj : j < L.length) :
  ∃ g, p = some ⟨g, 0, none⟩ ∧ g < w.heap.size ∧ ∀ i v, (L[j]?.getD zeroRet).cs[i]? = some v → w.cell? ⟨g, j * 7 + i, none⟩ = some v := by
 rcases h with rfl | ⟨g, rfl, hl, hc⟩
 ·simp at hj
 ·exact ⟨g, rfl, hl, hc j hj⟩
theorem own_rarr {w : World} {base : Nat} {v : Value} {L : List Ret} (h : w.ownsRow base 42 7 v L.length (retsV L)) : ∃ p c, v = .slice p L.length c ∧ RArr w p L := by
 rcases h.2 with ⟨rfl, h0⟩ | ⟨g, cap, cur, rfl, hb, hh, _⟩
 ·rw [h0]; exact ⟨_, _, rfl, .inl (List.length_eq_zero_iff.1 h0)⟩
 ·exact ⟨_, _, rfl, .inr ⟨g, rfl, (Array.getElem?_eq_some_iff.1 hh).1, fun j hj i v hv => own_atR h hj hv⟩⟩
set_option maxRecDepth 100000 in
theorem same14_any (p1 p2 : Option Addr) (c1 c2 : Nat) (L1 L2 : List Ret) (hl : L1.length ≤ 4000000) (w : World) (h1 : RArr w p1 L1) (h2 : RArr w p2 L2) :
  Calls Tryz.prog 14 #[.slice p1 L1.length c1, .slice p2 L2.length c2] w fun e w' => e = .returned (.bool (decide (L1 = L2))) ∧ RowKit.Below w.heap.size w w' := by
 by_cases hn : L1.length = L2.length
 rotate_left
 ·have z : ((L1.length : Int) != L2.length) = true := by simp; omega
  have hf : decide (L1 = L2) = false := by
   rw [decide_eq_false_iff_not]
   intro e
   exact hn (by rw [e])
  rw [hf]
  replace hf := True.intro
  clear hn
  go_enter Tryz.func14, Tryz.ntmps14
  go_wp2_with fail
  go_ret
  exact ⟨rfl, Below.refl _ _⟩
 ·have z : ((L1.length : Int) != L2.length) = false := by simp; omega
  obtain ⟨n, hn1⟩ : ∃ n, n = L1.length := ⟨_, rfl⟩
  have hn2 : n = L2.length := by omega
  rw [← hn1, ← hn2] at z ⊢
  rw [← hn1] at hl
  clear hn
  obtain ⟨B, hBd⟩ : ∃ B, B = decide (L1 = L2) := ⟨_, rfl⟩
  rw [← hBd]
  replace hBd := Lib.hid hBd
  replace hn1 := Lib.hid hn1
  replace hn2 := Lib.hid hn2
  go_enter Tryz.func14, Tryz.ntmps14
  go_wp2_with fail
  go_loopg [5] 4000001 (fun q iv wr => ∃ k : Nat, q + k = 4000001 ∧ k ≤ n ∧ iv = .int .i64 k ∧ Hid (L1.take k = L2.take k) ∧ RowKit.Below w.heap.size w wr)
  case atStart => exact ⟨0, by omega, Nat.zero_le _, rfl, Lib.hid rfl, Below.refl _ _⟩
  case round =>
   obtain ⟨k, hq, hk, rfl, hE, hBr⟩ := hrel
   by_cases hlt : k < n
   ·have hki : (k : Int) < n := by omega
    obtain ⟨g1, rfl, hg1, hx⟩ := (h1.call hBr).at (j := k) (by rw [← hn1.out]; exact hlt)
    obtain ⟨g2, rfl, hg2, hy⟩ := (h2.call hBr).at (j := k) (by rw [← hn2.out]; exact hlt)
    obtain ⟨x, hxe⟩ : ∃ x, x = L1[k]?.getD zeroRet := ⟨_, rfl⟩
    obtain ⟨y, hye⟩ : ∃ y, y = L2[k]?.getD zeroRet := ⟨_, rfl⟩
    rw [← hxe] at hx
    rw [← hye] at hy
    obtain ⟨b, hb⟩ : ∃ b, b = !decide (x = y) := ⟨_, rfl⟩
    have hne := fun W => ret_neq x y W
    rw [← hb] at hne
    replace hxe := Lib.hid hxe
    replace hye := Lib.hid hye
    replace hb := Lib.hid hb
    go_wp2_with fail
    refine wp_region_valsL (by kernel_rfl) (by kernel_rfl) [some 17, some 18, some 19, some 20, some 21, some 22, some 23, some 24, some 25] (by rfl) (by rfl) (fun i8 => match i8 with | 0 => .slice (some ⟨g1, 0, none⟩) n c1 | 1 => .int .i64 (k : Nat) | 2 => .pointer (some ⟨g1, k * 7, none⟩) | 3 => .agg x.cs.toArray | 4 => .slice (some ⟨g2, 0, none⟩) n c2 | 5 => .int .i64 (k : Nat) | 6 => .pointer (some ⟨g2, k * 7, none⟩) | 7 => .agg y.cs.toArray | 8 => .bool b | _ => undef) (fun W => RowKit.Below wr.heap.size wr W) ((Below.refl _ _).drew) ?hstep ?hend
    case hstep =>
     intro i9 o9 f9 W ho hi hC hf K hK
     have hi : i9 < 9 := hi
     rcases i9 with _ | _ | _ | _ | _ | _ | _ | _ | _ | i9
     ·exact st_move (og ho) (.tmp 0) (oo ho) (rd_out rfl rfl) (hK _ hC)
     ·exact st_move (og ho) (.tmp 5) (oo ho) (rd_out rfl rfl) (hK _ hC)
     ·exact st_index (og ho) 30 (.tmp 17) (.tmp 18) (oo ho) (ri 0 (da ho hf 0)) (ri 1 (da ho hf 1)) (index30 W g1 n c1 k hlt) (hK _ hC)
     ·exact st_loadA (og ho) 42 (.tmp 19) (oo ho) (ri 2 (da ho hf 2)) x.cs (by kernel_rfl) (fun i v hv => (hC.cell (p := ⟨g1, k * 7 + i, none⟩) hg1).trans (hx i v hv)) (hK _ hC)
     ·exact st_move (og ho) (.tmp 1) (oo ho) (rd_out rfl rfl) (hK _ hC)
     ·exact st_move (og ho) (.tmp 5) (oo ho) (rd_out rfl rfl) (hK _ hC)
     ·exact st_index (og ho) 30 (.tmp 21) (.tmp 22) (oo ho) (ri 4 (da ho hf 4)) (ri 5 (da ho hf 5)) (index30 W g2 n c2 k hlt) (hK _ hC)
     ·exact st_loadA (og ho) 42 (.tmp 23) (oo ho) (ri 6 (da ho hf 6)) y.cs (by kernel_rfl) (fun i v hv => (hC.cell (p := ⟨g2, k * 7 + i, none⟩) hg2).trans (hy i v hv)) (hK _ hC)
     ·exact st_bin (og ho) .neq 42 42 (.tmp 20) (.tmp 24) (oo ho) (ri 3 (da ho hf 3)) (ri 7 (da ho hf 7)) (ret_guard .neq _ _ _ _ _) (hne W) (hK _ hC)
     ·omega
    case hend =>
     intro W hC
     simp only [putL, Act.put, List.setIfInBounds_toArray, List.set_cons_succ, List.set_cons_zero]
     have hB5 := below_call hBr hBr.size hC
     have e1 : k < L1.length := by rw [← hn1.out]; exact hlt
     have e2 : k < L2.length := by rw [← hn2.out]; exact hlt
     have e3 : L1.take (k + 1) = L1.take k ++ [x] := by rw [List.take_succ_eq_append_getElem e1, hxe.out, List.getElem?_eq_getElem e1]; rfl
     have e4 : L2.take (k + 1) = L2.take k ++ [y] := by rw [List.take_succ_eq_append_getElem e2, hye.out, List.getElem?_eq_getElem e2]; rfl
     have hxx : x = L1[k]?.getD zeroRet := hxe.out
     have hyy : y = L2[k]?.getD zeroRet := hye.out
     replace hxx := Lib.hid hxx
     replace hyy := Lib.hid hyy
     replace e3 := Lib.hid e3
     replace e4 := Lib.hid e4
     clear hx hy hne hC hBr
     cases b
     ·have he : x = y := by have := hb.out; simpa using this
      have hE2 : Hid (L1.take (k + 1) = L2.take (k + 1)) := Lib.hid (by rw [e3.out, e4.out, hE.out, he])
      clear he
      go_wp2_with fail
      go_roundg (gk - 1)
      case measure => omega
      case rel => exact ⟨k + 1, by omega, by omega, by go_num, hE2, hB5⟩
     ·have he : x ≠ y := by have := hb.out; simpa using this
      have hB2 : Hid (B = false) := Lib.hid (by
       rw [hBd.out, decide_eq_false_iff_not]
       intro e
       exact he (by rw [hxx.out, hyy.out, e]))
      clear he
      go_wp2_with fail
      go_ret
      exact ⟨by rw [hB2.out]; rfl, hB5⟩
   ·obtain rfl : k = n := by omega
    have hB2 : Hid (B = true) := Lib.hid (by
     rw [hBd.out, decide_eq_true_eq]
     have := hE.out
     rwa [List.take_of_length_le (Nat.le_of_eq hn1.out.symm), List.take_of_length_le (Nat.le_of_eq hn2.out.symm)] at this)
    go_wp2_with fail
    go_ret
    exact ⟨by rw [hB2.out]; rfl, hBr⟩
end Go.Proofs.YtefmplccbkmalaaGreatDoor
