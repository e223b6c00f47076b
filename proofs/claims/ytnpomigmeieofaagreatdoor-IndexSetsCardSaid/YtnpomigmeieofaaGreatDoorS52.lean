/- The law IndexSets returns true at every set of pieces; the walks and the plain facts lie in the texts before. -/
import Derived.Test.YtnpomigmeieofaaGreatDoorS24
import Derived.Test.YtnpomigmeieofaaGreatDoorS35
import Derived.Test.YtnpomigmeieofaaGreatDoorS40
import Derived.Test.YtnpomigmeieofaaGreatDoorS51
import Derived.Test.YtnpomigmeieofaaGreatDoorRows
import Derived.HandedShaped
import Derived.ProofKit
import Derived.Shelf.Vars
import Derived.LaidMore
import Derived.OpenShut
import Derived.Test.YtnpomigmeieofaaGreatDoorTie
import Derived.Test.YtnpomigmeieofaaGreatDoorCards
import Derived.SevenTiedAt
set_option maxHeartbeats 12800000
namespace Go.Proofs.YtnpomigmeieofaaGreatDoor
open Go.RowKit
attribute [local go_sem] Oper.semAt_some
def MSl (L : List Men) (v : Value) (W : World) : Prop := ∃ p c, v = .slice p L.length c ∧ MArr W p L
theorem MSl.call {L : List Men} {v : Value} {W W' : World} (h : MSl L v W) (hb : Below W.heap.size W W') : MSl L v W' := by
 obtain ⟨p, c, e, hA⟩ := h
 exact ⟨p, c, e, hA.call hb⟩
theorem msl_of {W : World} {base : Nat} {v : Value} {L : List Men} (h : W.ownsRow base 26 12 v L.length (mensV L)) : MSl L v W := by
 obtain ⟨p, c, e, hA⟩ := own_marr h
 exact ⟨p, c, e, hA⟩
theorem wp_region_pr {P : Program} {id : Nat} {ops : Array Oper} {Q : Exit → Act → World → Prop} {a : Act} {w : World} (hm : P.follows .mixedOrders = true) (hb : edgesBack .any ops = true)
  (ds : List (Option Tmp)) (hds : ops.toList.map (·.dst) = ds) (hok : dstsOk ds = true) (Pr : Nat → Value → World → Prop) (hst : ∀ i v W W', Below W.heap.size W W' → Pr i v W → Pr i v W')
  (hstep : ∀ i o f W, ops[i]? = some o → i < ops.size → Below w.heap.size w W → (∀ e ∈ o.after, Region.binds .any e = true → Pr e.on (f e.on) W) → ∀ K : Act → World → Prop, (∀ u W', Below W.heap.size W W' → Pr i u W' → K ((putL ds f 0 a).put o.dst u) W') →
   if Region.wanted o (yielded ops (putL ds f 0 a).tmps) = true then o.wp P (putL ds f 0 a) W K Q else K ((putL ds f 0 a).put o.dst undef) W)
  (hend : ∀ f W, Below w.heap.size w W → (∀ i, i < ops.size → Pr i (f i) W) → Q .normal (putL ds f 0 a) W) : (Code.region id ops true).wp P Q a w := by
 refine wp_region_agL hm hb ds hds hok (fun W => Below w.heap.size w W) (fun W W' => Below W.heap.size W W') Pr (fun i v W W' _ h h2 => hst i v W W' h h2) (Below.refl _ _).drew ?_ hend
 intro i o f W ho hi hC hf K hK
 exact hstep i o f W ho hi hC hf K (fun u W' h1 h2 => hK u W' (below_call hC hC.size h1) h1 h2)
theorem wpList_eqlM {ops : Array Oper} {rest : List Oper} {o : Oper} {a : Act} {Q : Exit → Act → World → Prop} {w : World} (hg : o.guard = none) (x y : Operand) (hop : o.op = Op.binOp .eql 26 x y 26) (m : Men)
  (hx : a.eval x = .agg m.cs.toArray) (hy : a.eval y = .agg m.cs.toArray) (hK : wpList Tryz.prog ops Q rest (a.put o.dst (.bool true)) w) : wpList Tryz.prog ops Q (o :: rest) a w := by
 refine wpList_plain hg fun K' hK' => ?_
 have h := st_bin (P := Tryz.prog) (Q := Q) (t := fun _ => none) (X := False) hg .eql 26 26 x y hop hx hy (men_guard .eql _ _ _ _ _) ((men_eql m m w).trans (by rw [decide_eq_true rfl])) (hK' _ _ hK)
 rwa [if_pos (wanted_none hg)] at h
set_option maxRecDepth 100000 in
theorem IndexSets_any (m : Men) (w : World) (hg : GlobOk w) (hm : MaxOk w) : Calls Tryz.prog 6 #[.agg m.cs.toArray] w fun e w' => e = .returned (.bool true) ∧ Below w.heap.size w w' := by
 have hw0 : 0 < w.heap.size := by obtain ⟨_, _, h⟩ := hm; exact h
 have hM := HasO.new w (.cells m.cs.toArray 26)
 have hB := below_box w (.cells m.cs.toArray 26)
 have hF := fun W => Flip_any m W
 have hvl := fun W => refValid_any m W
 go_enter Tryz.func6, Tryz.ntmps6
 go_upto_region 1 with fail
 show Code.wp _ _ _ _ (w.alloc (.cells m.cs.toArray 26))
 generalize w.alloc (.cells m.cs.toArray 26) = w1 at *
 obtain ⟨q, hq⟩ : ∃ q, q = w.heap.size := ⟨_, rfl⟩
 rw [← hq] at hM ⊢
 replace hq := Lib.hid hq
 rcases hv : validB m with _ | _
 ·have hE : flipE m = (zeroMen, 2) := by unfold flipE; rw [if_neg (by rw [hv]; simp)]
  rw [hE] at hF
  rw [hv] at hvl
  have hne := fun W => NextBad_any m hv W
  have hcl := fun W => ClosureBad_any m hv W
  replace hv := Lib.hid hv
  replace hE := Lib.hid hE
  go_wp2_with (first | (refine wpList_loadO rfl 26 (.tmp 1) rfl q _ 26 rfl hM (by kernel_rfl) ?_) | fail)
  refine (hF w1).mono ?_
  rintro e w2 ⟨rfl, hb⟩
  have hX := HasO.new w2 (.cells zeroMen.cs.toArray 26)
  have hbX := below_box w2 (.cells zeroMen.cs.toArray 26)
  replace hM := (hM.call hb).call hbX
  replace hB := below_call hB hB.size hb
  replace hB := below_call hB hB.size hbX
  clear hb hbX hF
  go_upto_region 2 with fail
  show Code.wp _ _ _ _ (w2.alloc (.cells zeroMen.cs.toArray 26))
  generalize w2.alloc (.cells zeroMen.cs.toArray 26) = w3 at *
  generalize w2.heap.size = q3 at *
  go_wp2_with (first | (refine wpList_loadO rfl 26 (.tmp 1) rfl q _ 26 rfl hM (by kernel_rfl) ?_) | fail)
  refine (hne w3).mono ?_
  rintro e w4 ⟨rfl, hb⟩
  replace hM := hM.call hb
  replace hX := hX.call hb
  replace hB := below_call hB hB.size hb
  clear hb hne
  go_wp2_with (first | (refine wpList_loadO rfl 26 (.tmp 1) rfl q _ 26 rfl hM (by kernel_rfl) ?_) | fail)
  refine (hcl w4).mono ?_
  rintro e w5 ⟨rfl, hb⟩
  replace hM := hM.call hb
  replace hX := hX.call hb
  replace hB := below_call hB hB.size hb
  clear hb hcl
  go_wp2_with (first | (refine wpList_loadO rfl 26 (.tmp 1) rfl q _ 26 rfl hM (by kernel_rfl) ?_) | fail)
  refine (hvl w5).mono ?_
  rintro e w6 ⟨rfl, hb⟩
  replace hX := hX.call hb
  replace hB := below_call hB hB.size hb
  have hg6 := hg.call hB
  have hm6 := hm.call hB hw0
  clear hb hvl hM
  go_wp2_with (first | (refine wpList_loadO rfl 26 (.tmp 3) rfl q3 _ 26 rfl hX (by kernel_rfl) ?_) | (refine wpList_eqlM rfl (.tmp 27) (.tmp 28) rfl zeroMen rfl rfl ?_) | fail)
  refine (known_any w6 hg6 hm6).mono ?_
  rintro e w7 ⟨rfl, hb⟩
  replace hB := below_call hB hB.size hb
  go_wp2_with fail
  go_ret
  exact ⟨rfl, hB⟩
 ·have hN := (vN_iff m).1 hv
  have hE : flipE m = (flipM m, 0) := by unfold flipE; rw [if_pos hv]
  rw [hE] at hF
  rw [hv] at hvl
  have hnx := fun W => Next_any m hv W
  have hcx := fun W => closure_any m hv W
  have hfl := fun W => refFlip_any m W
  have hne := fun W => refNext_any m hN W
  have hcl := fun W => refClosure_any m hN W
  have hnl := (nxtS_fam hN).len
  replace hv := Lib.hid hv
  replace hE := Lib.hid hE
  replace hN := Lib.hid hN
  go_wp2_with (first | (refine wpList_loadO rfl 26 (.tmp 1) rfl q _ 26 rfl hM (by kernel_rfl) ?_) | fail)
  refine (hF w1).mono ?_
  rintro e w2 ⟨rfl, hb⟩
  have hX := HasO.new w2 (.cells (flipM m).cs.toArray 26)
  have hbX := below_box w2 (.cells (flipM m).cs.toArray 26)
  replace hM := (hM.call hb).call hbX
  replace hB := below_call hB hB.size hb
  replace hB := below_call hB hB.size hbX
  clear hb hbX hF
  go_upto_region 2 with fail
  show Code.wp _ _ _ _ (w2.alloc (.cells (flipM m).cs.toArray 26))
  generalize w2.alloc (.cells (flipM m).cs.toArray 26) = w3 at *
  generalize w2.heap.size = q3 at *
  go_wp2_with (first | (refine wpList_loadO rfl 26 (.tmp 1) rfl q _ 26 rfl hM (by kernel_rfl) ?_) | fail)
  refine (hnx w3).mono ?_
  rintro e w4 ⟨⟨v1, rfl, ho1⟩, hb⟩
  replace hM := hM.call hb
  replace hX := hX.call hb
  replace hB := below_call hB hB.size hb
  obtain ⟨L1, hL1⟩ : ∃ L1, L1 = nxtS m := ⟨_, rfl⟩
  rw [← hL1] at ho1 hnl
  obtain ⟨p1, c1, rfl, hA1⟩ := own_marr ho1
  obtain ⟨n1, hn1⟩ : ∃ n1, n1 = L1.length := ⟨_, rfl⟩
  rw [← hn1] at hnl ⊢
  have hn61 : n1 ≤ 10000000 := by omega
  replace hL1 := Lib.hid hL1
  replace hn1 := Lib.hid hn1
  clear hb hnx ho1 hnl
  go_wp2_with (first | (refine wpList_loadO rfl 26 (.tmp 1) rfl q _ 26 rfl hM (by kernel_rfl) ?_) | fail)
  refine (hcx w4).mono ?_
  rintro e w5 ⟨⟨v2, nE, hE2, rfl, ho2⟩, hb⟩
  replace hM := hM.call hb
  replace hX := hX.call hb
  replace hA1 := hA1.call hb
  replace hB := below_call hB hB.size hb
  have hfam : Fam m (srtD cmpC (bfs m nE)) := ⟨by
   unfold List.Nodup
   exact (clo_by hN.out hE2).1.imp (fun {x y} hc e => by subst e; exact ord_cmpC.irr _ hc), fun x hx => (bfs_fam hN.out nE hE2.1).2 x (((clo_by hN.out hE2).2 x).1 hx)⟩
  have hcl2 := hfam.len
  obtain ⟨L2, hL2⟩ : ∃ L2, L2 = srtD cmpC (bfs m nE) := ⟨_, rfl⟩
  rw [← hL2] at ho2 hcl2
  obtain ⟨p2, c2, rfl, hA2⟩ := own_marr ho2
  obtain ⟨n2, hn2⟩ : ∃ n2, n2 = L2.length := ⟨_, rfl⟩
  rw [← hn2] at hcl2 ⊢
  have hn62 : n2 ≤ 10000000 := by omega
  replace hL2 := Lib.hid hL2
  replace hn2 := Lib.hid hn2
  have hE := Lib.hid hE2
  clear hb hcx ho2 hcl2 hfam hE2
  go_wp2_with (first | (refine wpList_loadO rfl 26 (.tmp 1) rfl q _ 26 rfl hM (by kernel_rfl) ?_) | fail)
  refine (hvl w5).mono ?_
  rintro e w6 ⟨rfl, hb⟩
  have hM5 := hM.call hb
  have hF5 := hX.call hb
  replace hA1 := hA1.call hb
  replace hA2 := hA2.call hb
  have hB5 := below_call hB hB.size hb
  clear hb hvl hM hX hB
  go_wp2_with fail
  refine wp_region_pr (by kernel_rfl) (by kernel_rfl) [some 55, some 56, some 57, some 58, some 59, some 60, some 61, some 62, some 63, some 64, some 65, some 66, some 67, some 68, some 69, some 70, some 71, some 72, some 73, some 74, some 75, some 76, some 77, some 78, some 79, some 80, some 81, some 82, some 83, some 84, some 85, some 2] (by rfl) (by rfl) (fun i v W => match i with | 0 => v = .agg (flipM m).cs.toArray | 1 => v = .agg m.cs.toArray | 2 => v = .agg (flipM m).cs.toArray | 3 => v = .bool true | 4 => v = .bool true | 5 => v = .int .i64 0 | 6 => v = .bool true | 7 => v = .bool true | 8 => v = .bool true | 9 => v = .slice p1 n1 c1 | 10 => v = .agg m.cs.toArray | 11 => MSl L1 v W | 12 => v = .bool true | 13 => v = .bool true | 14 => v = .bool true | 15 => v = .int .i64 0 | 16 => v = .bool true | 17 => v = .bool true | 18 => v = .bool true | 19 => v = .slice p2 n2 c2 | 20 => v = .agg m.cs.toArray | 21 => MSl L2 v W | 22 => v = .bool true | 23 => v = .bool true | 24 => v = .bool true | 25 => v = .int .i64 0 | 26 => v = .bool true | 27 => v = .bool true | 28 => v = .bool true | 29 => v = .bool true | 30 => v = .bool true | 31 => v = .bool true | _ => True) ?hst ?hstep ?hend
  case hst =>
   intro i v W W' hb h
   rcases (by omega : i = 11 ∨ i = 21 ∨ i ≠ 11 ∧ i ≠ 21) with rfl | rfl | ⟨h1, h2⟩
   iterate 2 exact MSl.call h hb
   ·revert h
    split <;> first | exact id | (exact fun h => h.call hb)
  case hstep =>
   intro i9 o9 f9 W ho hi hC hf K hK
   have hi : i9 < 32 := hi
   rcases i9 with _ | _ | _ | _ | _ | _ | _ | _ | _ | _ | _ | _ | _ | _ | _ | _ | _ | _ | _ | _ | _ | _ | _ | _ | _ | _ | _ | _ | _ | _ | _ | _ | i9
   ·exact st_loadA (og ho) 26 (.tmp 3) (oo ho) (rd_out rfl rfl) (flipM m).cs (by kernel_rfl) (fun j v hv => by rw [Nat.zero_add, (hF5.call hC).cells j]; simpa using hv) (kk hK)
   ·exact st_loadA (og ho) 26 (.tmp 1) (oo ho) (rd_out rfl rfl) m.cs (by kernel_rfl) (fun j v hv => by rw [Nat.zero_add, (hM5.call hC).cells j]; simpa using hv) (kk hK)
   ·exact st_call1 (og ho) 27 (.tmp 56) #[26] (oo ho) (ri 1 (da ho hf 1)) (fun _ _ => rfl) (hfl W) (by (rintro u w9 ⟨h9, hb9⟩; injection h9 with h9; subst h9; exact hK _ _ hb9 rfl)) (fun _ _ h => nomatch h.1) (fun _ h => nomatch h.1)
   ·exact st_bin (og ho) .eql 26 26 (.tmp 55) (.tmp 57) (oo ho) (ri 0 (da ho hf 0)) (ri 2 (da ho hf 2)) (men_guard .eql _ _ _ _ _) ((men_eql _ _ W).trans (by rw [decide_eq_true rfl])) (kk hK)
   ·exact st_move (og ho) (.tmp 58) (oo ho) (ri 3 (da ho hf 3)) (kk hK)
   ·exact gd (wo ho (dg ho hf 4)) (st_move rfl (.tmp 4) (oo ho) (rd_out rfl rfl) (kk hK))
   ·exact gd (wo ho (dg ho hf 4)) (st_bin rfl .eql 28 28 (.tmp 60) (.const (.int .i64 0)) (oo ho) (ri 5 (da ho hf 5)) rfl (by kernel_rfl) (by kernel_rfl) (kk hK))
   ·exact st_pickT (og ho) (.tmp 59) (.tmp 61) (.const (.bool false)) (oo ho) (ri 4 (da ho hf 4)) (ri 6 (da ho hf 6)) (kk hK)
   ·exact st_move (og ho) (.tmp 62) (oo ho) (ri 7 (da ho hf 7)) (kk hK)
   ·exact gd (wo ho (dg ho hf 8)) (st_move rfl (.tmp 5) (oo ho) (rd_out rfl rfl) (kk hK))
   ·exact gd (wo ho (dg ho hf 8)) (st_loadA rfl 26 (.tmp 1) (oo ho) (rd_out rfl rfl) m.cs (by kernel_rfl) (fun j v hv => by rw [Nat.zero_add, (hM5.call hC).cells j]; simpa using hv) (kk hK))
   ·exact gd (wo ho (dg ho hf 8)) (st_call1 rfl 29 (.tmp 65) #[26] (oo ho) (ri 10 (da ho hf 10)) (fun _ _ => rfl) (hne W) (by rintro u w9 ⟨⟨v9, h9, ho9⟩, hb9⟩; injection h9 with h9; subst h9; exact hK _ _ hb9 (msl_of (by rw [hL1.out]; exact ho9))) (by rintro ch w9 h9; revert h9; rintro ⟨⟨_, h9, _⟩, _⟩; cases h9) (by rintro w9 h9; revert h9; rintro ⟨⟨_, h9, _⟩, _⟩; cases h9))
   ·obtain ⟨p9, c9, e9, hA9⟩ : MSl L1 (f9 11) W := hf ⟨11, .data⟩ (oa ho) rfl
    exact gd (wo ho (dg ho hf 8)) (st_call2 rfl 28 (.tmp 64) (.tmp 66) #[57, 57] (oo ho) (ri 9 (da ho hf 9)) (ri 11 (e9.trans (by rw [← hn1.out]))) (fun _ _ => rfl) (same_any L1 n1 c1 c9 p1 p9 hn1.out hn61 W (hA1.call hC) hA9) (by (rintro u w9 ⟨h9, hb9⟩; injection h9 with h9; subst h9; exact hK _ _ hb9 rfl)) (fun _ _ h => nomatch h.1) (fun _ h => nomatch h.1))
   ·exact st_pickT (og ho) (.tmp 63) (.tmp 67) (.const (.bool false)) (oo ho) (ri 8 (da ho hf 8)) (ri 12 (da ho hf 12)) (kk hK)
   ·exact st_move (og ho) (.tmp 68) (oo ho) (ri 13 (da ho hf 13)) (kk hK)
   ·exact gd (wo ho (dg ho hf 14)) (st_move rfl (.tmp 6) (oo ho) (rd_out rfl rfl) (kk hK))
   ·exact gd (wo ho (dg ho hf 14)) (st_bin rfl .eql 28 28 (.tmp 70) (.const (.int .i64 0)) (oo ho) (ri 15 (da ho hf 15)) rfl (by kernel_rfl) (by kernel_rfl) (kk hK))
   ·exact st_pickT (og ho) (.tmp 69) (.tmp 71) (.const (.bool false)) (oo ho) (ri 14 (da ho hf 14)) (ri 16 (da ho hf 16)) (kk hK)
   ·exact st_move (og ho) (.tmp 72) (oo ho) (ri 17 (da ho hf 17)) (kk hK)
   ·exact gd (wo ho (dg ho hf 18)) (st_move rfl (.tmp 7) (oo ho) (rd_out rfl rfl) (kk hK))
   ·exact gd (wo ho (dg ho hf 18)) (st_loadA rfl 26 (.tmp 1) (oo ho) (rd_out rfl rfl) m.cs (by kernel_rfl) (fun j v hv => by rw [Nat.zero_add, (hM5.call hC).cells j]; simpa using hv) (kk hK))
   ·exact gd (wo ho (dg ho hf 18)) (st_call1 rfl 30 (.tmp 75) #[26] (oo ho) (ri 20 (da ho hf 20)) (fun _ _ => rfl) (hcl W) (by rintro u w9 ⟨⟨v9, n9, hE9, h9, ho9⟩, hb9⟩; injection h9 with h9; subst h9; exact hK _ _ hb9 (msl_of (by rw [hL2.out, ← hE9.uniq hE.out]; exact ho9))) (by rintro ch w9 h9; revert h9; rintro ⟨⟨_, _, _, h9, _⟩, _⟩; cases h9) (by rintro w9 h9; revert h9; rintro ⟨⟨_, _, _, h9, _⟩, _⟩; cases h9))
   ·obtain ⟨p9, c9, e9, hA9⟩ : MSl L2 (f9 21) W := hf ⟨21, .data⟩ (oa ho) rfl
    exact gd (wo ho (dg ho hf 18)) (st_call2 rfl 28 (.tmp 74) (.tmp 76) #[57, 57] (oo ho) (ri 19 (da ho hf 19)) (ri 21 (e9.trans (by rw [← hn2.out]))) (fun _ _ => rfl) (same_any L2 n2 c2 c9 p2 p9 hn2.out hn62 W (hA2.call hC) hA9) (by (rintro u w9 ⟨h9, hb9⟩; injection h9 with h9; subst h9; exact hK _ _ hb9 rfl)) (fun _ _ h => nomatch h.1) (fun _ h => nomatch h.1))
   ·exact st_pickT (og ho) (.tmp 73) (.tmp 77) (.const (.bool false)) (oo ho) (ri 18 (da ho hf 18)) (ri 22 (da ho hf 22)) (kk hK)
   ·exact st_move (og ho) (.tmp 78) (oo ho) (ri 23 (da ho hf 23)) (kk hK)
   ·exact gd (wo ho (dg ho hf 24)) (st_move rfl (.tmp 8) (oo ho) (rd_out rfl rfl) (kk hK))
   ·exact gd (wo ho (dg ho hf 24)) (st_bin rfl .eql 28 28 (.tmp 80) (.const (.int .i64 0)) (oo ho) (ri 25 (da ho hf 25)) rfl (by kernel_rfl) (by kernel_rfl) (kk hK))
   ·exact st_pickT (og ho) (.tmp 79) (.tmp 81) (.const (.bool false)) (oo ho) (ri 24 (da ho hf 24)) (ri 26 (da ho hf 26)) (kk hK)
   ·exact st_move (og ho) (.tmp 82) (oo ho) (ri 27 (da ho hf 27)) (kk hK)
   ·exact gd (wo ho (dg ho hf 28)) (st_call0 rfl 7 (oo ho) (fun _ _ => rfl) (known_any W (hg.call (below_call hB5 hB5.size hC)) (hm.call (below_call hB5 hB5.size hC) hw0)) (by (rintro u w9 ⟨h9, hb9⟩; injection h9 with h9; subst h9; exact hK _ _ hb9 rfl)) (fun _ _ h => nomatch h.1) (fun _ h => nomatch h.1))
   ·exact st_pickT (og ho) (.tmp 83) (.tmp 84) (.const (.bool false)) (oo ho) (ri 28 (da ho hf 28)) (ri 29 (da ho hf 29)) (kk hK)
   ·exact st_assign (og ho) (.tmp 85) (oo ho) (ri 30 (da ho hf 30)) (kk hK)
   ·omega
  case hend =>
   intro f9 W hC hf
   have h31 : f9 31 = .bool true := hf 31 (by decide)
   have hBe := below_call hB5 hB5.size hC
   simp only [putL, Act.put, List.setIfInBounds_toArray, List.set_cons_succ, List.set_cons_zero]
   rw [h31]
   go_wp2_with fail
   go_ret
   exact ⟨rfl, hBe⟩
end Go.Proofs.YtnpomigmeieofaaGreatDoor
namespace Go.Proofs.YtnpomigmeieofaaGreatDoor
open Go.ChangeShapes Go.WideShapes Go.ChangeAt Go.RowKit
theorem Tryz.own : ownKnob Tryz.prog.godebug = none := by kernel_rfl
theorem Tryz.cells233 : Tryz.prog.cellsOf 233 = 2 := by kernel_rfl
theorem cell_lt {w : World} {a : Addr} {v : Value} (h : w.cell? a = some v) : a.block < w.heap.size ∧ a.spot = none := by
 unfold World.cell? at h
 split at h
 ·rename_i e
  refine ⟨(Array.getElem?_eq_some_iff.1 e).1, ?_⟩
  split at h
  ·cases h
  ·rename_i e2; simpa using e2
 ·cases h
theorem max_of {w : World} (h : w.ShapedOpen Tryz.prog) : MaxOk w := by
 obtain ⟨m, hm⟩ := Go.Proofs.cell_of_shapedOpen_int (g := 0) (zero := #[.int .i64 0]) (t := 3) h (of_decide_eq_true (by kernel_rfl)) (by kernel_rfl) rfl (by kernel_rfl) (by kernel_rfl) Tryz.underlying3
 exact ⟨m, hm, (cell_lt hm).1⟩
set_option maxRecDepth 100000 in
theorem cell_int {W : World} {base : Nat} {c : Value} (h : Cell.okWide Tryz.prog W .any base 3 c) : ∃ n, c = .int .i64 n :=
 okWide_int Tryz.underlying3 (by simp only [Value.okWide, Tryz.underlying3]; exact h)
theorem steps_of {H : Type} {enc : TypeId × Value → H} {W : World} {base : Nat} {sp : Nat → Bool} {held : Bool} {fuel n : Nat} {t : TypeId} {cs : List Value} {L : List (Int × Int)} {ps : List MemPlace}
  (ht : Tryz.prog.underlying t = some (.array n 233)) (hn : L.length = n) (h : DataW.trod enc Tryz.prog W base sp held fuel t cs = some (.agg (L.map fun s => .agg [.lit (.int .i64 s.1), .lit (.int .i64 s.2)]), ps)) :
  ∀ j, j < n → cs[j * 2]? = some (.int .i64 (L[j]?.getD (0, 0)).1) ∧ cs[j * 2 + 1]? = some (.int .i64 (L[j]?.getD (0, 0)).2) := by
 obtain ⟨xs, m, _, hx, _, hn3, hel⟩ := DataW.trod_array ht h
 intro j hj
 have hj2 := hel j hj
 rw [Tryz.cells233, List.getElem?_eq_getElem (l := xs) (i := j) (by omega)] at hj2
 have hx1 := congrArg Prod.fst hx
 injection hx1 with hx1
 have hxj := congrArg (fun l => l[j]?) hx1
 simp only [List.getElem?_map] at hxj
 rw [List.getElem?_eq_getElem (l := xs) (i := j) (by omega), List.getElem?_eq_getElem (l := L) (i := j) (by omega)] at hxj
 simp only [Option.map_some, Option.some.injEq] at hxj
 obtain ⟨y0, y1, m2, e, _, h0, h1⟩ := trod_struct2 Tryz.underlying233 hj2
 rw [e] at hxj
 simp only [DataW.agg.injEq, List.cons.injEq, and_true] at hxj
 have h0 : DataW.trod enc Tryz.prog W base sp held m2 3 (((((cs.drop (j * 2)).take 2).drop 0)).take (Tryz.prog.cellsOf 3)) = some y0 := h0
 have h1 : DataW.trod enc Tryz.prog W base sp held m2 3 (((((cs.drop (j * 2)).take 2).drop 1)).take (Tryz.prog.cellsOf 3)) = some y1 := h1
 rw [Tryz.cells3] at h0 h1
 obtain ⟨k0, e0, f0, _⟩ := DataW.trod_int Tryz.underlying3 h0
 obtain ⟨k1, e1, f1, _⟩ := DataW.trod_int Tryz.underlying3 h1
 rw [f0, f1] at hxj
 have g0 : k0 = L[j].1 := by have := hxj.1; simp at this; exact this.symm
 have g1 : k1 = L[j].2 := by have := hxj.2; simp at this; exact this.symm
 rw [List.getElem?_eq_getElem (l := L) (i := j) (by omega)]
 simp only [Option.getD_some]
 constructor
 ·have := congrArg (fun l => l[0]?) e0
  simp [List.getElem?_drop] at this
  rw [this, g0]
 ·have := congrArg (fun l => l[0]?) e1
  simp [List.getElem?_drop] at this
  rw [this, g1]
def laid4 : List (String × DataW Unit) := [("caissa/ray.straight", Rows.laid_caissa_ray_straight), ("caissa/ray.diagonal", Rows.laid_caissa_ray_diagonal), ("caissa/ray.leaps", Rows.laid_caissa_ray_leaps), ("caissa/position.full", Rows.laid_caissa_position_full)]
theorem door_met (os : Os) (args : Array Value) : laidMetH Tryz.prog laid4 ((World.doorLaid Tryz.prog 45 os).forCall (fun _ _ => 0) ⟨#[], args, []⟩).memory :=
 laidMetH_of_parts3 (fuel := 8) (laidMet_of_run' 8 (by kernel_rfl) (by kernel_rfl)) (by kernel_rfl) (by kernel_rfl)
theorem gl4 : Tryz.prog.globalNamed "caissa/ray.straight" = some 4 ∧ (Tryz.prog.globals[4]?).map (·.type) = some 238 := ⟨by kernel_rfl, by kernel_rfl⟩
theorem gl3 : Tryz.prog.globalNamed "caissa/ray.diagonal" = some 3 ∧ (Tryz.prog.globals[3]?).map (·.type) = some 238 := ⟨by kernel_rfl, by kernel_rfl⟩
theorem gl2 : Tryz.prog.globalNamed "caissa/ray.leaps" = some 2 ∧ (Tryz.prog.globals[2]?).map (·.type) = some 236 := ⟨by kernel_rfl, by kernel_rfl⟩
theorem gl0 : Tryz.prog.globalNamed "caissa/position.full" = some 1 ∧ (Tryz.prog.globals[1]?).map (·.type) = some 23 := ⟨by kernel_rfl, by kernel_rfl⟩
theorem glob_of {W : World} (h : laidMetH Tryz.prog laid4 W) : GlobOk W := by
 rw [MakeChecks.laidMetH_plain _ _ _ (by kernel_rfl)] at h
 obtain ⟨ps, ⟨g0, t0, cs0, f0, p0, q0, hg0, ht0, hv0, hd0, ⟨g1, t1, cs1, f1, p1, q1, hg1, ht1, hv1, hd1, ⟨g2, t2, cs2, f2, p2, q2, hg2, ht2, hv2, hd2, ⟨g3, t3, cs3, f3, p3, q3, hg3, ht3, hv3, hd3, _, _⟩, _⟩, _⟩, _⟩, _, _⟩ := h
 obtain rfl := Option.some.inj (gl4.1.symm.trans hg0)
 obtain rfl := Option.some.inj (gl3.1.symm.trans hg1)
 obtain rfl := Option.some.inj (gl2.1.symm.trans hg2)
 obtain rfl := Option.some.inj (gl0.1.symm.trans hg3)
 obtain rfl := Option.some.inj (gl4.2.symm.trans ht0)
 obtain rfl := Option.some.inj (gl3.2.symm.trans ht1)
 obtain rfl := Option.some.inj (gl2.2.symm.trans ht2)
 obtain rfl := Option.some.inj (gl0.2.symm.trans ht3)
 have s4 := steps_of (L := strL) Tryz.underlying238 rfl hd0
 have s3 := steps_of (L := diagL) Tryz.underlying238 rfl hd1
 have s2 := steps_of (L := leapsL) Tryz.underlying236 rfl hd2
 have v4 := World.var?_cell hg0 hv0
 have v3 := World.var?_cell hg1 hv1
 have v2 := World.var?_cell hg2 hv2
 have v0 := World.var?_cell hg3 hv3
 have mk : ∀ (g n : Nat) (cs : Array Value) (L : List (Int × Int)), 0 < n → L.length = n → (∀ j, W.cell? ⟨g, j, none⟩ = cs[j]?) → (∀ j, j < n → cs.toList[j * 2]? = some (.int .i64 (L[j]?.getD (0, 0)).1) ∧ cs.toList[j * 2 + 1]? = some (.int .i64 (L[j]?.getD (0, 0)).2)) → StepArr W g 0 L := by
  intro g n cs L hn hl hv hs
  have hc : ∀ j, W.cell? ⟨g, j, none⟩ = cs.toList[j]? := fun j => by rw [hv j]; simp
  refine ⟨(cell_lt ((hc 0).trans (hs 0 hn).1)).1, fun j hj => ?_⟩
  rw [Nat.zero_add, hc, hc]
  exact hs j (by omega)
 refine ⟨mk 2 8 cs2 leapsL (by decide) rfl v2 s2, mk 3 4 cs1 diagL (by decide) rfl v3 s3, mk 4 4 cs0 strL (by decide) rfl v4 s4, ?_, ?_⟩
 all_goals
  obtain ⟨y0, y1, m2, e, _, h0, h1⟩ := trod_struct2 Tryz.underlying23 hd3
  have e' := congrArg Prod.fst e
  simp only [Rows.laid_caissa_position_full, DataW.agg.injEq, List.cons.injEq, and_true] at e'
  have c3 := Tryz.cells3
  simp only [c3] at h0 h1
  obtain ⟨k0, e0, f0, _⟩ := DataW.trod_int Tryz.underlying3 h0
  obtain ⟨k1, e1, f1, _⟩ := DataW.trod_int Tryz.underlying3 h1
  rw [f0, f1] at e'
  have g0 : k0 = 8 := by have := e'.1; simp at this; exact this.symm
  have g1 : k1 = 8 := by have := e'.2; simp at this; exact this.symm
  have a0 := congrArg (fun l => l[0]?) e0
  have a1 := congrArg (fun l => l[0]?) e1
  simp at a0 a1
  rw [v0]
  first
   | (rw [a0, g0])
   | (rw [a1, g1])
set_option maxRecDepth 100000 in
theorem rih4 {H : Type} {enc : TypeId × Value → H} {os : Os} {f : FuncId} {fn : Func} {s : ChangeSpec} (started : os.Started) (noInit : Tryz.checked.prog.inits.idxOf? f = none) (hfn : Tryz.checked.prog.funcs[f]? = some fn)
  (witness : ∃ (w : World) (tape : Tape) (i : Input), w.os = os ∧ (w.forCall tape i).Shaped Tryz.checked.prog ∧ i.vars = [] ∧ Input.okWide Tryz.checked.prog (w.forCall tape i) .any w.heap.size f i ∧
   ((s.pre enc Tryz.checked.prog fn [] false (w.forCall tape i).memory i.args ∧ laidMetH Tryz.prog laid4 (w.forCall tape i).memory) ∧ sizedMet enc Tryz.checked.prog fn (OpenSpec.ofChange s) false (w.forCall tape i).memory i.args) ∧ ({} : Assume).holds Tryz.checked.prog (lone (Frame.enter Tryz.checked.prog f i.args .normal) [] (w.forCall tape i)))
  (contract : ∀ (W : World) (base : Nat) (args : Array Value) (ds gs : List (DataW H)) (before : List MemPlace),
   (∀ (j : Nat) t v, fn.params[j]? = some t → args[j]? = some v → Value.okWide Tryz.prog W .any base t v) →
   DataW.Whole enc Tryz.prog fn.params.toList s.vars false W args.toList ds gs before → GlobOk W → MaxOk W →
   Calls Tryz.prog f args W fun e W' => ∃ v, e = .returned v ∧ s.post enc Tryz.checked.prog fn false true false false W args v W') :
  ReturnsInHanded {} Tryz.checked os f .any (fun w args => (s.pre enc Tryz.prog fn [] false w args ∧ laidMetH Tryz.prog laid4 w) ∧ sizedMet enc Tryz.prog fn (OpenSpec.ofChange s) false w args) (s.post enc Tryz.prog fn false true false false) := by
 refine returnsInHanded_of_calls Tryz.own started noInit witness ?_
 intro w tape i _ hsh _ hok hpre _
 obtain ⟨_, _, _, fn', hfn', _, _, _, _, hval⟩ := hok
 obtain rfl : fn' = fn := Option.some.inj (hfn'.symm.trans hfn)
 obtain ⟨⟨⟨ds, gs, before, hw, _⟩, hx⟩, _⟩ := hpre
 have hw' := DataW.Whole.of_heap (w' := w.forCall tape i) (by rfl) hw
 have hx' : laidMetH Tryz.prog laid4 (w.forCall tape i) := hx.of_heap (by rfl)
 refine (contract (w.forCall tape i) w.heap.size i.args ds gs before hval hw' (glob_of hx') (max_of hsh)).mono ?_
 rintro e W' ⟨v, rfl, hp⟩
 exact ChangeSpec.post_blind hp
theorem Tryz.cells26 : Tryz.prog.cellsOf 26 = 12 := by kernel_rfl
theorem Tryz.cellTypes26 : Tryz.prog.cellTypes Tryz.prog.depth 26 = some [3, 3, 3, 3, 3, 3, 3, 3, 3, 3, 3, 3] := by kernel_rfl
set_option maxRecDepth 100000 in
theorem open_men {W : World} {base : Nat} {v : Value} (h : Value.okWide Tryz.prog W .any base 26 v) : ∃ m : Men, v = .agg m.cs.toArray := by
 simp only [Value.okWide, Tryz.underlying26] at h
 obtain ⟨cs, rfl, hsz, ts, hts, _, hall⟩ := h
 rw [Tryz.cellTypes26] at hts
 cases hts
 rw [Tryz.cells26] at hsz
 obtain ⟨l⟩ := cs
 match l, hsz with
 | [c0, c1, c2, c3, c4, c5, c6, c7, c8, c9, c10, c11], _ =>
  have g : ∀ (i : Nat) (c : Value), i < 12 → [c0, c1, c2, c3, c4, c5, c6, c7, c8, c9, c10, c11][i]? = some c → ∃ n, c = .int .i64 n := by
   intro i c hi hc
   obtain ⟨u, h1, h2⟩ := hall i c (by rw [List.getElem?_toArray]; exact hc)
   have e : u = 3 := by
    rcases (by omega : i = 0 ∨ i = 1 ∨ i = 2 ∨ i = 3 ∨ i = 4 ∨ i = 5 ∨ i = 6 ∨ i = 7 ∨ i = 8 ∨ i = 9 ∨ i = 10 ∨ i = 11) with rfl | rfl | rfl | rfl | rfl | rfl | rfl | rfl | rfl | rfl | rfl | rfl <;> exact (Option.some.inj (show some 3 = some u from h1)).symm
   subst e
   exact cell_int h2
  obtain ⟨n0, rfl⟩ := g 0 _ (by omega) rfl
  obtain ⟨n1, rfl⟩ := g 1 _ (by omega) rfl
  obtain ⟨n2, rfl⟩ := g 2 _ (by omega) rfl
  obtain ⟨n3, rfl⟩ := g 3 _ (by omega) rfl
  obtain ⟨n4, rfl⟩ := g 4 _ (by omega) rfl
  obtain ⟨n5, rfl⟩ := g 5 _ (by omega) rfl
  obtain ⟨n6, rfl⟩ := g 6 _ (by omega) rfl
  obtain ⟨n7, rfl⟩ := g 7 _ (by omega) rfl
  obtain ⟨n8, rfl⟩ := g 8 _ (by omega) rfl
  obtain ⟨n9, rfl⟩ := g 9 _ (by omega) rfl
  obtain ⟨n10, rfl⟩ := g 10 _ (by omega) rfl
  obtain ⟨n11, rfl⟩ := g 11 _ (by omega) rfl
  exact ⟨⟨n0, n1, n2, n3, n4, n5, n6, n7, n8, n9, n10, n11⟩, rfl⟩
set_option maxRecDepth 100000 in
theorem sets_lifted (os : Os) (started : os.Started) (H : Type) (enc : TypeId × Value → H) :
  ReturnsInHanded {} Tryz.checked os 6 .any (fun w args => (Rows.indexSetsSpec.pre enc Tryz.prog Tryz.f6 [] false w args ∧ laidMetH Tryz.prog laid4 w) ∧ sizedMet enc Tryz.prog Tryz.f6 (OpenSpec.ofChange Rows.indexSetsSpec) false w args)
   (Rows.indexSetsSpec.post enc Tryz.prog Tryz.f6 false true false false) := by
 refine rih4 started (by kernel_rfl) Tryz.func6
  (ChangeSpec.witness_shaped (enc := enc) (C := Tryz.checked) (os := os) (X := fun w _ => laidMetH Tryz.prog laid4 w) false (World.doorLaid Tryz.prog 45 os) #[.agg zeroMen.cs.toArray] 8 rfl (World.shaped_of_RefB (by kernel_rfl) (by kernel_rfl)) (by kernel_rfl) (by kernel_rfl) (by kernel_rfl) (door_met os _)) ?_
 intro W base args ds gs before hval0 hW hg hm
 have hval : ∀ (j : Nat) t v, Tryz.f6.params[j]? = some t → args[j]? = some v → Value.okWide Tryz.prog W .any base t v := hval0
 have hW' := hW
 obtain ⟨p, q, hA0, hV, rfl, _, _⟩ := hW
 have hA : DataW.TrodAll enc Tryz.prog W 0 (fun _ => true) true Tryz.f6.params.toList args.toList ds p := hA0
 rw [Tryz.params6] at hA hval
 obtain ⟨v0, d0, rfl, rfl, h0⟩ := trodAll_one hA
 obtain ⟨rfl, rfl⟩ := trodVars_none hV
 obtain ⟨m, rfl⟩ := open_men (hval 0 26 v0 rfl rfl)
 clear hA0 hval0
 simp only [List.append_nil] at hW'
 have hlt : ∀ x ∈ p, x.block < W.heap.size := fun x hx => by simpa using hW'.lt x hx
 have hargs : ∀ {t : TypeId} {v : Value} {d : DataW H} {q : List MemPlace}, DataW.Trod enc Tryz.prog W 0 (fun _ => true) true t v d q → (∀ x ∈ q, x.block < W.heap.size) → Tryz.prog.readableRec t = true → t < Tryz.prog.types.size → ∀ W', Below W.heap.size W W' → DataW.Trod enc Tryz.prog W' 0 (fun b => decide (b < W.heap.size)) true t v d q :=
  fun h hq hr ht W' hn => Below.trod Tryz.laidOut hr ht h hn hq
 refine (IndexSets_any m W hg hm).mono fun e W' ⟨he, hnx⟩ => ?_
 subst he
 have k0 := hargs h0 (fun x hx => hlt x (by simp [hx])) (by kernel_rfl) (of_decide_eq_true (by kernel_rfl)) W' hnx
 refine ⟨_, rfl, _, _, _, [], p, [], hW', trodAll_mk1 (shut_bool Tryz.underlying4 _), trodAll_mk1 k0, rfl, ?_, fun h => by cases h⟩
 exact hnx.frame _
theorem indexSets_row : Rows.IndexSetsSaid :=
 OpenClaim.holds_of_wide 6 Tryz.f6 rfl rfl rfl rfl rfl rfl rfl ⟨rfl, rfl, rfl, rfl, rfl⟩ rfl rfl rfl rfl rfl (by kernel_rfl) Tryz.func6 (by kernel_rfl)
  (of_decide_eq_true (by kernel_rfl)) (by unfold Func.isWrapper; first | (rw [if_pos (by decide +kernel)]; kernel_rfl) | (rw [if_neg (by decide +kernel)]; exact ⟨rfl, rfl⟩))
  (fun os started H enc _ => sets_lifted os started H enc)
theorem indexSets_holds : Rows.IndexSetsCardSaid :=
 Claim7.holds_tied_plain_at .later [] [.widerDeep, .widerDeep, .widerDeep, .data] true (true, "3693be62ccb70268aa164561f281e984fe337b1a92e53ef4e47b14ab8b53f904") false
  indexSets_row (fun _ h => by cases h) (by kernel_rfl) (fun _ h => by cases h) indexSets_row_tie rfl ⟨rfl, rfl⟩ (by kernel_rfl) rfl
  (fun f fn hf hfn => by
   obtain rfl : f = 6 := Option.some.inj ((show Tryz.prog.funcNamed "caissa/caissalaw20.IndexSets" = some 6 by kernel_rfl).symm.trans hf) |>.symm
   obtain rfl : fn = Tryz.f6 := (Option.some.inj (Tryz.func6.symm.trans hfn)).symm
   exact ⟨by kernel_rfl, fun j t ht => by
    rw [Tryz.params6] at ht
    have hm : t ∈ [26] := by simpa using Array.mem_of_getElem? ht
    have hall : ([26].all fun u => !Tryz.prog.wantsStandIn u) = true := by kernel_rfl
    exact (show Tryz.prog.wantsStandIn t = false by simpa using List.all_eq_true.1 hall t hm)⟩)
  (by kernel_rfl)
#print axioms indexSets_holds
end Go.Proofs.YtnpomigmeieofaaGreatDoor
