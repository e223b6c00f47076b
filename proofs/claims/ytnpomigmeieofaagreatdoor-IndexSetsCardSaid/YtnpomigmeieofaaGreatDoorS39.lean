import Derived.Test.YtnpomigmeieofaaGreatDoorS37
import Derived.Test.YtnpomigmeieofaaGreatDoorS38
set_option maxHeartbeats 12800000
namespace Go.Proofs.YtnpomigmeieofaaGreatDoor
open Go.RowKit

theorem ord_R (all : Bool) : Ord3 (ordR all) := by
 cases all
 ·exact ord_cmpT
 ·exact ord_cmpC
theorem ordR_he (all : Bool) (x y : Men) (hx : validB x = true) (hy : validB y = true) (h : ordR all x y = 0) : x = y := by
 cases all
 ·exact cmpT_eq hx hy h
 ·exact cmpC_eq hx hy h
theorem insAt_len (cf : Men → Men → Int) (x : Men) : ∀ l, (insAt cf x l).length = l.length + 1 := by
 intro l
 induction l with
 | nil => rfl
 | cons y l ih =>
  unfold insAt
  split
  ·simp [ih]
  ·rfl
theorem srtD_take (cf : Men → Men → Int) (L : List Men) {i : Nat} (hi : i < L.length) {x : Men} (hx : x = L[i]?.getD zeroMen) : srtD cf (L.take (i + 1)) = if x ∈ srtD cf (L.take i) then srtD cf (L.take i) else insAt cf x (srtD cf (L.take i)) := by
 unfold srtD
 rw [List.take_add_one, List.getElem?_eq_getElem hi, show L[i] = x by rw [hx, List.getElem?_eq_getElem hi]; rfl, Option.toList_some, List.foldl_append]
 rfl
theorem srtD_len (cf : Men → Men → Int) (L : List Men) : ∀ i, i ≤ L.length → (srtD cf (L.take i)).length ≤ i := by
 intro i
 induction i with
 | zero => intro _; exact Nat.le_refl _
 | succ i ih =>
  intro hi
  have h := ih (by omega)
  rw [srtD_take cf L (by omega) rfl]
  split
  ·omega
  ·rw [insAt_len]; omega
theorem SlM.grown0 {W W' : World} {u : Value} {O : List Men} (h : SlM W u O) (hg : W.grownBy W' none) : SlM W' u O := by
 rcases h with h | ⟨g, o, c, rfl, hgl, hc⟩
 ·exact .inl h
 ·exact .inr ⟨g, o, c, rfl, Nat.lt_of_lt_of_le hgl hg.size, fun t v hv => hg.cell (a := ⟨g, o + t, none⟩) (hc t v hv) (by simp)⟩
theorem wp_region_vals2 {P : Program} {id : Nat} {ops : Array Oper} {Q : Exit → Act → World → Prop} {a : Act} {w : World} (hm : P.follows .mixedOrders = true) (hb : edgesBack .any ops = true)
  (ds : List (Option Tmp)) (hds : ops.toList.map (·.dst) = ds) (hok : dstsOk ds = true) (C : World → Prop) (h0 : C w.drew) (z : Nat) (vz : Value)
  (hstep : ∃ vals : Nat → Value, vals z = vz ∧ ∀ i o f w, ops[i]? = some o → i < ops.size → C w → (∀ e ∈ o.after, Region.binds .any e = true → f e.on = vals e.on) → ∀ K : Act → World → Prop, (∀ w', C w' → K ((putL ds f 0 a).put o.dst (vals i)) w') →
   if Region.wanted o (yielded ops (putL ds f 0 a).tmps) = true then o.wp P (putL ds f 0 a) w K Q else K ((putL ds f 0 a).put o.dst undef) w)
  (hend : ∀ vals w, vals z = vz → C w → Q .normal (putL ds vals 0 a) w) : (Code.region id ops true).wp P Q a w := by
 obtain ⟨vals, hz, hs⟩ := hstep
 exact wp_region_valsL hm hb ds hds hok vals C h0 hs (fun w hC => hend vals w hz hC)
def soR (w1 : World) (vals : Nat → Value) (x : Men) (O : List Men) (S : Nat → Bool) (f : Nat → Value) (W : World) : Prop :=
 Below w1.heap.size w1 W ∧ (∀ i, i < 8 → i ≠ 4 → S i = true → f i = vals i) ∧ (S 8 = true → S 4 = true) ∧ (S 8 = false → S 4 = true → W.ownsRow w1.heap.size 26 12 (f 4) 1 (mensV [x])) ∧
 (S 8 = true → W.ownsRow w1.heap.size 26 12 (f 8) (1 + O.length) (mensV [x] ++ mensV O)) ∧ (S 9 = true → S 8 = true ∧ f 9 = f 8)
section
variable {w1 W : World} {vs : Nat → Value} {x : Men} {O : List Men} {S : Nat → Bool} {f : Nat → Value}
theorem so_congr (S S' : Nat → Bool) (f : Nat → Value) (W : World) (hS : ∀ i, i < 10 → S i = S' i) (h : soR w1 vs x O S f W) : soR w1 vs x O S' f W := by
 unfold soR at *
 rw [← hS 4 (by omega), ← hS 8 (by omega), ← hS 9 (by omega)]
 exact ⟨h.1, fun i hi h4 h9 => h.2.1 i hi h4 (by rw [hS i (by omega)]; exact h9), h.2.2⟩
theorem so_val (h : soR w1 vs x O S f W) (i : Nat) (hi : i < 8) (h4 : i ≠ 4) : soR w1 vs x O (upd S i) (fun j => if j = i then vs i else f j) W := by
 obtain ⟨hC, h1, h2, h3, h8, h9⟩ := h
 have n8 : (8 : Nat) ≠ i := by omega
 have n9 : (9 : Nat) ≠ i := by omega
 have a4 : upd S i 4 = S 4 := by unfold upd; rw [if_neg (Ne.symm h4)]
 have a8 : upd S i 8 = S 8 := by unfold upd; rw [if_neg n8]
 have a9 : upd S i 9 = S 9 := by unfold upd; rw [if_neg n9]
 refine ⟨hC, fun j hj hj4 hs => ?_, by rw [a4, a8]; exact h2, by rw [a4, a8]; simpa [Ne.symm h4] using h3, by rw [a8]; simpa [n8] using h8, by rw [a8, a9]; simpa [n8, n9] using h9⟩
 by_cases e : j = i
 ·show (if j = i then vs i else f j) = vs j
  rw [if_pos e, e]
 ·show (if j = i then vs i else f j) = vs j
  rw [if_neg e]
  exact h1 j hj hj4 (by simpa [upd, e] using hs)
theorem so_4 (h : soR w1 vs x O S f W) (hS : S 4 = false) : soR w1 vs x O (upd S 4) (fun j => if j = 4 then .slice (some ⟨W.heap.size, 0, none⟩) 1 1 else f j) (W.alloc (.cells x.cs.toArray 26)) := by
 obtain ⟨hC, h1, h2, h3, h8, h9⟩ := h
 have hb := below_box W (.cells x.cs.toArray 26)
 have hS8 : S 8 = false := by
  rcases h : S 8 with _ | _
  ·rfl
  ·rw [h2 h] at hS; cases hS
 refine ⟨below_call hC hC.size hb, fun j hj hj4 hs => ?_, by simp [upd], fun _ _ => ?_, by simp [upd, hS8], by simpa [upd] using h9⟩
 ·show (if j = 4 then _ else f j) = vs j
  rw [if_neg hj4]
  exact h1 j hj hj4 (by simpa [upd, hj4] using hs)
 ·show World.ownsRow _ _ _ _ (if 4 = 4 then _ else f 4) _ _
  rw [if_pos rfl]
  exact own_new1 (HasO.new W _) hC.size
theorem so_8 (h : soR w1 vs x O S f W) (hS4 : S 4 = true) (hS8 : S 8 = false) {v' : Value} {W' : World} (ho : W'.ownsRow w1.heap.size 26 12 v' (1 + O.length) (mensV [x] ++ mensV O)) (hg : W.grownBy W' (f 4).ownBlock) : soR w1 vs x O (upd S 8) (fun j => if j = 8 then v' else f j) W' := by
 obtain ⟨hC, h1, h2, h3, h8, h9⟩ := h
 refine ⟨hC.grown hg hC.size (fun j e => ((h3 hS8 hS4).lt j e).1), fun j hj hj4 hs => ?_, by simpa [upd] using hS4, by simp [upd], by simpa [upd] using ho, ?_⟩
 ·show (if j = 8 then v' else f j) = vs j
  rw [if_neg (by omega)]
  exact h1 j hj hj4 (by unfold upd at hs; rwa [if_neg (by omega)] at hs)
 ·intro h
  have := (h9 (by simpa [upd] using h)).1
  rw [hS8] at this; cases this
theorem so_9 (h : soR w1 vs x O S f W) (hS8 : S 8 = true) : soR w1 vs x O (upd S 9) (fun j => if j = 9 then f 8 else f j) W := by
 obtain ⟨hC, h1, h2, h3, h8, h9⟩ := h
 refine ⟨hC, fun j hj hj4 hs => ?_, by simpa [upd] using h2, by simpa [upd] using h3, by simpa [upd] using h8, by simp [upd, hS8]⟩
 show (if j = 9 then f 8 else f j) = vs j
 rw [if_neg (by omega)]
 exact h1 j hj hj4 (by unfold upd at hs; rwa [if_neg (by omega)] at hs)
end
set_option maxRecDepth 100000 in
theorem sorted_any (L : List Men) (all : Bool) (n c : Nat) (p : Option Addr) (hn : n = L.length) (hn2 : n ≤ 10000000) (hv : ∀ x ∈ L, validB x = true) (w : World) (hA : MArr w p L) :
  Calls Tryz.prog 76 #[.slice p n c, .bool all] w fun e w' => (∃ v, e = .returned v ∧ w'.ownsRow w.heap.size 26 12 v (srtD (ordR all) L).length (mensV (srtD (ordR all) L))) ∧ Below w.heap.size w w' := by
 obtain ⟨i0, hi00, hz0, hz1, hz2⟩ := info_parts info26
 replace hv := Lib.hid hv
 replace hn := Lib.hid hn
 obtain ⟨B, hBn⟩ : ∃ B, B = 10000001 := ⟨_, rfl⟩
 go_enter Tryz.func76, Tryz.ntmps76
 go_wp2_with fail
 go_loopg [5, 6] B (fun q lv iv wr => ∃ i : Nat, ∃ wz, wz = wr ∧ q + i = B ∧ i ≤ n ∧ iv = .int .i64 ((i : Nat) : Int) ∧ wr.ownsRow w.heap.size 26 12 lv (srtD (ordR all) (L.take i)).length (mensV (srtD (ordR all) (L.take i))) ∧ Below w.heap.size w wr)
 case atStart => exact ⟨0, _, rfl, rfl, Nat.zero_le _, rfl, World.ownsRow_nil _ _ _ _, Below.refl _ _⟩
 case round =>
  obtain ⟨i, w2, rfl, hq, hi, rfl, hown, hB⟩ := hrel
  have hlen := srtD_len (ordR all) L i (by rw [← hn.out]; exact hi)
  have hvO : ∀ x ∈ srtD (ordR all) (L.take i), validB x = true := fun x hx => hv.out x (List.mem_of_mem_take ((srtD_by (ord_R all) (ordR_he all) (L.take i) (fun x hx => hv.out x (List.mem_of_mem_take hx))).2 x |>.1 hx))
  by_cases hlt : i < n
  ·have hii : (i : Int) < n := by omega
   have hiL : i < L.length := by rw [← hn.out]; exact hlt
   obtain ⟨g, rfl, hgl, hcx⟩ := hA.at hiL
   obtain ⟨x, hx⟩ : ∃ x, x = L[i]?.getD zeroMen := ⟨_, rfl⟩
   have hvx : validB x = true := hv.out x (by rw [hx, List.getElem?_eq_getElem hiL]; exact List.getElem_mem _)
   have hst := srtD_take (ordR all) L hiL hx
   rw [← hx] at hcx
   obtain ⟨O, hO⟩ : ∃ O, O = srtD (ordR all) (L.take i) := ⟨_, rfl⟩
   rw [← hO] at hown hst hvO hlen
   obtain ⟨po, co, rfl, hAo⟩ := own_marr hown
   obtain ⟨nO, hnO⟩ : ∃ nO, nO = O.length := ⟨_, rfl⟩
   rw [← hnO] at hown hlen
   have hhas := has_any O x nO co po hnO (by omega) w2 hAo
   have hg2 : g < w2.heap.size := Nat.lt_of_lt_of_le hgl hB.size
   have hcx2 : ∀ i2 v2, x.cs[i2]? = some v2 → w2.cell? ⟨g, i * 12 + i2, none⟩ = some v2 := fun i2 v2 hv2 => (hB.cell (p := ⟨g, i * 12 + i2, none⟩) hgl).trans (hcx i2 v2 hv2)
   obtain ⟨b, hb⟩ : ∃ b, b = decide (x ∈ O) := ⟨_, rfl⟩
   rw [← hb] at hhas
   replace hx := Lib.hid hx
   replace hO := Lib.hid hO
   replace hst := Lib.hid hst
   replace hvO := Lib.hid hvO
   replace hvx := Lib.hid hvx
   replace hb := Lib.hid hb
   clear hcx
   rw [← hnO]
   replace hnO := Lib.hid hnO
   go_wp2_with (first | (refine wpList_loadA rfl 26 (.tmp 18) rfl rfl x.cs (by kernel_rfl) hcx2 ?_) | fail)
   refine hhas.mono ?_
   rintro e w3 ⟨rfl, hb3⟩
   have hown3 := own_call hown hb3
   have hAo3 := hAo.call hb3
   have hB3 := below_call hB hB.size hb3
   have hg3 : g < w3.heap.size := Nat.lt_of_lt_of_le hg2 hb3.size
   have hcx3 : ∀ i2 v2, x.cs[i2]? = some v2 → w3.cell? ⟨g, i * 12 + i2, none⟩ = some v2 := fun i2 v2 hv2 => (hb3.cell (p := ⟨g, i * 12 + i2, none⟩) hg2).trans (hcx2 i2 v2 hv2)
   clear hhas hown hAo hB hcx2 hg2 hb3
   cases b
   ·have hnm : x ∉ O := by have := hb.out; simpa using this
    have hst1 := hst.out
    rw [if_neg hnm] at hst1
    replace hst1 := Lib.hid hst1
    clear hst
    go_wp2_with fail
    obtain ⟨gk1, hg1⟩ : ∃ x, x = gk := ⟨_, rfl⟩
    subst hg1
    go_loopg [7] B (fun q av wr => ∃ at_ : Nat, ∃ wz, wz = wr ∧ q + at_ = B ∧ at_ ≤ nO ∧ av = .int .i64 ((at_ : Nat) : Int) ∧ Hid (∀ k, k < at_ → ordR all (O[k]?.getD zeroMen) x < 0) ∧ Below w3.heap.size w3 wr)
    case atStart => exact ⟨0, _, rfl, rfl, Nat.zero_le _, rfl, Lib.hid (fun k hk => absurd hk (Nat.not_lt_zero k)), Below.refl _ _⟩
    case round =>
     obtain ⟨at_, w4, rfl, hq4, hat4, rfl, hbef, hb4⟩ := hrel
     have hown4 := own_call hown3 hb4
     have hAo4 := hAo3.call hb4
     have hB4 := below_call hB3 hB3.size hb4
     have hg4 : g < w4.heap.size := Nat.lt_of_lt_of_le hg3 hb4.size
     have hcx4 : ∀ i2 v2, x.cs[i2]? = some v2 → w4.cell? ⟨g, i * 12 + i2, none⟩ = some v2 := fun i2 v2 hv2 => (hb4.cell (p := ⟨g, i * 12 + i2, none⟩) hg3).trans (hcx3 i2 v2 hv2)
     by_cases hstop : at_ = nO ∨ ¬ ordR all (O[at_]?.getD zeroMen) x < 0
     ·replace hstop := Lib.hid hstop
      go_wp2_with fail
      refine wp_region_vals2 (by kernel_rfl) (by kernel_rfl) [some 21, some 22, some 23, some 24, some 25, some 26, some 27, some 28, some 29, some 30, some 31, some 32, some 33, some 34, some 35, some 36] (by rfl) (by rfl) (fun W => Below w4.heap.size w4 W) ((Below.refl _ _).drew) 15 (.bool false) ?hstep ?hend
      case hstep =>
       by_cases hat : at_ < nO
       ·have hd : ¬ ordR all (O[at_]?.getD zeroMen) x < 0 := by rcases hstop.out with h | h <;> omega
        have hati : (at_ : Int) < nO := by omega
        have hlss : decide ((at_ : Int) < nO) = true := by simpa using hat
        have hatO : at_ < O.length := by rw [← hnO.out]; exact hat
        obtain ⟨go, rfl, hgo, hco⟩ := hAo4.at hatO
        obtain ⟨y, hy⟩ : ∃ y, y = O[at_]?.getD zeroMen := ⟨_, rfl⟩
        have hvy : validB y = true := hvO.out y (by rw [hy, List.getElem?_eq_getElem hatO]; exact List.getElem_mem _)
        rw [← hy] at hco hd
        have hless := fun W => less_any y x all W hvy hvx.out
        rw [show decide (ordR all y x < 0) = false by simpa using hd] at hless
        refine ⟨(fun i8 => match i8 with | 0 => .int .i64 (at_ : Nat) | 1 => .slice (some ⟨go, 0, none⟩) nO co | 2 => .int .i64 (nO : Nat) | 3 => .bool true | 4 => .bool true | 5 => .slice (some ⟨go, 0, none⟩) nO co | 6 => .int .i64 (at_ : Nat) | 7 => .pointer (some ⟨go, at_ * 12, none⟩) | 8 => .agg y.cs.toArray | 9 => .slice (some ⟨g, 0, none⟩) n c | 10 => .int .i64 (i : Nat) | 11 => .pointer (some ⟨g, i * 12, none⟩) | 12 => .agg x.cs.toArray | 13 => .bool all | 14 => .bool false | 15 => .bool false | _ => undef), rfl, ?_⟩
        intro i9 o9 f9 W ho hi hC hf K hK
        have hi : i9 < 16 := hi
        rcases i9 with _ | _ | _ | _ | _ | _ | _ | _ | _ | _ | _ | _ | _ | _ | _ | _ | i9
        ·exact st_move (og ho) (.tmp 7) (oo ho) (rd_out rfl rfl) (hK _ hC)
        ·exact st_move (og ho) (.tmp 5) (oo ho) (rd_out rfl rfl) (hK _ hC)
        ·exact st_len (og ho) (.tmp 22) 57 (oo ho) Tryz.underlying57 (ri 1 (da ho hf 1)) (hK _ hC)
        ·exact st_bin (og ho) .lss 3 3 (.tmp 21) (.tmp 23) (oo ho) (ri 0 (da ho hf 0)) (ri 2 (da ho hf 2)) (gu_i _ _ _ _ _ _ _ _) (bin_lssE hlss) (hK _ hC)
        ·exact st_move (og ho) (.tmp 24) (oo ho) (ri 3 (da ho hf 3)) (hK _ hC)
        ·exact gd (wo ho (dg ho hf 4)) (st_move rfl (.tmp 5) (oo ho) (rd_out rfl rfl) (hK _ hC))
        ·exact gd (wo ho (dg ho hf 4)) (st_move rfl (.tmp 7) (oo ho) (rd_out rfl rfl) (hK _ hC))
        ·exact gd (wo ho (dg ho hf 4)) (st_index rfl 57 (.tmp 26) (.tmp 27) (oo ho) (ri 5 (da ho hf 5)) (ri 6 (da ho hf 6)) (index57 W go nO co at_ hat) (hK _ hC))
        ·exact gd (wo ho (dg ho hf 4)) (st_loadA rfl 26 (.tmp 28) (oo ho) (ri 7 (da ho hf 7)) y.cs (by kernel_rfl) (fun i2 v2 hv2 => (hC.cell (p := ⟨go, at_ * 12 + i2, none⟩) hgo).trans (hco i2 v2 hv2)) (hK _ hC))
        ·exact gd (wo ho (dg ho hf 4)) (st_move rfl (.tmp 0) (oo ho) (rd_out rfl rfl) (hK _ hC))
        ·exact gd (wo ho (dg ho hf 4)) (st_move rfl (.tmp 6) (oo ho) (rd_out rfl rfl) (hK _ hC))
        ·exact gd (wo ho (dg ho hf 4)) (st_index rfl 57 (.tmp 30) (.tmp 31) (oo ho) (ri 9 (da ho hf 9)) (ri 10 (da ho hf 10)) (index57 W g n c i hlt) (hK _ hC))
        ·exact gd (wo ho (dg ho hf 4)) (st_loadA rfl 26 (.tmp 32) (oo ho) (ri 11 (da ho hf 11)) x.cs (by kernel_rfl) (fun i2 v2 hv2 => (hC.cell (p := ⟨g, i * 12 + i2, none⟩) hg4).trans (hcx4 i2 v2 hv2)) (hK _ hC))
        ·exact gd (wo ho (dg ho hf 4)) (st_move rfl (.tmp 1) (oo ho) (rd_out rfl rfl) (hK _ hC))
        ·exact gd (wo ho (dg ho hf 4)) (st_call3 rfl 127 (.tmp 29) (.tmp 33) (.tmp 34) #[26, 26, 4] (oo ho) (ri 8 (da ho hf 8)) (ri 12 (da ho hf 12)) (ri 13 (da ho hf 13)) (fun _ _ => rfl) (hless W) (by (rintro u w9 ⟨h9, hb9⟩; injection h9 with h9; subst h9; exact hK _ (below_call hC hC.size hb9))) (fun _ _ h => nomatch h.1) (fun _ h => nomatch h.1))
        ·exact st_pickT (og ho) (.tmp 25) (.tmp 35) (.const (.bool false)) (oo ho) (ri 4 (da ho hf 4)) (ri 14 (da ho hf 14)) (hK _ hC)
        ·omega
       ·have hlss : decide ((at_ : Int) < nO) = false := by simpa using hat
        refine ⟨(fun i8 => match i8 with | 0 => .int .i64 (at_ : Nat) | 1 => .slice po nO co | 2 => .int .i64 (nO : Nat) | 3 => .bool false | 4 => .bool false | 15 => .bool false | _ => undef), rfl, ?_⟩
        intro i9 o9 f9 W ho hi hC hf K hK
        have hi : i9 < 16 := hi
        rcases i9 with _ | _ | _ | _ | _ | _ | _ | _ | _ | _ | _ | _ | _ | _ | _ | _ | i9
        ·exact st_move (og ho) (.tmp 7) (oo ho) (rd_out rfl rfl) (hK _ hC)
        ·exact st_move (og ho) (.tmp 5) (oo ho) (rd_out rfl rfl) (hK _ hC)
        ·exact st_len (og ho) (.tmp 22) 57 (oo ho) Tryz.underlying57 (ri 1 (da ho hf 1)) (hK _ hC)
        ·exact st_bin (og ho) .lss 3 3 (.tmp 21) (.tmp 23) (oo ho) (ri 0 (da ho hf 0)) (ri 2 (da ho hf 2)) (gu_i _ _ _ _ _ _ _ _) (bin_lssE hlss) (hK _ hC)
        ·exact st_move (og ho) (.tmp 24) (oo ho) (ri 3 (da ho hf 3)) (hK _ hC)
        iterate 10 exact skip_gd (uw ho (dg ho hf 4)) (hK _ hC)
        ·exact st_pickF (og ho) (.tmp 25) (.tmp 35) (.const (.bool false)) (oo ho) (ri 4 (da ho hf 4)) rfl (hK _ hC)
        ·omega
      case hend =>
       intro vals w5 h15 hb5
       simp only [putL, Act.put, List.setIfInBounds_toArray, List.set_cons_succ, List.set_cons_zero]
       rw [h15]
       generalize vals 0 = r0, vals 1 = r1, vals 2 = r2, vals 3 = r3, vals 4 = r4, vals 5 = r5, vals 6 = r6, vals 7 = r7, vals 8 = r8, vals 9 = r9, vals 10 = r10, vals 11 = r11, vals 12 = r12, vals 13 = r13, vals 14 = r14
       have hins := insAt_at (ordR all) x O at_ (by rw [← hnO.out]; exact hat4) hbef.out (by rw [← hnO.out]; exact hstop.out.imp id (fun h => by omega))
       rw [hst1.out.symm] at hins
       have hown5 := own_call hown4 hb5
       have hB5 := below_call hB4 hB4.size hb5
       have hg5 : g < w5.heap.size := Nat.lt_of_lt_of_le hg4 hb5.size
       have hcx5 : ∀ i2 v2, x.cs[i2]? = some v2 → w5.cell? ⟨g, i * 12 + i2, none⟩ = some v2 := fun i2 v2 hv2 => (hb5.cell (p := ⟨g, i * 12 + i2, none⟩) hg4).trans (hcx4 i2 v2 hv2)
       obtain ⟨u, hsl, hSu⟩ := sl_lo hown5 hnO.out hat4
       have hdl : (O.drop at_).length ≤ 10000000 := by rw [List.length_drop, ← hnO.out]; omega
       have htl : (O.take at_).length ≤ 10000000 := by rw [List.length_take, ← hnO.out]; omega
       obtain ⟨D, hD⟩ : ∃ D, D = O.drop at_ := ⟨_, rfl⟩
       rw [← hD] at hSu hdl hins
       replace hD := Lib.hid hD
       replace hins := Lib.hid hins
       clear hown4 hAo4 hB4 hcx4 hb5 hg4 h15 hst1
       go_wp2_with fail
       refine wp_region_relL (by kernel_rfl) (by kernel_rfl) [some 39, some 40, some 41, some 42, some 43, some 44, some 45, some 46, some 47, some 8] (by rfl) (by rfl) (soR w5 (fun i8 => match i8 with | 0 => .slice (some ⟨g, 0, none⟩) n c | 1 => .int .i64 (i : Nat) | 2 => .pointer (some ⟨g, i * 12, none⟩) | 3 => .agg x.cs.toArray | 5 => .slice po nO co | 6 => .int .i64 (at_ : Nat) | 7 => u | _ => undef) x D) (fun S S9 f9 W hS h => so_congr S S9 f9 W hS h) (fun f9 => ⟨(Below.refl _ _).drew, fun _ _ _ h => (by cases h), fun h => (by cases h), fun _ h => (by cases h), fun h => (by cases h), fun h => (by cases h)⟩) ?hstep ?hend
       case hstep =>
        intro S i9 o9 f9 W ho hi hSj hpre hcl hR K hK
        have hi : i9 < 10 := hi
        rcases i9 with _ | _ | _ | _ | _ | _ | _ | _ | _ | _ | i9
        ·exact st_move (og ho) (.tmp 0) (oo ho) (rd_out rfl rfl) (hK _ _ (so_val hR 0 (by omega) (by omega)))
        ·exact st_move (og ho) (.tmp 6) (oo ho) (rd_out rfl rfl) (hK _ _ (so_val hR 1 (by omega) (by omega)))
        ·exact st_index (og ho) 57 (.tmp 39) (.tmp 40) (oo ho) (ri 0 (hR.2.1 0 (by omega) (by omega) (da ho hpre 0))) (ri 1 (hR.2.1 1 (by omega) (by omega) (da ho hpre 1))) (index57 W g n c i hlt) (hK _ _ (so_val hR 2 (by omega) (by omega)))
        ·exact st_loadA (og ho) 26 (.tmp 41) (oo ho) (ri 2 (hR.2.1 2 (by omega) (by omega) (da ho hpre 2))) x.cs (by kernel_rfl) (fun i2 v2 hv2 => (hR.1.cell (p := ⟨g, i * 12 + i2, none⟩) hg5).trans (hcx5 i2 v2 hv2)) (hK _ _ (so_val hR 3 (by omega) (by omega)))
        ·exact st_buildSlice1 (og ho) 57 (.tmp 42) (oo ho) (ri 3 (hR.2.1 3 (by omega) (by omega) (da ho hpre 3))) (mkS x W) (hK _ _ (so_4 hR hSj))
        ·exact st_move (og ho) (.tmp 5) (oo ho) (rd_out rfl rfl) (hK _ _ (so_val hR 5 (by omega) (by omega)))
        ·exact st_move (og ho) (.tmp 7) (oo ho) (rd_out rfl rfl) (hK _ _ (so_val hR 6 (by omega) (by omega)))
        ·exact st_slice (og ho) 57 (.tmp 44) (some (.tmp 45)) none none (oo ho) (ri 5 (hR.2.1 5 (by omega) (by omega) (da ho hpre 5))) (l := some (.int .i64 (at_ : Nat))) (congrArg some (ri 6 (hR.2.1 6 (by omega) (by omega) (da ho hpre 6)))) rfl rfl (hsl W) (hK _ _ (so_val hR 7 (by omega) (by omega)))
        ·refine st_appendM (og ho) (.tmp 43) (.tmp 46) (oo ho) w5.heap.size i0 hi00 hz0 hz1 hz2 (ri 4 rfl) (hR.2.2.2.1 hSj (da ho hpre 4)) (ri 7 (hR.2.1 7 (by omega) (by omega) (da ho hpre 7))) (hSu.call hR.1) (by omega) hR.1.size ?_
         intro v' w' r1 r2 _
         exact hK _ _ (so_8 hR (da ho hpre 4) hSj r1 r2)
        ·exact st_assign (og ho) (.tmp 47) (oo ho) (ri 8 rfl) (hK _ _ (so_9 hR (da ho hpre 8)))
        ·omega
       case hend =>
        intro S f9 w6 hS hR
        obtain ⟨hb6, _, _, _, h8, h9⟩ := hR
        have hown8 := h8 (hS 8 (by decide))
        have h98 := (h9 (hS 9 (by decide))).2
        simp only [putL, Act.put, List.setIfInBounds_toArray, List.set_cons_succ, List.set_cons_zero]
        rw [h98]
        generalize f9 8 = v8 at hown8 ⊢
        generalize f9 0 = s0, f9 1 = s1, f9 2 = s2, f9 3 = s3, f9 4 = s4, f9 5 = s5, f9 6 = s6, f9 7 = s7
        have hown6 := own_call hown5 hb6
        have hB6 := below_call hB5 hB5.size hb6
        obtain ⟨u2, hsl2, hSu2⟩ := sl_hi hown6 hnO.out hat4
        have hS8 : SlM w6 v8 (x :: D) := own_slm (n := 1 + D.length) (by rw [mensV_cons]; simpa [mensV] using hown8) (by simp; omega)
        have hnil : w6.ownsRow w.heap.size 26 12 (.slice none 0 0) 0 [] := World.ownsRow_nil _ _ _ _
        clear h8 h9 h98 hS hown8 hown5 hB5 hcx5 hg5 hb6 hsl hSu
        go_wp2_with (first
         | (refine wpList_sliceM rfl (.tmp 48) (.tmp 49) rfl rfl rfl hsl2 ?_)
         | (at_builtin; refine wpList_appendM rfl (.const (.slice none 0 0)) (.tmp 50) rfl w.heap.size i0 hi00 hz0 hz1 hz2 rfl hnil rfl hSu2 (by omega) hB6.size ?_; intro v9 w9 hown9 hg9 _)
         | (at_builtin; refine wpList_appendM rfl (.tmp 51) (.tmp 52) rfl w.heap.size i0 hi00 hz0 hz1 hz2 rfl hown9 rfl (hS8.grown0 hg9) (by rw [List.length_cons]; omega) (Nat.le_trans hB6.size hg9.size) ?_; intro v10 w10 hown10 hg10 _) | fail)
        have hB9 := hB6.grown hg9 hB6.size (fun j e => by cases e)
        have hB10 := hB9.grown hg10 hB9.size (fun j e => (hown9.lt j e).1)
        have hfin : w10.ownsRow w.heap.size 26 12 v10 (srtD (ordR all) (L.take (i + 1))).length (mensV (srtD (ordR all) (L.take (i + 1)))) := by
         rw [hins.out, List.length_append, mensV_app, ← Nat.zero_add (O.take at_).length]
         exact hown10
        clear hown10 hown9 hg9 hg10 hB9 hB6 hS8 hSu2 hown6
        go_wp2_with fail
        go_roundg (gk1 - 1)
        case measure => omega
        case rel => exact ⟨i + 1, _, rfl, by omega, by omega, by go_num, hfin, hB10⟩
     ·have hat : at_ < nO := by omega
      have hd : ordR all (O[at_]?.getD zeroMen) x < 0 := by
       rcases Classical.em (ordR all (O[at_]?.getD zeroMen) x < 0) with h | h
       ·exact h
       ·exact absurd (Or.inr h) hstop
      have hbef1 : ∀ k, k < at_ + 1 → ordR all (O[k]?.getD zeroMen) x < 0 := by
       intro k hk
       rcases Nat.lt_or_ge k at_ with h | h
       ·exact hbef.out k h
       ·obtain rfl : k = at_ := by omega
        exact hd
      replace hbef1 := Lib.hid hbef1
      have hati : (at_ : Int) < nO := by omega
      have hlss : decide ((at_ : Int) < nO) = true := by simpa using hat
      have hatO : at_ < O.length := by rw [← hnO.out]; exact hat
      obtain ⟨go, rfl, hgo, hco⟩ := hAo4.at hatO
      obtain ⟨y, hy⟩ : ∃ y, y = O[at_]?.getD zeroMen := ⟨_, rfl⟩
      have hvy : validB y = true := hvO.out y (by rw [hy, List.getElem?_eq_getElem hatO]; exact List.getElem_mem _)
      rw [← hy] at hco hd
      have hless := fun W => less_any y x all W hvy hvx.out
      rw [show decide (ordR all y x < 0) = true by simpa using hd] at hless
      replace hy := Lib.hid hy
      replace hd := Lib.hid hd
      clear hstop hvy
      go_wp2_with fail
      refine wp_region_valsL (by kernel_rfl) (by kernel_rfl) [some 21, some 22, some 23, some 24, some 25, some 26, some 27, some 28, some 29, some 30, some 31, some 32, some 33, some 34, some 35, some 36] (by rfl) (by rfl) (fun i8 => match i8 with | 0 => .int .i64 (at_ : Nat) | 1 => .slice (some ⟨go, 0, none⟩) nO co | 2 => .int .i64 (nO : Nat) | 3 => .bool true | 4 => .bool true | 5 => .slice (some ⟨go, 0, none⟩) nO co | 6 => .int .i64 (at_ : Nat) | 7 => .pointer (some ⟨go, at_ * 12, none⟩) | 8 => .agg y.cs.toArray | 9 => .slice (some ⟨g, 0, none⟩) n c | 10 => .int .i64 (i : Nat) | 11 => .pointer (some ⟨g, i * 12, none⟩) | 12 => .agg x.cs.toArray | 13 => .bool all | 14 => .bool true | 15 => .bool true | _ => undef) (fun W => Below w4.heap.size w4 W) ((Below.refl _ _).drew) ?hstep ?hend
      case hstep =>
       intro i9 o9 f9 W ho hi hC hf K hK
       have hi : i9 < 16 := hi
       rcases i9 with _ | _ | _ | _ | _ | _ | _ | _ | _ | _ | _ | _ | _ | _ | _ | _ | i9
       ·exact st_move (og ho) (.tmp 7) (oo ho) (rd_out rfl rfl) (hK _ hC)
       ·exact st_move (og ho) (.tmp 5) (oo ho) (rd_out rfl rfl) (hK _ hC)
       ·exact st_len (og ho) (.tmp 22) 57 (oo ho) Tryz.underlying57 (ri 1 (da ho hf 1)) (hK _ hC)
       ·exact st_bin (og ho) .lss 3 3 (.tmp 21) (.tmp 23) (oo ho) (ri 0 (da ho hf 0)) (ri 2 (da ho hf 2)) (gu_i _ _ _ _ _ _ _ _) (bin_lssE hlss) (hK _ hC)
       ·exact st_move (og ho) (.tmp 24) (oo ho) (ri 3 (da ho hf 3)) (hK _ hC)
       ·exact gd (wo ho (dg ho hf 4)) (st_move rfl (.tmp 5) (oo ho) (rd_out rfl rfl) (hK _ hC))
       ·exact gd (wo ho (dg ho hf 4)) (st_move rfl (.tmp 7) (oo ho) (rd_out rfl rfl) (hK _ hC))
       ·exact gd (wo ho (dg ho hf 4)) (st_index rfl 57 (.tmp 26) (.tmp 27) (oo ho) (ri 5 (da ho hf 5)) (ri 6 (da ho hf 6)) (index57 W go nO co at_ hat) (hK _ hC))
       ·exact gd (wo ho (dg ho hf 4)) (st_loadA rfl 26 (.tmp 28) (oo ho) (ri 7 (da ho hf 7)) y.cs (by kernel_rfl) (fun i2 v2 hv2 => (hC.cell (p := ⟨go, at_ * 12 + i2, none⟩) hgo).trans (hco i2 v2 hv2)) (hK _ hC))
       ·exact gd (wo ho (dg ho hf 4)) (st_move rfl (.tmp 0) (oo ho) (rd_out rfl rfl) (hK _ hC))
       ·exact gd (wo ho (dg ho hf 4)) (st_move rfl (.tmp 6) (oo ho) (rd_out rfl rfl) (hK _ hC))
       ·exact gd (wo ho (dg ho hf 4)) (st_index rfl 57 (.tmp 30) (.tmp 31) (oo ho) (ri 9 (da ho hf 9)) (ri 10 (da ho hf 10)) (index57 W g n c i hlt) (hK _ hC))
       ·exact gd (wo ho (dg ho hf 4)) (st_loadA rfl 26 (.tmp 32) (oo ho) (ri 11 (da ho hf 11)) x.cs (by kernel_rfl) (fun i2 v2 hv2 => (hC.cell (p := ⟨g, i * 12 + i2, none⟩) hg4).trans (hcx4 i2 v2 hv2)) (hK _ hC))
       ·exact gd (wo ho (dg ho hf 4)) (st_move rfl (.tmp 1) (oo ho) (rd_out rfl rfl) (hK _ hC))
       ·exact gd (wo ho (dg ho hf 4)) (st_call3 rfl 127 (.tmp 29) (.tmp 33) (.tmp 34) #[26, 26, 4] (oo ho) (ri 8 (da ho hf 8)) (ri 12 (da ho hf 12)) (ri 13 (da ho hf 13)) (fun _ _ => rfl) (hless W) (by (rintro u w9 ⟨h9, hb9⟩; injection h9 with h9; subst h9; exact hK _ (below_call hC hC.size hb9))) (fun _ _ h => nomatch h.1) (fun _ h => nomatch h.1))
       ·exact st_pickT (og ho) (.tmp 25) (.tmp 35) (.const (.bool false)) (oo ho) (ri 4 (da ho hf 4)) (ri 14 (da ho hf 14)) (hK _ hC)
       ·omega
      case hend =>
       intro w5 hb5
       simp only [putL, Act.put, List.setIfInBounds_toArray, List.set_cons_succ, List.set_cons_zero]
       have hb6 := below_call hb4 hb4.size hb5
       clear hless hco hgo hcx4 hown4 hAo4 hB4 hb5
       go_wp2_with fail
       go_roundg (gk - 1)
       case measure => omega
       case rel => exact ⟨at_ + 1, _, rfl, by omega, hat, by go_num, hbef1, hb6⟩
   ·have hm : x ∈ O := by have := hb.out; simpa using this
    have hst1 := hst.out
    rw [if_pos hm] at hst1
    replace hst1 := Lib.hid hst1
    clear hst hAo3
    go_wp2_with fail
    go_roundg (gk - 1)
    case measure => omega
    case rel => exact ⟨i + 1, _, rfl, by omega, hlt, by go_num, by rw [hst1.out, ← hnO.out]; exact hown3, hB3⟩
  ·have hii : ¬ (i : Int) < n := by omega
   obtain rfl : i = n := by omega
   rw [hn.out, List.take_length] at hown
   go_wp2_with fail
   go_ret
   exact ⟨⟨_, rfl, hown⟩, hB⟩
def sideR (m : Men) (b : Bool) : List Men := fewC m b 5 ++ prC m b 4 ++ (prC m b 4).flatMap (fun x => fewC x (!b) 5)
def nextR (m : Men) : Nat → List Men
 | 0 => []
 | 1 => sideR m false
 | _ => sideR m false ++ sideR m true
theorem plyL_mem (m x : Men) : ∀ k, x ∈ plyL m k ↔ x ∈ tkL m ∨ ∃ i, 1 ≤ i ∧ i ≤ k ∧ (x = proM m i ∨ x ∈ tkL (proM m i)) := by
 intro k
 induction k with
 | zero =>
  show x ∈ tkL m ↔ _
  constructor
  ·exact .inl
  ·rintro (h | ⟨i, h1, h2, _⟩)
   ·exact h
   ·omega
 | succ k ih =>
  rw [plyL, List.mem_append, ih, List.mem_cons]
  constructor
  ·rintro ((h | ⟨i, h1, h2, h3⟩) | h)
   ·exact .inl h
   ·exact .inr ⟨i, h1, by omega, h3⟩
   ·exact .inr ⟨k + 1, by omega, by omega, h⟩
  ·rintro (h | ⟨i, h1, h2, h3⟩)
   ·exact .inl (.inl h)
   ·rcases (by omega : i ≤ k ∨ i = k + 1) with h | rfl
    ·exact .inl (.inr ⟨i, h1, h, h3⟩)
    ·exact .inr h3
theorem playedL_mem (m x : Men) : x ∈ playedL m ↔ x ∈ tkL m ∨ (0 < m.w0 ∧ ∃ i, 1 ≤ i ∧ i ≤ 4 ∧ (x = proM m i ∨ x ∈ tkL (proM m i))) := by
 unfold playedL
 split
 ·rename_i h
  rw [plyL_mem]
  simp only [h, true_and]
 ·rename_i h
  simp only [h, false_and, or_false]
theorem prC_mem (m : Men) (b : Bool) (x : Men) : ∀ k, x ∈ prC m b k ↔ 0 < pwC m b ∧ ∃ i, 1 ≤ i ∧ i ≤ k ∧ x = proC m b i := by
 intro k
 induction k with
 | zero =>
  constructor
  ·intro h; simp [prC] at h
  ·rintro ⟨_, i, h1, h2, _⟩; omega
 | succ k ih =>
  unfold prC
  by_cases h0 : 0 < pwC m b
  ·rw [if_pos h0, List.mem_append, ih, List.mem_singleton]
   constructor
   ·rintro (⟨_, i, h1, h2, h3⟩ | h)
    ·exact ⟨h0, i, h1, by omega, h3⟩
    ·exact ⟨h0, k + 1, by omega, by omega, h⟩
   ·rintro ⟨_, i, h1, h2, h3⟩
    rcases (by omega : i ≤ k ∨ i = k + 1) with h | rfl
    ·exact .inl ⟨h0, i, h1, h, h3⟩
    ·exact .inr h3
  ·rw [if_neg h0, ih]
   constructor
   ·rintro ⟨h, _⟩; exact absurd h h0
   ·rintro ⟨h, _⟩; exact absurd h h0
theorem sideR_mem (m : Men) (b : Bool) (x : Men) : x ∈ sideR m b ↔ x ∈ fewC m b 5 ∨ (0 < pwC m b ∧ ∃ i, 1 ≤ i ∧ i ≤ 4 ∧ (x = proC m b i ∨ x ∈ fewC (proC m b i) (!b) 5)) := by
 unfold sideR
 simp only [List.mem_append, List.mem_flatMap, prC_mem]
 constructor
 ·rintro ((h | ⟨h0, i, h1, h2, h3⟩) | ⟨y, ⟨h0, i, h1, h2, rfl⟩, h3⟩)
  ·exact .inl h
  ·exact .inr ⟨h0, i, h1, h2, .inl h3⟩
  ·exact .inr ⟨h0, i, h1, h2, .inr h3⟩
 ·rintro (h | ⟨h0, i, h1, h2, h3 | h3⟩)
  ·exact .inl (.inl h)
  ·exact .inl (.inr ⟨h0, i, h1, h2, h3⟩)
  ·exact .inr ⟨_, ⟨h0, i, h1, h2, rfl⟩, h3⟩
theorem flip_mem (L : List Men) (x : Men) : x ∈ L.map flipM ↔ flipM x ∈ L := by
 rw [List.mem_map]
 constructor
 ·rintro ⟨y, hy, rfl⟩; exact hy
 ·intro h; exact ⟨_, h, rfl⟩
theorem flip_eq (x y : Men) : flipM x = y ↔ x = flipM y := ⟨fun h => h ▸ rfl, fun h => h ▸ rfl⟩
theorem tk_flip (m x : Men) : flipM x ∈ tkL m ↔ x ∈ fewC (flipM m) false 5 := by
 show flipM x ∈ (fewL (flipM m) 5).map flipM ↔ x ∈ fewL (flipM m) 5
 rw [flip_mem]
 exact Iff.rfl
theorem nextR_mem (m x : Men) : x ∈ nextR m 2 ↔ x ∈ nextL m := by
 show x ∈ sideR m false ++ sideR m true ↔ _
 unfold nextL
 rw [List.mem_append, List.mem_append, flip_mem, playedL_mem, playedL_mem, sideR_mem, sideR_mem, tk_flip]
 simp only [flip_eq, tk_flip]
 show ((x ∈ fewC m false 5 ∨ 0 < m.w0 ∧ ∃ i, 1 ≤ i ∧ i ≤ 4 ∧ (x = proM m i ∨ x ∈ tkL (proM m i))) ∨ (x ∈ tkL m ∨ 0 < m.b0 ∧ ∃ i, 1 ≤ i ∧ i ≤ 4 ∧ (x = flipM (proM (flipM m) i) ∨ x ∈ fewC (flipM (proM (flipM m) i)) false 5))) ↔
  ((x ∈ tkL m ∨ 0 < m.w0 ∧ ∃ i, 1 ≤ i ∧ i ≤ 4 ∧ (x = proM m i ∨ x ∈ tkL (proM m i))) ∨ (x ∈ fewC m false 5 ∨ 0 < m.b0 ∧ ∃ i, 1 ≤ i ∧ i ≤ 4 ∧ (x = flipM (proM (flipM m) i) ∨ x ∈ fewC (flipM (proM (flipM m) i)) false 5)))
 constructor
 ·rintro ((h | h) | (h | h))
  ·exact .inr (.inl h)
  ·exact .inl (.inr h)
  ·exact .inl (.inl h)
  ·exact .inr (.inr h)
 ·rintro ((h | h) | (h | h))
  ·exact .inr (.inl h)
  ·exact .inl (.inr h)
  ·exact .inl (.inl h)
  ·exact .inr (.inr h)
theorem nextR_ok {m : Men} (h : vN m) : ∀ x ∈ nextR m 2, validB x = true := fun x hx => (vN_iff x).2 (nextL_ok h x ((nextR_mem m x).1 hx)).1
theorem nextR_srt {m : Men} (h : vN m) : srtD (ordR false) (nextR m 2) = nxtS m := (srtD_by ord_cmpT cmpT_he _ (nextR_ok h)).uniq ord_cmpT (nxtS_by h) (nextR_mem m)
theorem prC_ok {m : Men} (h : vN m) (b : Bool) : ∀ x ∈ prC m b 4, vN x := by
 intro x hx
 have hs : x ∈ sideR m b := by unfold sideR; exact List.mem_append_left _ (List.mem_append_right _ hx)
 have h2 : x ∈ nextR m 2 := by
  cases b
  ·exact List.mem_append_left _ hs
  ·exact List.mem_append_right _ hs
 exact (nextL_ok h x ((nextR_mem m x).1 h2)).1
end Go.Proofs.YtnpomigmeieofaaGreatDoor
