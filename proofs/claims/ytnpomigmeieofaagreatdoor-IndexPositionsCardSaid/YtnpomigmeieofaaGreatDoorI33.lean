import Derived.Test.YtnpomigmeieofaaGreatDoorI32
import Derived.Maps.OwnOps
import Derived.DeepKeys4
namespace Go.Proofs.YtnpomigmeieofaaGreatDoor
open Go.RowKit
open Go.Maps (Keyed)

theorem Tryz.laidOut : laidOutB Tryz.prog = true := by kernel_rfl
theorem Tryz.row26 : (26 : TypeId) < Tryz.prog.types.size := of_decide_eq_true (by kernel_rfl)
theorem Tryz.wide26 : (match Tryz.prog.underlying 26 with | some (.array _ _) | some (.struct _) => true | _ => false) = true := by rw [Tryz.underlying26]
set_option maxRecDepth 100000 in
theorem Tryz.law26 : Keyed Tryz.prog 26 := Go.Maps.Keyed.of_law (deep_law_laid Tryz.laidOut (m := 3) (by omega) Tryz.row26 (by kernel_rfl) Tryz.wide26)
noncomputable def menK (m : Men) : Lit := (keyOf Tryz.prog 26 (.agg m.cs.toArray)).getD (.bool false)
theorem keyOf_some {m : Men} (h : (keyOf Tryz.prog 26 (.agg m.cs.toArray)).isSome = true) : keyOf Tryz.prog 26 (.agg m.cs.toArray) = some (menK m) := by
 unfold menK
 obtain ⟨v, hv⟩ := Option.isSome_iff_exists.1 h
 rw [hv]; rfl
attribute [irreducible] menK
theorem Tryz.zero4 (w : World) : (zeroValue 4).run Tryz.prog w = .ok (.bool false) w := by kernel_rfl
abbrev OwnB (W : World) (b n : Nat) (D : DataW Unit) : Prop := W.ownsMap Tryz.prog 26 (plainElem Tryz.prog 4) b n D
theorem OwnB.call {W W' : World} {b n : Nat} {D : DataW Unit} (h : OwnB W b n D) (hb : Below W.heap.size W W') : OwnB W' b n D := by
 have hlt := h.lt
 obtain ⟨es, clock, hbl, F, hs, hD⟩ := h
 exact ⟨es, clock, (hb.block b hlt).trans hbl, F, hs, hD⟩
theorem plainElem_bool_inv {P : Program} {e : TypeId} (he : P.underlying e = some .bool) {v : Value} {y : DataW Unit × List MemPlace} (h : plainElem (H := Unit) P e v = some y) : ∃ c, v = .bool c ∧ y = (.lit (.bool c), []) := by
 unfold plainElem at h
 rw [he] at h
 cases v <;> simp at h
 exact ⟨_, rfl, h.symm⟩
theorem lit_bool {c c' : Bool} (h : DataW.lit (H := Unit) (.bool c) = .lit (.bool c')) : c = c' := by
 injection h with h; injection h with h
theorem ownB_lookup {W : World} {b n : Nat} {D : DataW Unit} (h : OwnB W b n D) {m : Men} (hk : (keyOf Tryz.prog 26 (.agg m.cs.toArray)).isSome = true) {c : Bool} (hc : D.atKey (menK m) (.lit (.bool false)) = .lit (.bool c)) :
  (Instr.lookup 109 (.map (some b)) (.agg m.cs.toArray) false).run Tryz.prog W = .ok (.bool c) W := by
 obtain ⟨v, ps, hrun, hv⟩ := World.ownsMap.lookup h Tryz.law26 Tryz.underlying109 (Tryz.zero4 W) (plainElem_bool Tryz.underlying4 false) (keyOf_some hk)
 obtain ⟨c', rfl, hy⟩ := plainElem_bool_inv Tryz.underlying4 hv
 have h1 : DataW.lit (H := Unit) (.bool c) = .lit (.bool c') := hc.symm.trans (congrArg Prod.fst hy)
 rw [hrun, lit_bool h1]
theorem ownB_update {W : World} {b n : Nat} {D : DataW Unit} (h : OwnB W b n D) (hn : n < maxLen) {m : Men} (hk : (keyOf Tryz.prog 26 (.agg m.cs.toArray)).isSome = true) :
  ∃ w', (Instr.mapUpdate 109 (.map (some b)) (.agg m.cs.toArray) (.bool true)).run Tryz.prog W = .ok () w' ∧ OwnB w' b (n + 1) (D.put (menK m) (.lit (.bool true))) ∧ W.grownBy w' (some b) :=
 World.ownsMap.update h Tryz.law26 Tryz.underlying109 hn (keyOf_some hk) (plainElem_bool Tryz.underlying4 true)
section ops
variable {P : Program} {o : Oper} {a : Act} {w : World} {K : Act → World → Prop} {Q : Exit → Act → World → Prop} {t : Nat → Option Bool} {X : Prop}
theorem st_insert (hg : o.guard = none) (ty : TypeId) (m x v : Operand) (ho : o.op = .insert ty m x v) {v1 v2 v3 : Value} {w' : World} (h1 : a.eval m = v1) (h2 : a.eval x = v2) (h3 : a.eval v = v3) (hr : (Instr.mapUpdate ty v1 v2 v3).run P w = .ok () w') (h : K (a.put o.dst undef) w') : if Region.wanted o t = true then o.wp P a w K Q else X := by
 refine st_wp hg ?_
 unfold Oper.wp
 simp [execOp, ho, h1, h2, h3, hr, Result.andThen]
 exact h
theorem st_makeMap (hg : o.guard = none) (ty : TypeId) (ho : o.op = .makeMap ty none) {v : Value} {w' : World} (hr : (Instr.makeMap ty none).run P w = .ok v w') (h : K (a.put o.dst v) w') : if Region.wanted o t = true then o.wp P a w K Q else X := by
 refine st_wp hg ?_
 unfold Oper.wp
 simp [execOp, ho, hr, Result.andThen]
 exact h
end ops
def clR (w1 : World) (m : Men) (S : Nat → Bool) (f : Nat → Value) (W : World) : Prop :=
 Below w1.heap.size w1 W ∧ (S 0 = true → f 0 = .agg m.cs.toArray) ∧ (S 1 = true → ∃ g, f 1 = .slice (some ⟨g, 0, none⟩) 1 1 ∧ w1.heap.size ≤ g ∧ HasO W g (.cells m.cs.toArray 26 (0, 0))) ∧
 (S 2 = true → ∃ b, f 2 = .map (some b) ∧ w1.heap.size ≤ b ∧ OwnB W b (if S 4 then 1 else 0) (if S 4 then (DataW.map []).put (menK m) (.lit (.bool true)) else .map [])) ∧
 (S 3 = true → f 3 = .agg m.cs.toArray) ∧ (S 4 = true → S 2 = true) ∧ (S 5 = true → S 2 = true ∧ f 5 = f 2) ∧ (S 6 = true → S 1 = true ∧ f 6 = f 1) ∧ (S 7 = true → S 5 = true ∧ f 7 = f 5)
section
variable {w1 W : World} {m : Men} {S : Nat → Bool} {f : Nat → Value}
theorem cl_congr (S S' : Nat → Bool) (f : Nat → Value) (W : World) (hS : ∀ i, i < 8 → S i = S' i) (h : clR w1 m S f W) : clR w1 m S' f W := by
 unfold clR at *
 rw [← hS 0 (by omega), ← hS 1 (by omega), ← hS 2 (by omega), ← hS 3 (by omega), ← hS 4 (by omega), ← hS 5 (by omega), ← hS 6 (by omega), ← hS 7 (by omega)]
 exact h
theorem cl_init (f : Nat → Value) : clR w1 m (fun _ => false) f w1.drew :=
 ⟨(Below.refl _ _).drew, fun h => (by cases h), fun h => (by cases h), fun h => (by cases h), fun h => (by cases h), fun h => (by cases h), fun h => (by cases h), fun h => (by cases h), fun h => (by cases h)⟩
theorem cl_0 (h : clR w1 m S f W) : clR w1 m (upd S 0) (fun j => if j = 0 then .agg m.cs.toArray else f j) W := by
 obtain ⟨hC, h0, h1, h2, h3, h4, h5, h6, h7⟩ := h
 exact ⟨hC, by simp, by simpa [upd] using h1, by simpa [upd] using h2, by simpa [upd] using h3, by simpa [upd] using h4, by simpa [upd] using h5, by simpa [upd] using h6, by simpa [upd] using h7⟩
theorem cl_3 (h : clR w1 m S f W) : clR w1 m (upd S 3) (fun j => if j = 3 then .agg m.cs.toArray else f j) W := by
 obtain ⟨hC, h0, h1, h2, h3, h4, h5, h6, h7⟩ := h
 exact ⟨hC, by simpa [upd] using h0, by simpa [upd] using h1, by simpa [upd] using h2, by simp, by simpa [upd] using h4, by simpa [upd] using h5, by simpa [upd] using h6, by simpa [upd] using h7⟩
theorem cl_1 (h : clR w1 m S f W) (hS : S 1 = false) : clR w1 m (upd S 1) (fun j => if j = 1 then .slice (some ⟨W.heap.size, 0, none⟩) 1 1 else f j) (W.alloc (.cells m.cs.toArray 26)) := by
 obtain ⟨hC, h0, h1, h2, h3, h4, h5, h6, h7⟩ := h
 have hS6 : S 6 = false := by
  rcases h : S 6 with _ | _
  ·rfl
  ·rw [(h6 h).1] at hS; cases hS
 have hb := below_box W (.cells m.cs.toArray 26)
 refine ⟨below_call hC hC.size hb, by simpa [upd] using h0, fun _ => ⟨_, by simp, hC.size, HasO.new _ _⟩, ?_, by simpa [upd] using h3, by simpa [upd] using h4, by simpa [upd] using h5, by simp [upd, hS6], by simpa [upd] using h7⟩
 intro hs
 obtain ⟨b, e, hl, ho⟩ := h2 (by simpa [upd] using hs)
 exact ⟨b, by simpa using e, hl, by simpa [upd] using ho.call hb⟩
theorem cl_2 (h : clR w1 m S f W) (hS : S 2 = false) : clR w1 m (upd S 2) (fun j => if j = 2 then .map (some W.heap.size) else f j) (W.alloc (.map #[] 0)) := by
 obtain ⟨hC, h0, h1, h2, h3, h4, h5, h6, h7⟩ := h
 have hS4 : S 4 = false := by
  rcases h : S 4 with _ | _
  ·rfl
  ·rw [h4 h] at hS; cases hS
 have hS5 : S 5 = false := by
  rcases h : S 5 with _ | _
  ·rfl
  ·rw [(h5 h).1] at hS; cases hS
 have hb := below_box W (.map #[] 0)
 refine ⟨below_call hC hC.size hb, by simpa [upd] using h0, ?_, fun _ => ⟨_, by simp, hC.size, by simp [upd, hS4]; exact World.ownsMap_made (H := Unit) W Tryz.prog 26 (plainElem Tryz.prog 4)⟩, by simpa [upd] using h3, by simp [upd, hS4], by simp [upd, hS5], by simpa [upd] using h6, by simpa [upd] using h7⟩
 intro hs
 obtain ⟨g, e, hl, ho⟩ := h1 (by simpa [upd] using hs)
 exact ⟨g, by simpa using e, hl, ho.call hb⟩
theorem cl_4 (h : clR w1 m S f W) (hS : S 4 = false) (hS2 : S 2 = true) (hk : (keyOf Tryz.prog 26 (.agg m.cs.toArray)).isSome = true) :
  ∃ W', (Instr.mapUpdate 109 (f 2) (.agg m.cs.toArray) (.bool true)).run Tryz.prog W = .ok () W' ∧ clR w1 m (upd S 4) (fun j => if j = 4 then undef else f j) W' := by
 obtain ⟨hC, h0, h1, h2, h3, h4, h5, h6, h7⟩ := h
 obtain ⟨b, e, hl, ho⟩ := h2 hS2
 rw [hS] at ho
 simp only [Bool.false_eq_true, if_false] at ho
 obtain ⟨W', hrun, ho', hg⟩ := ownB_update ho (by unfold maxLen; omega) hk
 refine ⟨W', by rw [e]; exact hrun, hC.grown hg hC.size (fun j hj => by cases hj; exact hl), by simpa [upd] using h0, ?_, ?_, by simpa [upd] using h3, by simp [upd, hS2], by simpa [upd] using h5, by simpa [upd] using h6, by simpa [upd] using h7⟩
 ·intro hs
  obtain ⟨g, eg, hlg, hog⟩ := h1 (by simpa [upd] using hs)
  refine ⟨g, by simpa using eg, hlg, ?_⟩
  have hne : g ≠ b := by
   rintro rfl
   obtain ⟨es, clock, hbl, _⟩ := ho
   have h9 : W.heap[g]? = _ := hog
   rw [hbl] at h9; cases h9
  exact hog.grown hg (by intro h; injection h with h; exact hne h.symm)
 ·intro _
  exact ⟨b, by simpa using e, hl, by simpa [upd] using ho'⟩
theorem cl_5 (h : clR w1 m S f W) (hS : S 5 = false) (hS2 : S 2 = true) : clR w1 m (upd S 5) (fun j => if j = 5 then f 2 else f j) W := by
 obtain ⟨hC, h0, h1, h2, h3, h4, h5, h6, h7⟩ := h
 have hS7 : S 7 = false := by
  rcases h : S 7 with _ | _
  ·rfl
  ·rw [(h7 h).1] at hS; cases hS
 exact ⟨hC, by simpa [upd] using h0, by simpa [upd] using h1, by simpa [upd] using h2, by simpa [upd] using h3, by simpa [upd] using h4, by simp [upd, hS2], by simpa [upd] using h6, by simp [upd, hS7]⟩
theorem cl_6 (h : clR w1 m S f W) (hS1 : S 1 = true) : clR w1 m (upd S 6) (fun j => if j = 6 then f 1 else f j) W := by
 obtain ⟨hC, h0, h1, h2, h3, h4, h5, h6, h7⟩ := h
 exact ⟨hC, by simpa [upd] using h0, by simpa [upd] using h1, by simpa [upd] using h2, by simpa [upd] using h3, by simpa [upd] using h4, by simpa [upd] using h5, by simp [upd, hS1], by simpa [upd] using h7⟩
theorem cl_7 (h : clR w1 m S f W) (hS5 : S 5 = true) : clR w1 m (upd S 7) (fun j => if j = 7 then f 5 else f j) W := by
 obtain ⟨hC, h0, h1, h2, h3, h4, h5, h6, h7⟩ := h
 exact ⟨hC, by simpa [upd] using h0, by simpa [upd] using h1, by simpa [upd] using h2, by simpa [upd] using h3, by simpa [upd] using h4, by simpa [upd] using h5, by simpa [upd] using h6, by simp [upd, hS5]⟩
end
end Go.Proofs.YtnpomigmeieofaaGreatDoor
namespace Go.Proofs.YtnpomigmeieofaaGreatDoor
open Go.RowKit

def NextOk (m : Men) : Prop := mB m 50 ∧ (nextL m).length ≤ 12 ∧ (∀ x ∈ nextL m, validB x = true) ∧ apart (nextS m)
theorem nextOk_any (m : Men) (h : NextOk m) (w : World) :
  Calls Tryz.prog 68 #[.agg m.cs.toArray] w fun e w' => (∃ v, e = .returned v ∧ w'.ownsRow (w.heap.size + 1) 26 12 v (nextS m).length (mensV (nextS m))) ∧ Below w.heap.size w w' := next_any m h.1 h.2.1 h.2.2.1 h.2.2.2 w
set_option maxRecDepth 100000 in
set_option maxHeartbeats 1600000 in
theorem Next_any (m : Men) (hv : validB m = true) (h : NextOk m) (w : World) :
  Calls Tryz.prog 25 #[.agg m.cs.toArray] w fun e w' => (∃ v, e = .returned (.tuple #[v, .int .i64 0]) ∧ w'.ownsRow w.heap.size 26 12 v (nextS m).length (mensV (nextS m))) ∧ Below w.heap.size w w' := by
 have hM := HasO.new w (.cells m.cs.toArray 26)
 have hB := below_box w (.cells m.cs.toArray 26)
 have hva := fun W => valid_any m W
 rw [hv] at hva
 have hne := fun W => nextOk_any m h W
 go_enter Tryz.func25, Tryz.ntmps25
 go_upto_region 1 with fail
 show Code.wp _ _ _ _ (w.alloc (.cells m.cs.toArray 26))
 generalize w.alloc (.cells m.cs.toArray 26) = w1 at *
 go_wp2_with (first | (refine wpList_loadO rfl 26 (.tmp 1) rfl w.heap.size _ 26 rfl hM (by kernel_rfl) ?_) | fail)
 refine (hva w1).mono ?_
 rintro e w2 ⟨rfl, hb2⟩
 have hM2 := hM.call hb2
 have hB2 := below_call hB hB.size hb2
 clear hM hB hb2 hva
 go_wp2_with (first | (refine wpList_loadO rfl 26 (.tmp 1) rfl w.heap.size _ 26 rfl hM2 (by kernel_rfl) ?_) | fail)
 refine (hne w2).mono ?_
 rintro e w3 ⟨⟨v, rfl, hown⟩, hb3⟩
 have hB3 := below_call hB2 hB2.size hb3
 have hown3 := own_mono hown (show w.heap.size ≤ w2.heap.size + 1 by have := hB2.size; omega)
 go_wp2_with fail
 exact bodyPost_ret (results_tmp2 rfl _ _ _) rfl ⟨⟨_, rfl, hown3⟩, hB3⟩
theorem mk109 (W : World) : (Instr.makeMap 109 none).run Tryz.prog W = .ok (.map (some W.heap.size)) (W.alloc (.map #[] 0)) := by kernel_rfl
theorem own_new1 {W : World} {g base : Nat} {m : Men} (h : HasO W g (.cells m.cs.toArray 26 (0, 0))) (hb : base ≤ g) : W.ownsRow base 26 12 (.slice (some ⟨g, 0, none⟩) 1 1) 1 (mensV [m]) :=
 ⟨rfl, .inr ⟨g, 1, m.cs.toArray, rfl, hb, h, by omega, by unfold maxLen; omega, rfl, rfl⟩⟩
theorem wpList_lookB {ops : Array Oper} {rest : List Oper} {o : Oper} {a : Act} {Q : Exit → Act → World → Prop} {w : World} (hg : o.guard = none) (m x : Operand) (hop : o.op = Op.lookup 109 m x false)
  (b n : Nat) (D : DataW Unit) (hm : a.eval m = .map (some b)) (hown : OwnB w b n D) (k : Men) (hx : a.eval x = .agg k.cs.toArray) (hk : (keyOf Tryz.prog 26 (.agg k.cs.toArray)).isSome = true) (c : Bool) (hc : D.atKey (menK k) (.lit (.bool false)) = .lit (.bool c))
  (hK : wpList Tryz.prog ops Q rest (a.put o.dst (.bool c)) w) : wpList Tryz.prog ops Q (o :: rest) a w := by
 refine wpList_plain hg fun K' hK' => ?_
 have hrun := ownB_lookup hown hk hc
 unfold Oper.wp
 simp [execOp, hop, hm, hx, hrun, Result.andThen]
 exact hK' _ _ hK
theorem wpList_updB {ops : Array Oper} {rest : List Oper} {o : Oper} {a : Act} {Q : Exit → Act → World → Prop} {w : World} (hg : o.guard = none) (m x v : Operand) (hop : o.op = Op.mapUpdate 109 m x v)
  (b n : Nat) (D : DataW Unit) (hm : a.eval m = .map (some b)) (hown : OwnB w b n D) (hn : n < maxLen) (k : Men) (hx : a.eval x = .agg k.cs.toArray) (hv : a.eval v = .bool true) (hk : (keyOf Tryz.prog 26 (.agg k.cs.toArray)).isSome = true)
  (hK : ∀ w', OwnB w' b (n + 1) (D.put (menK k) (.lit (.bool true))) → w.grownBy w' (some b) → wpList Tryz.prog ops Q rest (a.put o.dst undef) w') : wpList Tryz.prog ops Q (o :: rest) a w := by
 refine wpList_plain hg fun K' hK' => ?_
 obtain ⟨w', hrun, r1, r2⟩ := ownB_update hown hn hk
 unfold Oper.wp
 simp [execOp, hop, hm, hx, hv, hrun, Result.andThen]
 exact hK' _ _ (hK w' r1 r2)
def cL (m k : Men) (j : Nat) : List Men := if j = 0 then [m] else [m, k]
noncomputable def cD (m k : Men) (j : Nat) : DataW Unit := if j = 0 then (DataW.map []).put (menK m) (.lit (.bool true)) else ((DataW.map []).put (menK m) (.lit (.bool true))).put (menK k) (.lit (.bool true))
set_option maxRecDepth 100000 in
set_option maxHeartbeats 6400000 in
theorem closure2_any (m k : Men) (hv : validB m = true) (hvk : validB k = true) (hm : NextOk m) (hk : NextOk k) (hnm : nextS m = [k]) (hnk : nextS k = [])
  (hkm : (keyOf Tryz.prog 26 (.agg m.cs.toArray)).isSome = true) (hkk : (keyOf Tryz.prog 26 (.agg k.cs.toArray)).isSome = true)
  (hat : (cD m k 0).atKey (menK k) (.lit (.bool false)) = .lit (.bool false)) (w : World) :
  Calls Tryz.prog 26 #[.agg m.cs.toArray] w fun e w' => (∃ v, e = .returned (.tuple #[v, .int .i64 0]) ∧ w'.ownsRow w.heap.size 26 12 v 2 (mensV (insS (ltc cmpC) [m, k] 1))) ∧ Below w.heap.size w w' := by
 obtain ⟨i0, hi00, hz0, hz1, hz2⟩ := info_parts info26
 have hM := HasO.new w (.cells m.cs.toArray 26)
 have hB := below_box w (.cells m.cs.toArray 26)
 have hva := fun W => valid_any m W
 rw [hv] at hva
 have hnem := fun W => nextOk_any m hm W
 have hnek := fun W => nextOk_any k hk W
 rw [hnm] at hnem
 rw [hnk] at hnek
 have hsort := fun v W h => sortFunc_any 70 cmpC _ cmpClo_ok w.heap.size 2 v [m, k] rfl (by decide) (by intro x hx; simp at hx; rcases hx with rfl | rfl; exact hv; exact hvk) W h
 clear hm hk hnm hnk
 replace hkm := Lib.hid hkm
 replace hkk := Lib.hid hkk
 replace hat := Lib.hid hat
 replace hv := Lib.hid hv
 replace hvk := Lib.hid hvk
 go_enter Tryz.func26, Tryz.ntmps26
 go_upto_region 1 with fail
 show Code.wp _ _ _ _ (w.alloc (.cells m.cs.toArray 26))
 have hs1 : w.heap.size < (w.alloc (.cells m.cs.toArray 26)).heap.size := by simp
 generalize w.alloc (.cells m.cs.toArray 26) = w1 at *
 go_wp2_with (first | (refine wpList_loadO rfl 26 (.tmp 1) rfl w.heap.size _ 26 rfl hM (by kernel_rfl) ?_) | fail)
 refine (hva w1).mono ?_
 rintro e w2 ⟨rfl, hb2⟩
 have hM2 := hM.call hb2
 have hB2 := below_call hB hB.size hb2
 have hs2 := hb2.size
 clear hM hB hb2 hva
 go_wp2_with fail
 refine wp_region_relL (by kernel_rfl) (by kernel_rfl) [some 12, some 13, some 14, some 15, none, some 16, some 4, some 5] (by rfl) (by rfl) (clR w2 m) (fun S S9 f9 W hS h => cl_congr S S9 f9 W hS h) (fun f9 => cl_init f9) ?hstep ?hend
 case hstep =>
  intro S i9 o9 f9 W ho hi hSj hpre hcl hR K hK
  replace hkm := hkm.out
  have hi : i9 < 8 := hi
  rcases (by omega : i9 = 0 ∨ i9 = 1 ∨ i9 = 2 ∨ i9 = 3 ∨ i9 = 4 ∨ i9 = 5 ∨ i9 = 6 ∨ i9 = 7) with rfl | rfl | rfl | rfl | rfl | rfl | rfl | rfl
  ·exact st_loadA (og ho rfl) 26 (.tmp 1) (oo ho rfl) (rd_out rfl rfl) m.cs (by kernel_rfl) (fun j v hv => by rw [Nat.zero_add, (hM2.call hR.1).cells j]; simpa using hv) (hK _ _ (cl_0 hR))
  ·exact st_buildSlice1 (og ho rfl) 57 (.tmp 12) (oo ho rfl) (ri 0 (hR.2.1 (hpre ⟨0, .data⟩ (oa ho rfl) rfl))) (mkS m W) (hK _ _ (cl_1 hR hSj))
  ·exact st_makeMap (og ho rfl) 109 (oo ho rfl) (mk109 W) (hK _ _ (cl_2 hR hSj))
  ·exact st_loadA (og ho rfl) 26 (.tmp 1) (oo ho rfl) (rd_out rfl rfl) m.cs (by kernel_rfl) (fun j v hv => by rw [Nat.zero_add, (hM2.call hR.1).cells j]; simpa using hv) (hK _ _ (cl_3 hR))
  ·obtain ⟨W', hrun, hR'⟩ := cl_4 hR hSj (hpre ⟨2, .data⟩ (oa ho rfl) rfl) hkm
   exact st_insert (og ho rfl) 109 (.tmp 14) (.tmp 15) (.const (.bool true)) (oo ho rfl) (ri 2 rfl) (ri 3 (hR.2.2.2.2.1 (hpre ⟨3, .data⟩ (oa ho rfl) rfl))) rfl hrun (hK _ _ hR')
  ·exact st_move (og ho rfl) (.tmp 14) (oo ho rfl) (ri 2 rfl) (hK _ _ (cl_5 hR hSj (hpre ⟨2, .data⟩ (oa ho rfl) rfl)))
  ·exact st_assign (og ho rfl) (.tmp 13) (oo ho rfl) (ri 1 rfl) (hK _ _ (cl_6 hR (hpre ⟨1, .data⟩ (oa ho rfl) rfl)))
  ·exact st_assign (og ho rfl) (.tmp 16) (oo ho rfl) (ri 5 rfl) (hK _ _ (cl_7 hR (hpre ⟨5, .data⟩ (oa ho rfl) rfl)))
 case hend =>
  intro S f9 W hS hR
  obtain ⟨hC, _, h1, h2, _, _, h5, h6, h7⟩ := hR
  obtain ⟨g, e1, hgl, hG⟩ := h1 (hS 1 (by decide))
  obtain ⟨b, e2, hbl, hmap⟩ := h2 (hS 2 (by decide))
  replace h5 := (h5 (hS 5 (by decide))).2
  replace h6 := (h6 (hS 6 (by decide))).2
  replace h7 := (h7 (hS 7 (by decide))).2
  rw [hS 4 (by decide)] at hmap
  have hmap0 : OwnB W b 1 (cD m k 0) := hmap
  have hB3 := below_call hB2 hB2.size hC
  have hgb : g ≠ b := by
   rintro rfl
   obtain ⟨es, clock, hbl, _⟩ := hmap0
   have h9 : W.heap[g]? = _ := hG
   rw [hbl] at h9; cases h9
  have hown := own_new1 hG (show w.heap.size ≤ g by omega)
  have hlg := hG.lt
  have hlb := hmap0.lt
  simp only [putL, Act.put, List.setIfInBounds_toArray, List.set_cons_succ, List.set_cons_zero]
  rw [h7, h5, h6, e1, e2]
  generalize f9 0 = u0, f9 3 = u3, f9 4 = u4
  have hs3 : w.heap.size ≤ b ∧ w.heap.size < W.heap.size := by omega
  have hnb : (Value.slice (some ⟨g, 0, none⟩) 1 1).ownBlock ≠ some b := by
   intro h; injection h with h; exact hgb h
  clear h1 h2 h5 h6 h7 e1 e2 hmap hS hC hG hB2 hM2 hgl hbl hs1 hs2 hgb hlg hlb
  generalize W = w3 at *
  go_wp2_with fail
  go_loopg [4, 6] 3 (fun q lv iv wr => ∃ j : Nat, ∃ wz, wz = wr ∧ q + j = 3 ∧ j ≤ 2 ∧ iv = .int .i64 (j : Nat) ∧ wr.ownsRow w.heap.size 26 12 lv (cL m k j).length (mensV (cL m k j)) ∧ OwnB wr b (j + 1) (cD m k j) ∧ Below w.heap.size w wr ∧ w.heap.size < wr.heap.size ∧ lv.ownBlock ≠ some b)
  case atStart => exact ⟨0, _, rfl, rfl, by omega, rfl, hown, hmap0, hB3, hs3.2, hnb⟩
  case round =>
   clear hown hmap0 hB3 hnb
   have hs3 := hs3.1
   obtain ⟨j, w4, rfl, hq, hj, rfl, hown, hmap, hB4, hs4, hnb⟩ := hrel
   by_cases hj2 : j < (cL m k j).length
   ·have hjj : (j : Int) < (cL m k j).length := by omega
    have hjl : j < 2 := by
     rcases (by omega : j < 2 ∨ j = 2) with h | rfl
     ·exact h
     ·exact absurd hj2 (Nat.lt_irrefl 2)
    obtain ⟨x, hx⟩ : ∃ x, x = (cL m k j)[j]?.getD zeroMen := ⟨_, rfl⟩
    obtain ⟨N, hN⟩ : ∃ N, N = if j = 0 then [k] else ([] : List Men) := ⟨_, rfl⟩
    have hnex : ∀ W, Calls Tryz.prog 68 #[.agg x.cs.toArray] W fun e w' => (∃ v, e = .returned v ∧ w'.ownsRow (W.heap.size + 1) 26 12 v N.length (mensV N)) ∧ Below W.heap.size W w' := by
     rcases (by omega : j = 0 ∨ j = 1) with rfl | rfl
     ·rw [hx, hN]; exact hnem
     ·rw [hx, hN]; exact hnek
    obtain ⟨p, cp, rfl, hArr⟩ := own_marr hown
    obtain ⟨g, rfl, hgl, hc⟩ := hArr.at hj2
    rw [← hx] at hc
    obtain ⟨L, hL⟩ : ∃ L, L = cL m k j := ⟨_, rfl⟩
    rw [← hL] at hown hjj hj2 ⊢
    clear hArr hnem hnek
    replace hx := Lib.hid hx
    replace hN := Lib.hid hN
    replace hL := Lib.hid hL
    go_wp2_with (first | (refine wpList_loadA rfl 26 (.tmp 25) rfl rfl x.cs (by kernel_rfl) hc ?_) | fail)
    refine (hnex w4).mono ?_
    rintro e w5 ⟨⟨v2, rfl, hown2⟩, hb5⟩
    have hown5 := own_call hown hb5
    have hmap5 := hmap.call hb5
    have hB5 := below_call hB4 hB4.size hb5
    have hs5 := Nat.lt_of_lt_of_le hs4 hb5.size
    have hbl4 := hmap.lt
    have hv2 : ∀ g', v2.ownBlock = some g' → b < g' ∧ g < g' := fun g' e => by have := (hown2.lt g' e).1; omega
    obtain ⟨p2, c2, rfl, hArr2⟩ := own_marr hown2
    have hp2 : ∀ g', p2 = some ⟨g', 0, none⟩ → b < g' ∧ g < g' := fun g' e => hv2 g' (by rw [e]; rfl)
    have hNl : N.length ≤ 1 := by rw [hN.out]; split <;> simp
    clear hown hmap hB4 hb5 hown2 hv2 hnex hc hs4 hgl
    go_wp2_with fail
    obtain ⟨gk1, hg1⟩ : ∃ x, x = gk := ⟨_, rfl⟩
    subst hg1
    go_loopg [4, 29] 2 (fun q lv iv wr => ∃ i : Nat, ∃ wz, wz = wr ∧ q + i = 2 ∧ i ≤ N.length ∧ iv = .int .i64 (i : Nat) ∧ wr.ownsRow w.heap.size 26 12 lv (L ++ N.take i).length (mensV (L ++ N.take i)) ∧ OwnB wr b (j + 1 + i) (if i = 0 then cD m k j else cD m k 1) ∧ Below w.heap.size w wr ∧ w.heap.size < wr.heap.size ∧ lv.ownBlock ≠ some b ∧ MArr wr p2 N ∧ ∀ g', p2 = some ⟨g', 0, none⟩ → lv.ownBlock ≠ some g')
    case atStart => exact ⟨0, _, rfl, rfl, by omega, rfl, by simpa using hown5, hmap5, hB5, hs5, hnb, hArr2, fun g' e h => by have h9 := (hp2 g' e).2; injection h with h; exact absurd (show g = g' from h) (by omega)⟩
    case round =>
     clear hown5 hmap5 hB5 hs5 hnb hArr2
     obtain ⟨i, w5, rfl, hq, hi, rfl, hown, hmap, hB5, hs5, hnb, hArr, hdis⟩ := hrel
     by_cases hi2 : i < N.length
     ·have hii : (i : Int) < N.length := by omega
      obtain rfl : i = 0 := by omega
      have hj0 : j = 0 := by
       rcases (by omega : j = 0 ∨ j = 1) with h | rfl
       ·exact h
       ·rw [hN.out] at hi2; exact absurd hi2 (Nat.lt_irrefl 0)
      have hNk : N = [k] := by rw [hN.out, if_pos hj0]
      obtain ⟨g2, rfl, hgl2, hc2⟩ := hArr.at hi2
      rw [show N[0]?.getD zeroMen = k from by rw [hNk]; rfl] at hc2
      rw [List.take_zero, List.append_nil] at hown
      have hmap0 : OwnB w5 b 1 (cD m k 0) := by rw [hj0] at hmap; exact hmap
      have hX := HasO.new w5 (.cells k.cs.toArray 26)
      have hbX := below_box w5 (.cells k.cs.toArray 26)
      have hown6 := own_call hown hbX
      have hmap6 := hmap0.call hbX
      have hArr6 := hArr.call hbX
      have hB6 := below_call hB5 hB5.size hbX
      have hs6 := Nat.lt_of_lt_of_le hs5 hbX.size
      have hd0 := hdis g2 rfl
      have hLl : L.length ≤ 1 := by rw [hL.out, hj0]; exact Nat.le_refl 1
      replace hNk := Lib.hid hNk
      replace hj0 := Lib.hid hj0
      have hbg2 := (hp2 g2 rfl).1
      have hbl := hmap0.lt
      clear hown hmap hmap0 hbX hs5
      go_upto_region 10 with (first | (refine wpList_loadA rfl 26 (.tmp 31) rfl rfl k.cs (by kernel_rfl) hc2 ?_) | fail)
      show Code.wp _ _ _ _ (w5.alloc (.cells k.cs.toArray 26))
      generalize hw6 : w5.alloc (.cells k.cs.toArray 26) = w6 at *
      clear hw6 hc2 hB5 hArr
      generalize hq5 : w5.heap.size = q5 at *
      clear hq5
      go_upto_region 12 with (first
       | (refine wpList_loadO rfl 26 (.tmp 8) rfl q5 _ 26 rfl hX (by kernel_rfl) ?_)
       | (at_lookup; refine wpList_lookB rfl (.tmp 33) (.tmp 34) rfl b 1 _ rfl hmap6 k rfl hkk.out false hat.out ?_)
       | (at_mapUpdate; refine wpList_updB rfl (.tmp 37) (.tmp 38) (.const (.bool true)) rfl b 1 _ rfl hmap6 (by unfold maxLen; omega) k rfl rfl hkk.out ?_; intro w7 hmap7 hgr7) | fail)
      have hX7 := hX.grown hgr7 (by intro h; injection h with h; omega)
      have hown7 := hown6.kept hgr7 (.inr hnb)
      have hB7 := hB6.grown hgr7 hB6.size (fun j h => by cases h; exact hs3)
      have hs7 := Nat.lt_of_lt_of_le hs6 hgr7.size
      have hArr7 := hArr6.grown hgr7 (by intro g' e h; injection e with e; injection e with e; injection h with h; omega)
      have hmap71 : OwnB w7 b 2 (cD m k 1) := hmap7
      clear hX hown6 hB6 hs6 hArr6 hmap6 hmap7 hgr7
      have hN8 := HasO.new w7 (.cells k.cs.toArray 26)
      have hbN := below_box w7 (.cells k.cs.toArray 26)
      have hown8 := own_call hown7 hbN
      have hB8 := below_call hB7 hB7.size hbN
      have hArr8 := hArr7.call hbN
      have hmap8 := hmap71.call hbN
      have hs8 := Nat.lt_of_lt_of_le hs7 hbN.size
      have hg7 : g2 < w7.heap.size := by
       rcases hArr7 with h | ⟨g', e', hl', _⟩
       ·rw [h] at hi2; exact absurd hi2 (Nat.lt_irrefl 0)
       ·injection e' with e'; injection e' with e'; rw [e']; exact hl'
      have hb7 : b < w7.heap.size := hmap71.lt
      clear hown7 hB7 hArr7 hmap71 hs7 hbN
      go_wp2_with (first
       | (refine wpList_loadO rfl 26 (.tmp 8) rfl q5 _ 26 rfl hX7 (by kernel_rfl) ?_)
       | (at_builtin; refine wpList_append_own_at _ rfl (.tmp 39) (.tmp 41) 57 rfl w.heap.size 26 i0 _ 12 96 Tryz.underlying57 hi00 hz0 hz1 hz2 rfl (by decide) _ L.length (mensV L) rfl hown8 ⟨w7.heap.size, 0, none⟩ 1 1 k.cs rfl rfl (fun i u hu => by rw [Addr.add_lit, Nat.zero_add, hN8.cells i]; simpa using hu) (men_one26 _) (by unfold maxLen; omega) (by omega) (Nat.le_of_lt hs8) ?_) | fail)
      intro v' w9 hown9 hg9 _ hat9
      have hB9 := hB8.grown hg9 hB8.size (fun j e => by have := (hown8.lt j e).1; omega)
      have hArr9 := hArr8.grown hg9 (by intro g' e h; exact hdis g' e h)
      have hmap9 : OwnB w9 b 2 (cD m k 1) := World.ownsMap.kept hmap8 hg9 (fun e => hnb e.symm)
      have hs9 := Nat.lt_of_lt_of_le hs8 hg9.size
      have hnb9 : v'.ownBlock ≠ some b := by
       intro h
       rcases hat9 with h2 | h2
       ·exact hnb (h2 ▸ h)
       ·rw [h2] at h; injection h with h; omega
      have hdis9 : ∀ g', (some ⟨g2, 0, none⟩ : Option Addr) = some ⟨g', 0, none⟩ → v'.ownBlock ≠ some g' := by
       intro g' e h
       injection e with e; injection e with e; subst e
       rcases hat9 with h2 | h2
       ·exact hd0 (h2 ▸ h)
       ·rw [h2] at h; injection h with h; omega
      replace hown9 : w9.ownsRow w.heap.size 26 12 v' (L ++ N.take 1).length (mensV (L ++ N.take 1)) := by
       rw [hNk.out, show [k].take 1 = [k] from rfl, mensV_snoc, List.length_append]; exact hown9
      clear hown8 hg9 hB8 hArr8 hmap8 hat9 hN8 hX7 hs8
      go_wp2_with fail
      go_roundg (gk - 1)
      case measure => omega
      case rel => exact ⟨1, _, rfl, by omega, hi2, rfl, hown9, by rw [hj0.out]; exact hmap9, hB9, hs9, hnb9, hArr9, hdis9⟩
     ·have hii : ¬ (i : Int) < N.length := by omega
      obtain rfl : i = N.length := by omega
      rw [List.take_length] at hown
      have hLN : L ++ N = cL m k (j + 1) := by
       rw [hL.out, hN.out]
       rcases (by omega : j = 0 ∨ j = 1) with rfl | rfl <;> rfl
      rw [hLN] at hown
      have hmap9 : OwnB w5 b (j + 1 + 1) (cD m k (j + 1)) := by
       rcases (by omega : j = 0 ∨ j = 1) with rfl | rfl
       ·have : N = [k] := hN.out
        subst this
        exact hmap
       ·have : N = [] := hN.out
        subst this
        exact World.ownsMap.mono hmap (by decide)
      clear hmap hArr hdis
      go_wp2_with fail
      go_roundg (gk1 - 1)
      case measure => omega
      case rel => exact ⟨j + 1, _, rfl, by omega, by omega, by go_num, hown, hmap9, hB5, hs5, hnb⟩
   ·have hjj : ¬ (j : Int) < (cL m k j).length := by omega
    obtain ⟨p, cp, rfl⟩ := own_form hown
    have hj0 : j ≠ 0 := by
     rintro rfl
     exact hj2 (Nat.lt_succ_self 0)
    have hcl : cL m k j = [m, k] := by unfold cL; rw [if_neg hj0]
    rw [hcl] at hown hjj ⊢
    have hst := hsort _ w4 hown
    have hlo : ∀ g', (Value.slice p [m, k].length cp).ownBlock = some g' → w.heap.size ≤ g' := fun g' e => (hown.lt g' e).1
    go_wp2_with fail
    refine hst.mono ?_
    rintro e w5 ⟨rfl, hown5, hg5⟩
    have hB5 := hB4.grown hg5 hB4.size hlo
    clear hst hg5 hown hmap
    go_wp2_with fail
    exact bodyPost_ret (results_tmp2 rfl _ _ _) rfl ⟨⟨_, rfl, hown5⟩, hB5⟩
end Go.Proofs.YtnpomigmeieofaaGreatDoor
