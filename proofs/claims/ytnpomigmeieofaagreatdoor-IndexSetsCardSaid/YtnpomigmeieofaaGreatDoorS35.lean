import Derived.Test.YtnpomigmeieofaaGreatDoorS32
import Derived.Test.YtnpomigmeieofaaGreatDoorS34
import Derived.Maps.OwnOps
import Derived.DeepKeys4
import Derived.Maps.Views
namespace Go.Proofs.YtnpomigmeieofaaGreatDoor
open Go.RowKit
open Go.Maps (Keyed)

theorem Tryz.laidOut : laidOutB Tryz.prog = true := by kernel_rfl
theorem Tryz.row26 : (26 : TypeId) < Tryz.prog.types.size := of_decide_eq_true (by kernel_rfl)
theorem Tryz.wide26 : (match Tryz.prog.underlying 26 with | some (.array _ _) | some (.struct _) => true | _ => false) = true := by rw [Tryz.underlying26]
set_option maxRecDepth 100000 in
theorem Tryz.law26 : Keyed Tryz.prog 26 := Go.Maps.Keyed.of_law (deep_law_laid Tryz.laidOut (m := 3) (by omega) Tryz.row26 (by kernel_rfl) Tryz.wide26)
noncomputable def menK (m : Men) : Lit := (keyOf Tryz.prog 26 (.agg m.cs.toArray)).getD (.bool false)
theorem keyOf_some {m : Men} (h : (keyOf Tryz.prog 26 (.agg m.cs.toArray)).isSome = true) : keyOf Tryz.prog 26 (.agg m.cs.toArray) = some (menK m) := by
 unfold menK
 obtain ⟨v, hv⟩ := Option.isSome_iff_exists.1 h
 rw [hv]; rfl
attribute [irreducible] menK
theorem Tryz.zero4 (w : World) : (zeroValue 4).run Tryz.prog w = .ok (.bool false) w := by kernel_rfl
abbrev OwnB (W : World) (b n : Nat) (D : DataW Unit) : Prop := W.ownsMap Tryz.prog 26 (plainElem Tryz.prog 4) b n D
theorem OwnB.call {W W' : World} {b n : Nat} {D : DataW Unit} (h : OwnB W b n D) (hb : Below W.heap.size W W') : OwnB W' b n D := by
 have hlt := h.lt
 obtain ⟨es, clock, hbl, F, hs, hD⟩ := h
 exact ⟨es, clock, (hb.block b hlt).trans hbl, F, hs, hD⟩
theorem plainElem_bool_inv {P : Program} {e : TypeId} (he : P.underlying e = some .bool) {v : Value} {y : DataW Unit × List MemPlace} (h : plainElem (H := Unit) P e v = some y) : ∃ c, v = .bool c ∧ y = (.lit (.bool c), []) := by
 unfold plainElem at h
 rw [he] at h
 cases v <;> simp at h
 exact ⟨_, rfl, h.symm⟩
theorem lit_bool {c c' : Bool} (h : DataW.lit (H := Unit) (.bool c) = .lit (.bool c')) : c = c' := by
 injection h with h; injection h with h
theorem ownB_lookup {W : World} {b n : Nat} {D : DataW Unit} (h : OwnB W b n D) {m : Men} (hk : (keyOf Tryz.prog 26 (.agg m.cs.toArray)).isSome = true) {c : Bool} (hc : D.atKey (menK m) (.lit (.bool false)) = .lit (.bool c)) :
  (Instr.lookup 109 (.map (some b)) (.agg m.cs.toArray) false).run Tryz.prog W = .ok (.bool c) W := by
 obtain ⟨v, ps, hrun, hv⟩ := World.ownsMap.lookup h Tryz.law26 Tryz.underlying109 (Tryz.zero4 W) (plainElem_bool Tryz.underlying4 false) (keyOf_some hk)
 obtain ⟨c', rfl, hy⟩ := plainElem_bool_inv Tryz.underlying4 hv
 have h1 : DataW.lit (H := Unit) (.bool c) = .lit (.bool c') := hc.symm.trans (congrArg Prod.fst hy)
 rw [hrun, lit_bool h1]
theorem ownB_update {W : World} {b n : Nat} {D : DataW Unit} (h : OwnB W b n D) (hn : n < maxLen) {m : Men} (hk : (keyOf Tryz.prog 26 (.agg m.cs.toArray)).isSome = true) :
  ∃ w', (Instr.mapUpdate 109 (.map (some b)) (.agg m.cs.toArray) (.bool true)).run Tryz.prog W = .ok () w' ∧ OwnB w' b (n + 1) (D.put (menK m) (.lit (.bool true))) ∧ W.grownBy w' (some b) :=
 World.ownsMap.update h Tryz.law26 Tryz.underlying109 hn (keyOf_some hk) (plainElem_bool Tryz.underlying4 true)
section ops
variable {P : Program} {o : Oper} {a : Act} {w : World} {K : Act → World → Prop} {Q : Exit → Act → World → Prop} {t : Nat → Option Bool} {X : Prop}
theorem st_insert (hg : o.guard = none) (ty : TypeId) (m x v : Operand) (ho : o.op = .insert ty m x v) {v1 v2 v3 : Value} {w' : World} (h1 : a.eval m = v1) (h2 : a.eval x = v2) (h3 : a.eval v = v3) (hr : (Instr.mapUpdate ty v1 v2 v3).run P w = .ok () w') (h : K (a.put o.dst undef) w') : if Region.wanted o t = true then o.wp P a w K Q else X := by
 refine st_wp hg ?_
 unfold Oper.wp
 simp [execOp, ho, h1, h2, h3, hr, Result.andThen]
 exact h
theorem st_makeMap (hg : o.guard = none) (ty : TypeId) (ho : o.op = .makeMap ty none) {v : Value} {w' : World} (hr : (Instr.makeMap ty none).run P w = .ok v w') (h : K (a.put o.dst v) w') : if Region.wanted o t = true then o.wp P a w K Q else X := by
 refine st_wp hg ?_
 unfold Oper.wp
 simp [execOp, ho, hr, Result.andThen]
 exact h
end ops
def clR (w1 : World) (m : Men) (S : Nat → Bool) (f : Nat → Value) (W : World) : Prop :=
 Below w1.heap.size w1 W ∧ (S 0 = true → f 0 = .agg m.cs.toArray) ∧ (S 1 = true → ∃ g, f 1 = .slice (some ⟨g, 0, none⟩) 1 1 ∧ w1.heap.size ≤ g ∧ HasO W g (.cells m.cs.toArray 26 (0, 0))) ∧
 (S 2 = true → ∃ b, f 2 = .map (some b) ∧ w1.heap.size ≤ b ∧ OwnB W b (if S 4 then 1 else 0) (if S 4 then (DataW.map []).put (menK m) (.lit (.bool true)) else .map [])) ∧
 (S 3 = true → f 3 = .agg m.cs.toArray) ∧ (S 4 = true → S 2 = true) ∧ (S 5 = true → S 2 = true ∧ f 5 = f 2) ∧ (S 6 = true → S 1 = true ∧ f 6 = f 1) ∧ (S 7 = true → S 5 = true ∧ f 7 = f 5)
section
variable {w1 W : World} {m : Men} {S : Nat → Bool} {f : Nat → Value}
theorem cl_congr (S S' : Nat → Bool) (f : Nat → Value) (W : World) (hS : ∀ i, i < 8 → S i = S' i) (h : clR w1 m S f W) : clR w1 m S' f W := by
 unfold clR at *
 rw [← hS 0 (by omega), ← hS 1 (by omega), ← hS 2 (by omega), ← hS 3 (by omega), ← hS 4 (by omega), ← hS 5 (by omega), ← hS 6 (by omega), ← hS 7 (by omega)]
 exact h
theorem cl_init (f : Nat → Value) : clR w1 m (fun _ => false) f w1.drew :=
 ⟨(Below.refl _ _).drew, fun h => (by cases h), fun h => (by cases h), fun h => (by cases h), fun h => (by cases h), fun h => (by cases h), fun h => (by cases h), fun h => (by cases h), fun h => (by cases h)⟩
theorem cl_0 (h : clR w1 m S f W) : clR w1 m (upd S 0) (fun j => if j = 0 then .agg m.cs.toArray else f j) W := by
 obtain ⟨hC, h0, h1, h2, h3, h4, h5, h6, h7⟩ := h
 exact ⟨hC, by simp, by simpa [upd] using h1, by simpa [upd] using h2, by simpa [upd] using h3, by simpa [upd] using h4, by simpa [upd] using h5, by simpa [upd] using h6, by simpa [upd] using h7⟩
theorem cl_3 (h : clR w1 m S f W) : clR w1 m (upd S 3) (fun j => if j = 3 then .agg m.cs.toArray else f j) W := by
 obtain ⟨hC, h0, h1, h2, h3, h4, h5, h6, h7⟩ := h
 exact ⟨hC, by simpa [upd] using h0, by simpa [upd] using h1, by simpa [upd] using h2, by simp, by simpa [upd] using h4, by simpa [upd] using h5, by simpa [upd] using h6, by simpa [upd] using h7⟩
theorem cl_1 (h : clR w1 m S f W) (hS : S 1 = false) : clR w1 m (upd S 1) (fun j => if j = 1 then .slice (some ⟨W.heap.size, 0, none⟩) 1 1 else f j) (W.alloc (.cells m.cs.toArray 26)) := by
 obtain ⟨hC, h0, h1, h2, h3, h4, h5, h6, h7⟩ := h
 have hS6 : S 6 = false := by
  rcases h : S 6 with _ | _
  ·rfl
  ·rw [(h6 h).1] at hS; cases hS
 have hb := below_box W (.cells m.cs.toArray 26)
 refine ⟨below_call hC hC.size hb, by simpa [upd] using h0, fun _ => ⟨_, by simp, hC.size, HasO.new _ _⟩, ?_, by simpa [upd] using h3, by simpa [upd] using h4, by simpa [upd] using h5, by simp [upd, hS6], by simpa [upd] using h7⟩
 intro hs
 obtain ⟨b, e, hl, ho⟩ := h2 (by simpa [upd] using hs)
 exact ⟨b, by simpa using e, hl, by simpa [upd] using ho.call hb⟩
theorem cl_2 (h : clR w1 m S f W) (hS : S 2 = false) : clR w1 m (upd S 2) (fun j => if j = 2 then .map (some W.heap.size) else f j) (W.alloc (.map #[] 0)) := by
 obtain ⟨hC, h0, h1, h2, h3, h4, h5, h6, h7⟩ := h
 have hS4 : S 4 = false := by
  rcases h : S 4 with _ | _
  ·rfl
  ·rw [h4 h] at hS; cases hS
 have hS5 : S 5 = false := by
  rcases h : S 5 with _ | _
  ·rfl
  ·rw [(h5 h).1] at hS; cases hS
 have hb := below_box W (.map #[] 0)
 refine ⟨below_call hC hC.size hb, by simpa [upd] using h0, ?_, fun _ => ⟨_, by simp, hC.size, by simp [upd, hS4]; exact World.ownsMap_made (H := Unit) W Tryz.prog 26 (plainElem Tryz.prog 4)⟩, by simpa [upd] using h3, by simp [upd, hS4], by simp [upd, hS5], by simpa [upd] using h6, by simpa [upd] using h7⟩
 intro hs
 obtain ⟨g, e, hl, ho⟩ := h1 (by simpa [upd] using hs)
 exact ⟨g, by simpa using e, hl, ho.call hb⟩
theorem cl_4 (h : clR w1 m S f W) (hS : S 4 = false) (hS2 : S 2 = true) (hk : (keyOf Tryz.prog 26 (.agg m.cs.toArray)).isSome = true) :
  ∃ W', (Instr.mapUpdate 109 (f 2) (.agg m.cs.toArray) (.bool true)).run Tryz.prog W = .ok () W' ∧ clR w1 m (upd S 4) (fun j => if j = 4 then undef else f j) W' := by
 obtain ⟨hC, h0, h1, h2, h3, h4, h5, h6, h7⟩ := h
 obtain ⟨b, e, hl, ho⟩ := h2 hS2
 rw [hS] at ho
 simp only [Bool.false_eq_true, if_false] at ho
 obtain ⟨W', hrun, ho', hg⟩ := ownB_update ho (by unfold maxLen; omega) hk
 refine ⟨W', by rw [e]; exact hrun, hC.grown hg hC.size (fun j hj => by cases hj; exact hl), by simpa [upd] using h0, ?_, ?_, by simpa [upd] using h3, by simp [upd, hS2], by simpa [upd] using h5, by simpa [upd] using h6, by simpa [upd] using h7⟩
 ·intro hs
  obtain ⟨g, eg, hlg, hog⟩ := h1 (by simpa [upd] using hs)
  refine ⟨g, by simpa using eg, hlg, ?_⟩
  have hne : g ≠ b := by
   rintro rfl
   obtain ⟨es, clock, hbl, _⟩ := ho
   have h9 : W.heap[g]? = _ := hog
   rw [hbl] at h9; cases h9
  exact hog.grown hg (by intro h; injection h with h; exact hne h.symm)
 ·intro _
  exact ⟨b, by simpa using e, hl, by simpa [upd] using ho'⟩
theorem cl_5 (h : clR w1 m S f W) (hS : S 5 = false) (hS2 : S 2 = true) : clR w1 m (upd S 5) (fun j => if j = 5 then f 2 else f j) W := by
 obtain ⟨hC, h0, h1, h2, h3, h4, h5, h6, h7⟩ := h
 have hS7 : S 7 = false := by
  rcases h : S 7 with _ | _
  ·rfl
  ·rw [(h7 h).1] at hS; cases hS
 exact ⟨hC, by simpa [upd] using h0, by simpa [upd] using h1, by simpa [upd] using h2, by simpa [upd] using h3, by simpa [upd] using h4, by simp [upd, hS2], by simpa [upd] using h6, by simp [upd, hS7]⟩
theorem cl_6 (h : clR w1 m S f W) (hS1 : S 1 = true) : clR w1 m (upd S 6) (fun j => if j = 6 then f 1 else f j) W := by
 obtain ⟨hC, h0, h1, h2, h3, h4, h5, h6, h7⟩ := h
 exact ⟨hC, by simpa [upd] using h0, by simpa [upd] using h1, by simpa [upd] using h2, by simpa [upd] using h3, by simpa [upd] using h4, by simpa [upd] using h5, by simp [upd, hS1], by simpa [upd] using h7⟩
theorem cl_7 (h : clR w1 m S f W) (hS5 : S 5 = true) : clR w1 m (upd S 7) (fun j => if j = 7 then f 5 else f j) W := by
 obtain ⟨hC, h0, h1, h2, h3, h4, h5, h6, h7⟩ := h
 exact ⟨hC, by simpa [upd] using h0, by simpa [upd] using h1, by simpa [upd] using h2, by simpa [upd] using h3, by simpa [upd] using h4, by simpa [upd] using h5, by simpa [upd] using h6, by simp [upd, hS5]⟩
end
end Go.Proofs.YtnpomigmeieofaaGreatDoor
namespace Go.Proofs.YtnpomigmeieofaaGreatDoor
open Go.RowKit
open Go.Maps (Keyed)

theorem Tryz.sz3 : ∃ n, Tryz.prog.types.size + 1 = n + 3 := ⟨Tryz.prog.types.size - 2, by have : 27 < Tryz.prog.types.size + 1 := of_decide_eq_true (by kernel_rfl); omega⟩
theorem Tryz.kt26 : Tryz.prog.keyType 26 = true := by kernel_rfl
theorem men_formed (m : Men) : (Value.agg m.cs.toArray).formed Tryz.prog 26 = true := by kernel_rfl
theorem lits_i {d : Nat} {a : Int} (h : (Lit.int .i64 a).wf = true) : Tryz.prog.keyLits (d + 1) 3 [.int .i64 a] = some [.int .i64 a] := by
 unfold Program.keyLits
 simp [Tryz.underlying3, h]
theorem Tryz.cells24 : Tryz.prog.cellsOf 24 = 5 := by kernel_rfl
theorem Tryz.cells26k : Tryz.prog.cellsOf 26 = 12 := by kernel_rfl
theorem lits_5 {d : Nat} {a0 a1 a2 a3 a4 : Int} (h0 : (Lit.int .i64 a0).wf = true) (h1 : (Lit.int .i64 a1).wf = true) (h2 : (Lit.int .i64 a2).wf = true) (h3 : (Lit.int .i64 a3).wf = true) (h4 : (Lit.int .i64 a4).wf = true) :
  ∃ l, Tryz.prog.keyLits (d + 2) 24 [.int .i64 a0, .int .i64 a1, .int .i64 a2, .int .i64 a3, .int .i64 a4] = some l := by
 unfold Program.keyLits
 simp only [Tryz.underlying24]
 rw [if_pos (by rw [Tryz.cells24]; rfl), show List.range 5 = [0, 1, 2, 3, 4] from rfl]
 simp [List.mapM_cons, Tryz.cells3, lits_i h0, lits_i h1, lits_i h2, lits_i h3, lits_i h4]
theorem Tryz.cells23 : Tryz.prog.cellsOf 23 = 2 := by kernel_rfl
theorem lits_2 {d : Nat} {a0 a1 : Int} (h0 : (Lit.int .i64 a0).wf = true) (h1 : (Lit.int .i64 a1).wf = true) :
  ∃ l, Tryz.prog.keyLits (d + 2) 23 [.int .i64 a0, .int .i64 a1] = some l := by
 unfold Program.keyLits
 simp only [Tryz.underlying23]
 rw [if_pos (by rw [Tryz.cells23]; exact ⟨rfl, by decide +kernel⟩)]
 simp [List.mapM_cons, Tryz.cells3, lits_i h0, lits_i h1]
theorem wf_small {a : Int} (h0 : 0 ≤ a) (h1 : a ≤ 100) : (Lit.int .i64 a).wf = true := by
 have e1 : IntKind.i64.min = -9223372036854775808 := by decide
 have e2 : IntKind.i64.max = 9223372036854775807 := by decide
 simp [Lit.wf, e1, e2]; omega
theorem key_men {m : Men} (h : vN m) : (keyOf Tryz.prog 26 (.agg m.cs.toArray)).isSome = true := by
 obtain ⟨n, hn⟩ := Tryz.sz3
 have h4 := vN_four h
 unfold vN at h
 obtain ⟨l1, e1⟩ := lits_2 (d := n) (wf_small (a := m.f) (by omega) (by omega)) (wf_small (a := m.r) (by omega) (by omega))
 obtain ⟨l2, e2⟩ := lits_5 (d := n) (wf_small h.1.1 (by omega)) (wf_small h.1.2.1 (by omega)) (wf_small h.1.2.2.1 (by omega)) (wf_small h.1.2.2.2.1 (by omega)) (wf_small h.1.2.2.2.2.1 (by omega))
 obtain ⟨l3, e3⟩ := lits_5 (d := n) (wf_small h.1.2.2.2.2.2.1 (by omega)) (wf_small h.1.2.2.2.2.2.2.1 (by omega)) (wf_small h.1.2.2.2.2.2.2.2.1 (by omega)) (wf_small h.1.2.2.2.2.2.2.2.2.1 (by omega)) (wf_small h.1.2.2.2.2.2.2.2.2.2 (by omega))
 unfold keyOf
 simp only [Tryz.underlying26]
 rw [Tryz.kt26, men_formed, hn]
 simp only [Bool.and_self, if_true]
 unfold Program.keyLits
 simp only [Tryz.underlying26]
 rw [if_pos (by rw [Tryz.cells26k]; exact ⟨rfl, by decide +kernel⟩)]
 simp [List.mapM_cons, Tryz.cells23, Tryz.cells24, Value.cells, e1, e2, e3]
theorem menK_inj {x y : Men} (hx : vN x) (hy : vN y) (h : menK x = menK y) : x = y := by
 have h1 := keyOf_some (key_men hx)
 have h2 := keyOf_some (key_men hy)
 rw [← h] at h2
 have h3 := Tryz.law26.inj h1 h2
 obtain ⟨f, r, w0, w1, w2, w3, w4, b0, b1, b2, b3, b4⟩ := x
 obtain ⟨f', r', w0', w1', w2', w3', w4', b0', b1', b2', b3', b4'⟩ := y
 simp at h3
 simp only [Men.mk.injEq]
 omega
theorem menK_key {x : Men} (hx : vN x) : WideAt.IsKeyLit (menK x) := Tryz.law26.key (keyOf_some (key_men hx))
def SeenB (W : World) (b n : Nat) (L : List Men) : Prop := ∃ D, OwnB W b n D ∧ Go.Maps.IsMap D ∧ ∀ k, vN k → D.atKey (menK k) (.lit (.bool false)) = .lit (.bool (decide (k ∈ L)))
theorem SeenB.call {W W' : World} {b n : Nat} {L : List Men} (h : SeenB W b n L) (hb : Below W.heap.size W W') : SeenB W' b n L := by
 obtain ⟨D, h1, h2⟩ := h
 exact ⟨D, h1.call hb, h2⟩
theorem SeenB.kept {W W' : World} {b n : Nat} {L : List Men} {row : Option Nat} (h : SeenB W b n L) (hg : W.grownBy W' row) (hne : some b ≠ row) : SeenB W' b n L := by
 obtain ⟨D, h1, h2⟩ := h
 exact ⟨D, World.ownsMap.kept h1 hg (fun e => hne e), h2⟩
theorem SeenB.lt {W : World} {b n : Nat} {L : List Men} (h : SeenB W b n L) : b < W.heap.size := by
 obtain ⟨D, h1, _⟩ := h
 exact World.ownsMap.lt h1
theorem seen_put {D : DataW Unit} {L : List Men} {x : Men} (hx : vN x) (hD : Go.Maps.IsMap D) (h : ∀ k, vN k → D.atKey (menK k) (.lit (.bool false)) = .lit (.bool (decide (k ∈ L)))) :
  ∀ k, vN k → (D.put (menK x) (.lit (.bool true))).atKey (menK k) (.lit (.bool false)) = .lit (.bool (decide (k ∈ L ++ [x]))) := by
 intro k hk
 by_cases e : k = x
 ·subst e
  rw [Go.Maps.atKey_put_same hD (menK_key hx)]
  simp
 ·rw [Go.Maps.atKey_put_other (fun h1 => e (menK_inj hk hx h1)), h k hk]
  congr 3
  simp [e]
theorem seen_one {W : World} {b : Nat} {m : Men} (hm : vN m) (h : OwnB W b 1 ((DataW.map []).put (menK m) (.lit (.bool true)))) : SeenB W b 1 [m] :=
 ⟨_, h, Go.Maps.IsMap.put Go.Maps.isMap_empty _ _, seen_put (L := []) hm Go.Maps.isMap_empty (fun k _ => by simp [DataW.atKey])⟩
theorem wpList_lookS {ops : Array Oper} {rest : List Oper} {o : Oper} {a : Act} {Q : Exit → Act → World → Prop} {w : World} (hg : o.guard = none) (m x : Operand) (hop : o.op = Op.lookup 109 m x false)
  (b n : Nat) (L : List Men) (hm : a.eval m = .map (some b)) (hown : SeenB w b n L) (k : Men) (hx : a.eval x = .agg k.cs.toArray) (hk : vN k) (c : Bool) (hc : c = decide (k ∈ L))
  (hK : wpList Tryz.prog ops Q rest (a.put o.dst (.bool c)) w) : wpList Tryz.prog ops Q (o :: rest) a w := by
 obtain ⟨D, h1, _, h2⟩ := hown
 refine wpList_plain hg fun K' hK' => ?_
 have hrun := ownB_lookup h1 (key_men hk) (hc ▸ h2 k hk)
 unfold Oper.wp
 simp [execOp, hop, hm, hx, hrun, Result.andThen]
 exact hK' _ _ hK
theorem wpList_updS {ops : Array Oper} {rest : List Oper} {o : Oper} {a : Act} {Q : Exit → Act → World → Prop} {w : World} (hg : o.guard = none) (m x v : Operand) (hop : o.op = Op.mapUpdate 109 m x v)
  (b n : Nat) (L : List Men) (hm : a.eval m = .map (some b)) (hown : SeenB w b n L) (hn : n < maxLen) (k : Men) (hx : a.eval x = .agg k.cs.toArray) (hv : a.eval v = .bool true) (hk : vN k)
  (hK : ∀ w', SeenB w' b (n + 1) (L ++ [k]) → w.grownBy w' (some b) → wpList Tryz.prog ops Q rest (a.put o.dst undef) w') : wpList Tryz.prog ops Q (o :: rest) a w := by
 obtain ⟨D, h1, h0, h2⟩ := hown
 refine wpList_plain hg fun K' hK' => ?_
 obtain ⟨w', hrun, r1, r2⟩ := ownB_update h1 hn (key_men hk)
 unfold Oper.wp
 simp [execOp, hop, hm, hx, hv, hrun, Result.andThen]
 exact hK' _ _ (hK w' ⟨_, r1, h0.put _ _, seen_put hk h0 h2⟩ r2)
end Go.Proofs.YtnpomigmeieofaaGreatDoor
