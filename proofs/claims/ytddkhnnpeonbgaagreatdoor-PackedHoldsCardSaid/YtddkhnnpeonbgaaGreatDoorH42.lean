import Derived.Test.YtddkhnnpeonbgaaGreatDoorH22
import Derived.Test.YtddkhnnpeonbgaaGreatDoorH41
import Derived.Maps.OwnOps
import Derived.OrdersIn
import Derived.TacticsIn
namespace Go.Proofs.YtddkhnnpeonbgaaGreatDoor
open Go.RowKit
open Go.Maps (Keyed bool_keyed keyOf_bool_mk)

theorem wpList_insert_own {H : Type} {P : Program} (w : World) {ops : Array Oper} {rest : List Oper} {o : Oper} {a : Act} {Q : Exit → Act → World → Prop}
  (hg : o.guard = none) (m x v : Operand) (t : TypeId) (hop : o.op = Op.insert t m x v)
  (k e : TypeId) (K : Keyed P k) (ht : P.underlying t = some (.map k e)) (R : Value → Option (DataW H × List MemPlace)) (b n : Nat) (D : DataW H)
  (hm : a.eval m = .map (some b)) (hown : w.ownsMap P k R b n D) (hn : n < maxLen) (key val : Value) (kl : Lit) (hx : a.eval x = key) (hv : a.eval v = val) (hkey : keyOf P k key = some kl)
  (d : DataW H) (ps : List MemPlace) (hval : R val = some (d, ps))
  (hK : ∀ w', w'.ownsMap P k R b (n + 1) (D.put kl d) → w.grownBy w' (some b) → wpList P ops Q rest (a.put o.dst undef) w') :
  wpList P ops Q (o :: rest) a w := by
 refine wpList_plain hg fun K' hK' => ?_
 obtain ⟨w', hrun, r1, r2⟩ := hown.update K ht hn hkey hval
 unfold Oper.wp
 simp [execOp, hop, hm, hx, hv, hrun, Result.andThen]
 exact hK' _ _ (hK w' r1 r2)
theorem Tryz.law4 : Keyed Tryz.prog 4 := bool_keyed Tryz.underlying4
theorem Tryz.zero3 (w : World) : (zeroValue 3).run Tryz.prog w = .ok (.int .i64 0) w := by kernel_rfl
theorem two_at (a b c : Int) (x : Bool) (h : (((DataW.map (H := Unit) []).put (.bool false) (.lit (.int .i64 a))).put (.bool true) (.lit (.int .i64 b))).atKey (.bool x) (.lit (.int .i64 0)) = .lit (.int .i64 c)) : c = if x then b else a := by
 cases x
 ·have : (DataW.lit (H := Unit) (.int .i64 a)) = .lit (.int .i64 c) := h
  injection this with this; injection this with _ this; exact this.symm
 ·have : (DataW.lit (H := Unit) (.int .i64 b)) = .lit (.int .i64 c) := h
  injection this with this; injection this with _ this; exact this.symm
theorem one_at (b c : Int) (x : Bool) (h : ((DataW.map (H := Unit) []).put (.bool true) (.lit (.int .i64 b))).atKey (.bool x) (.lit (.int .i64 0)) = .lit (.int .i64 c)) : c = if x then b else 0 := by
 cases x
 ·have : (DataW.lit (H := Unit) (.int .i64 0)) = .lit (.int .i64 c) := h
  injection this with this; injection this with _ this; exact this.symm
 ·have : (DataW.lit (H := Unit) (.int .i64 b)) = .lit (.int .i64 c) := h
  injection this with this; injection this with _ this; exact this.symm
theorem below_grown {B b : Nat} {w w1 w' : World} (h : Below B w w1) (hg : w1.grownBy w' (some b)) (hB : B ≤ b) (hs : B ≤ w1.heap.size) : Below B w w' :=
 h.grown hg hs (fun j hj => by cases hj; exact hB)

def TabW (g : Nat) (W : World) : Prop := g < W.heap.size ∧ ∀ n k, n ≤ 64 → k ≤ 4 → W.cell? ⟨g, n * 5 + k, none⟩ = some (.int .i64 (ch n k : Nat))
theorem TabW.call {g : Nat} {W W' : World} (h : TabW g W) (hb : Below W.heap.size W W') : TabW g W' :=
 ⟨Nat.lt_of_lt_of_le h.1 hb.size, fun n k hn hk => (hb.cell (p := ⟨g, n * 5 + k, none⟩) h.1).trans (h.2 n k hn hk)⟩
theorem TabW.alt {g lo hi : Nat} {W W' : World} (h : TabW g W) (ha : Alt lo hi W W') (hg : g < lo ∨ hi ≤ g) : TabW g W' := by
 refine ⟨Nat.lt_of_lt_of_le h.1 ha.size, fun n k hn hk => ?_⟩
 rw [← h.2 n k hn hk]
 unfold World.cell?
 rw [ha.block g h.1 hg]
theorem TabW.ne {g q : Nat} {W : World} {x : Value} {t : TypeId} (h : TabW g W) (hq : HasO W q (.cells #[x] t (0, 0))) : g ≠ q := by
 rintro rfl
 have h1 := h.2 1 0 (by omega) (by omega)
 rw [hq.cells 5] at h1
 simp at h1
theorem alloc118 (W : World) : (Instr.alloc 118 true (.tuple #[])).run Tryz.prog W = .ok (.pointer (some ⟨W.heap.size, 0, none⟩)) (W.alloc (.cells #[.pointer none] 118)) := by kernel_rfl
def wyR (w1 : World) (v0 v1 v2 : Value) (S : Nat → Bool) (f : Nat → Value) (W : World) : Prop :=
 Below w1.heap.size w1 W ∧ (S 0 = true → f 0 = v0) ∧ (S 1 = true → f 1 = v1) ∧ (S 2 = true → f 2 = v2) ∧
 (S 3 = true → ∃ g, f 3 = .pointer (some ⟨g, 0, none⟩) ∧ w1.heap.size ≤ g ∧ TabW g W) ∧
 (S 4 = true → ∃ q, f 4 = .pointer (some ⟨q, 0, none⟩) ∧ w1.heap.size ≤ q ∧ ∃ x, HasO W q (.cells #[x] 118 (0, 0)) ∧ (S 6 = true → x = f 3)) ∧
 (S 5 = true → f 5 = v2) ∧ (S 6 = true → S 3 = true ∧ S 4 = true)
section
variable {w1 W : World} {v0 v1 v2 : Value} {S : Nat → Bool} {f : Nat → Value}
theorem wy_congr (S S' : Nat → Bool) (f : Nat → Value) (W : World) (hS : ∀ i, i < 7 → S i = S' i) (h : wyR w1 v0 v1 v2 S f W) : wyR w1 v0 v1 v2 S' f W := by
 unfold wyR at *
 rw [← hS 0 (by omega), ← hS 1 (by omega), ← hS 2 (by omega), ← hS 3 (by omega), ← hS 4 (by omega), ← hS 5 (by omega), ← hS 6 (by omega)]
 exact h
theorem wy_init (f : Nat → Value) : wyR w1 v0 v1 v2 (fun _ => false) f w1.drew :=
 ⟨(Below.refl _ _).drew, fun h => (by cases h), fun h => (by cases h), fun h => (by cases h), fun h => (by cases h), fun h => (by cases h), fun h => (by cases h), fun h => (by cases h)⟩
theorem wy_0 (h : wyR w1 v0 v1 v2 S f W) : wyR w1 v0 v1 v2 (upd S 0) (fun j => if j = 0 then v0 else f j) W := by
 obtain ⟨hC, h0, h1, h2, h3, h4, h5, h6⟩ := h
 exact ⟨hC, by simp, by simpa [upd] using h1, by simpa [upd] using h2, by simpa [upd] using h3, by simpa [upd] using h4, by simpa [upd] using h5, by simpa [upd] using h6⟩
theorem wy_1 (h : wyR w1 v0 v1 v2 S f W) : wyR w1 v0 v1 v2 (upd S 1) (fun j => if j = 1 then v1 else f j) W := by
 obtain ⟨hC, h0, h1, h2, h3, h4, h5, h6⟩ := h
 exact ⟨hC, by simpa [upd] using h0, by simp, by simpa [upd] using h2, by simpa [upd] using h3, by simpa [upd] using h4, by simpa [upd] using h5, by simpa [upd] using h6⟩
theorem wy_2 (h : wyR w1 v0 v1 v2 S f W) : wyR w1 v0 v1 v2 (upd S 2) (fun j => if j = 2 then v2 else f j) W := by
 obtain ⟨hC, h0, h1, h2, h3, h4, h5, h6⟩ := h
 exact ⟨hC, by simpa [upd] using h0, by simpa [upd] using h1, by simp, by simpa [upd] using h3, by simpa [upd] using h4, by simpa [upd] using h5, by simpa [upd] using h6⟩
theorem wy_5 (h : wyR w1 v0 v1 v2 S f W) : wyR w1 v0 v1 v2 (upd S 5) (fun j => if j = 5 then v2 else f j) W := by
 obtain ⟨hC, h0, h1, h2, h3, h4, h5, h6⟩ := h
 exact ⟨hC, by simpa [upd] using h0, by simpa [upd] using h1, by simpa [upd] using h2, by simpa [upd] using h3, by simpa [upd] using h4, by simp, by simpa [upd] using h6⟩
theorem wy_3 (h : wyR w1 v0 v1 v2 S f W) (hS : S 3 = false) {W' : World} {g : Nat} (hb : Below W.heap.size W W') (hg : w1.heap.size ≤ g) (ht : TabW g W') :
  wyR w1 v0 v1 v2 (upd S 3) (fun j => if j = 3 then .pointer (some ⟨g, 0, none⟩) else f j) W' := by
 obtain ⟨hC, h0, h1, h2, h3, h4, h5, h6⟩ := h
 have hS6 : S 6 = false := by
  rcases h : S 6 with _ | _
  ·rfl
  ·rw [(h6 h).1] at hS; cases hS
 refine ⟨below_call hC hC.size hb, by simpa [upd] using h0, by simpa [upd] using h1, by simpa [upd] using h2, fun _ => ⟨g, by simp, hg, ht⟩, ?_, by simpa [upd] using h5, by simp [upd, hS6]⟩
 intro hs
 obtain ⟨q, e, hq, x, hx, _⟩ := h4 (by simpa [upd] using hs)
 exact ⟨q, by simpa using e, hq, x, hx.call hb, by simp [upd, hS6]⟩
theorem wy_4 (h : wyR w1 v0 v1 v2 S f W) (hS : S 4 = false) : wyR w1 v0 v1 v2 (upd S 4) (fun j => if j = 4 then .pointer (some ⟨W.heap.size, 0, none⟩) else f j) (W.alloc (.cells #[.pointer none] 118)) := by
 obtain ⟨hC, h0, h1, h2, h3, h4, h5, h6⟩ := h
 have hS6 : S 6 = false := by
  rcases h : S 6 with _ | _
  ·rfl
  ·rw [(h6 h).2] at hS; cases hS
 have hb := below_box W (.cells #[.pointer none] 118)
 refine ⟨below_call hC hC.size hb, by simpa [upd] using h0, by simpa [upd] using h1, by simpa [upd] using h2, ?_, ?_, by simpa [upd] using h5, by simp [upd, hS6]⟩
 ·intro hs
  obtain ⟨g, e, hg, ht⟩ := h3 (by simpa [upd] using hs)
  exact ⟨g, by simpa using e, hg, ht.call hb⟩
 ·intro _
  exact ⟨W.heap.size, by simp, hC.size, _, HasO.new _ _, by simp [upd, hS6]⟩
theorem wy_6 (h : wyR w1 v0 v1 v2 S f W) (hS3 : S 3 = true) (hS4 : S 4 = true) {q : Nat} (e : f 4 = .pointer (some ⟨q, 0, none⟩)) :
  wyR w1 v0 v1 v2 (upd S 6) (fun j => if j = 6 then undef else f j) (W.setCell ⟨q, 0, none⟩ (f 3)) := by
 obtain ⟨hC, h0, h1, h2, h3, h4, h5, h6⟩ := h
 obtain ⟨g, e3, hg, ht⟩ := h3 hS3
 obtain ⟨q', e', hq, x, hx, _⟩ := h4 hS4
 rw [e] at e'
 injection e' with e'; injection e' with e'; injection e' with e'
 subst e'
 have hne := ht.ne hx
 have hA : Alt q (q + 1) W (W.setCell ⟨q, 0, none⟩ (f 3)) := Alt.setCell ⟨Nat.le_refl _, Nat.lt_succ_self _⟩
 refine ⟨hC.setCell (p := ⟨q, 0, none⟩) hq _, by simpa [upd] using h0, by simpa [upd] using h1, by simpa [upd] using h2, ?_, ?_, by simpa [upd] using h5, by simp [upd, hS3, hS4]⟩
 ·intro _
  exact ⟨g, by simpa using e3, hg, ht.alt hA (by omega)⟩
 ·intro _
  exact ⟨q, by simpa using e, hq, f 3, hx.set_ 0 (f 3), by simp⟩
end
def NumW (w : World) (cs : List Value) (q8 q9 g gg : Nat) (m : Men) (E : List Nat) (n : Nat) (W : World) : Prop :=
 Below w.heap.size w W ∧ HasO W w.heap.size (.cells cs.toArray 27 (0, 0)) ∧ HasO W q8 (.cells #[.pointer (some ⟨g, 0, none⟩)] 118 (0, 0)) ∧ HasO W q9 (.cells #[.int .i64 (n : Nat)] 3 (0, 0)) ∧
 TabW g W ∧ (gg < W.heap.size ∧ ∀ j, j < 10 → W.cell? ⟨gg, j * 2, none⟩ = some (.int .i8 (grpPiece j)) ∧ W.cell? ⟨gg, j * 2 + 1, none⟩ = some (.int .i64 (m.grp j))) ∧
 ∀ p ∈ E, w.heap.size ≤ p ∧ HasO W p (.deferred (some []))
theorem NumW.alt {w : World} {cs : List Value} {q8 q9 g gg : Nat} {m : Men} {E : List Nat} {n lo hi : Nat} {W W' : World} (h : NumW w cs q8 q9 g gg m E n W) (ha : Alt lo hi W W')
  (h0 : w.heap.size < lo) (h8 : q8 < lo) (h9 : q9 < lo) (hg : g < lo) (hgg : gg < lo) (hE : ∀ p ∈ E, p < lo) : NumW w cs q8 q9 g gg m E n W' := by
 obtain ⟨b, i0, i8, i9, it, ⟨ig, ic⟩, iE⟩ := h
 refine ⟨ha.below b (by omega) b.size, ha.hasO i0 (by omega), ha.hasO i8 (by omega), ha.hasO i9 (by omega), it.alt ha (by omega), ⟨Nat.lt_of_lt_of_le ig ha.size, fun j hj => ?_⟩, fun p hp => ⟨(iE p hp).1, ha.hasO (iE p hp).2 (.inl (hE p hp))⟩⟩
 have hc : ∀ x, W'.cell? ⟨gg, x, none⟩ = W.cell? ⟨gg, x, none⟩ := fun x => by
  unfold World.cell?
  rw [ha.block gg ig (.inl hgg)]
 rw [hc, hc]; exact ic j hj
theorem NumW.call {w : World} {cs : List Value} {q8 q9 g gg : Nat} {m : Men} {E : List Nat} {n : Nat} {W W' : World} (h : NumW w cs q8 q9 g gg m E n W) (hb : Below W.heap.size W W') : NumW w cs q8 q9 g gg m E n W' := by
 have h' := h
 obtain ⟨b, i0, i8, i9, it, ⟨ig, ic⟩, iE⟩ := h'
 exact h.alt (Alt.call (lo := W.heap.size) (hi := W.heap.size) hb) i0.lt i8.lt i9.lt it.1 ig (fun p hp => (iE p hp).2.lt)
theorem NumW.set {w : World} {cs : List Value} {q8 q9 g gg : Nat} {m : Men} {E : List Nat} {n n' : Nat} {W : World} (h : NumW w cs q8 q9 g gg m E n W)
  (h0 : w.heap.size < q9) (h8 : q8 ≠ q9) (hgg : gg ≠ q9) (hE : ∀ p ∈ E, p ≠ q9) : NumW w cs q8 q9 g gg m E n' (W.setCell ⟨q9, 0, none⟩ (.int .i64 (n' : Nat))) := by
 obtain ⟨b, i0, i8, i9, it, ⟨ig, ic⟩, iE⟩ := h
 have hg := it.ne i9
 have ha : Alt q9 (q9 + 1) W (W.setCell ⟨q9, 0, none⟩ (.int .i64 (n' : Nat))) := Alt.setCell ⟨Nat.le_refl _, Nat.lt_succ_self _⟩
 refine ⟨ha.below b (by omega) b.size, ha.hasO i0 (by omega), ha.hasO i8 (by omega), i9.set_ 0 _, it.alt ha (by omega), ⟨Nat.lt_of_lt_of_le ig ha.size, fun j hj => ?_⟩, fun p hp => ⟨(iE p hp).1, ha.hasO (iE p hp).2 (by have := hE p hp; omega)⟩⟩
 have hc : ∀ x, (W.setCell ⟨q9, 0, none⟩ (.int .i64 (n' : Nat))).cell? ⟨gg, x, none⟩ = W.cell? ⟨gg, x, none⟩ := fun x => by
  unfold World.cell?
  rw [ha.block gg ig (by omega)]
 rw [hc, hc]; exact ic j hj
theorem leave0 {F : Fence} {n : Nat} {P : Program} {fn : Func} {R : Ending → World → Prop} {tmps : Array Value} {w : World} (v : Value) (h : (results fn tmps).run P w = .ok v w) (hR : R (.returned v) w) : bodyPostM F n P fn R .ret { tmps := tmps, defers := [] } w := ⟨v, h, hR⟩
theorem leaveE {F : Fence} {n : Nat} {P : Program} {fn : Func} {R : Ending → World → Prop} {tmps : Array Value} {B : Nat} (E : List Nat) (w : World) (hB : B ≤ w.heap.size)
  (hE : ∀ p ∈ E, B ≤ p ∧ HasO w p (.deferred (some []))) (hn : E.Nodup) (h : ∀ w', Below B w w' → ∃ v, (results fn tmps).run P w' = .ok v w' ∧ R (.returned v) w') : bodyPostM F n P fn R .ret { tmps := tmps, defers := cds E } w :=
 leaves_marks E w hB hE hn h
theorem wpList_storeTo {P : Program} {ops : Array Oper} {rest : List Oper} {o : Oper} {a : Act} {w wz : World} {Q : Exit → Act → World → Prop} {g : Nat} {cells : Array Value} (hwz : Hid (wz = w.setRow g cells)) (hgd : o.guard = none) (ty : TypeId) (x y : Operand) (ho : o.op = .store ty x y)
  (hx : a.eval x = .pointer (some ⟨g, 0, none⟩)) (hy : a.eval y = .agg cells)
  (t : TypeId) (old : Array Value) (hg : HasO w g (.cells old t (0, 0))) (hi : (P.info? ty).map (·.size) = some cells.size)
  (hold : old.size = cells.size) (h1 : cells.all (·.oneCell') = true)
  (h : wpList P ops Q rest (a.put o.dst undef) wz) : wpList P ops Q (o :: rest) a w := by
 have hwz := hwz.out
 subst hwz
 exact wpList_storeAgg hgd ty x y ho g cells hx hy t old hg hi hold h1 (fun _ e => e ▸ h)
def numE (f r : Int) (xs : List Int) (bl : Bool) (ca pa ha fu : Int) : Int × Int :=
 if pvB f r xs bl ca pa ha fu then (if validB (ofM f r xs xs.length) then (if countN (ofM f r xs xs.length) ≤ 1048576 then
  (if ca ≠ 0 ∨ (0 ≤ pa ∧ 0 < (if bl then (ofM f r xs xs.length).b0 else (ofM f r xs xs.length).w0)) then (0, 9) else (((numN xs bl : Nat) : Int), 0)) else (0, 7)) else (0, 7)) else (0, 2)
end Go.Proofs.YtddkhnnpeonbgaaGreatDoor
namespace Go.Proofs.YtddkhnnpeonbgaaGreatDoor
open Go.RowKit

theorem wpAnyIn_inv {F : Fence} {n : Nat} {P : Program} {md : Region.Mode} {ops : Array Oper} {Q : Exit → Act → World → Prop} (hb : edgesBack md ops = true) (I : (Nat → Bool) → Act → World → Prop)
  (hcong : ∀ S S' a w, (∀ i, i < ops.size → S i = S' i) → I S a w → I S' a w)
  (hstep : ∀ S a w i (hi : i < ops.size), S i = false → (∀ e ∈ ops[i].after, Region.binds md e = true → S e.on = true) → I S a w →
   if Region.wanted ops[i] (yielded ops a.tmps) = true then (ops[i]).wpIn F n P a w (I (upd S i)) Q else False)
  (hend : ∀ S a w, (∀ i, i < ops.size → S i = true) → I S a w → Q .normal a w) :
  ∀ (fuel : Nat) (listed : Array Bool) (a : Act) (w : World), listed.size = ops.size → listed.toList.countP (· == false) ≤ fuel → I (fun i => listed.getD i false) a w → wpAnyIn F n P md ops Q fuel listed a w := by
 have hall : ∀ (listed : Array Bool), listed.size = ops.size → Region.ready md ops listed = [] → ∀ i, i < ops.size → listed.getD i false = true := by
  intro listed hs hr i
  induction i using Nat.strongRecOn with
  | _ i ih =>
   intro hi
   rcases hl : listed.getD i false with _ | _
   ·exfalso
    have : i ∈ Region.ready md ops listed := ready_of_least hb hi (by
     have h2 : i < listed.size := by omega
     simp only [Array.getD_eq_getD_getElem?, Array.getElem?_eq_getElem h2, Option.getD_some] at hl ⊢
     exact hl) (fun j hj => ih j hj (by omega))
    rw [hr] at this; cases this
   ·rfl
 intro fuel
 induction fuel with
 | zero =>
  intro listed a w hs hc hI
  have ht : ∀ i, i < ops.size → listed.getD i false = true := by
   intro i hi
   have h2 : i < listed.size := by omega
   have h0 : listed.toList.countP (· == false) = 0 := by omega
   rw [List.countP_eq_zero] at h0
   have := h0 listed[i] (by simp)
   simp only [Array.getD_eq_getD_getElem?, Array.getElem?_eq_getElem h2, Option.getD_some]
   simpa using this
  refine ⟨?_, hend _ a w ht hI⟩
  unfold Region.ready
  rw [List.filter_eq_nil_iff]
  intro i hi
  have hi := List.mem_range.1 hi
  have h2 : i < listed.size := by omega
  have := ht i hi
  simp only [Array.getD_eq_getD_getElem?, Array.getElem?_eq_getElem h2, Option.getD_some] at this ⊢
  simp [this]
 | succ fuel ih =>
  intro listed a w hs hc hI
  refine ⟨fun hr => hend _ a w (hall listed hs hr) hI, fun i hi => ?_⟩
  unfold Region.ready at hi
  rw [List.mem_filter] at hi
  obtain ⟨hi, hrd⟩ := hi
  have hi := List.mem_range.1 hi
  have h2 : i < listed.size := by omega
  have ho : ops[i]? = some ops[i] := Array.getElem?_eq_getElem hi
  rw [ho] at hrd
  simp only [Option.map_some, Option.getD_some, Bool.and_eq_true, Bool.not_eq_true'] at hrd
  obtain ⟨hl, he⟩ := hrd
  have hl' : listed[i] = false := by simpa [Array.getD_eq_getD_getElem?, Array.getElem?_eq_getElem h2] using hl
  rw [Array.all_eq_true] at he
  have hk : ∀ a' w', I (upd (fun i => listed.getD i false) i) a' w' → wpAnyIn F n P md ops Q fuel (listed.setIfInBounds i true) a' w' := by
   intro a' w' h
   refine ih _ a' w' (by simpa using hs) ?_ (hcong _ _ _ _ (fun j hj => ?_) h)
   ·have h3 : listed.toList.countP (· == false) = (listed.setIfInBounds i true).toList.countP (· == false) + 1 := by
     rw [Array.toList_setIfInBounds, List.countP_set (by simpa using h2)]
     have hp : 0 < listed.toList.countP (· == false) := List.countP_pos_iff.2 ⟨listed[i], by simp, by simp [hl']⟩
     rw [Array.getElem_toList, hl']
     simp only [beq_self_eq_true, if_true, Bool.true_eq_false, beq_iff_eq, if_false]
     omega
    omega
   ·unfold upd
    by_cases e : j = i
    ·subst e; simp [Array.getD_eq_getD_getElem?, h2]
    ·have e' : i ≠ j := fun h => e h.symm
     simp [e, Array.getD_eq_getD_getElem?, Array.getElem?_setIfInBounds_ne e']
  have hs2 := hstep (fun i => listed.getD i false) a w i hi (by simp [Array.getD_eq_getD_getElem?, Array.getElem?_eq_getElem h2, hl']) (fun e hm hbd => by
   obtain ⟨k, hk, rfl⟩ := Array.getElem_of_mem hm
   have := he k hk
   simpa [hbd] using this) hI
  unfold wpOpIn
  rw [ho]
  simp only []
  by_cases hw : Region.wanted ops[i] (yielded ops a.tmps) = true
  ·rw [if_pos hw] at hs2 ⊢
   exact Oper.wpIn_mono hk hs2
  ·rw [if_neg hw] at hs2
   exact hs2.elim

theorem wpIn_region_inv {F : Fence} {n : Nat} {P : Program} {id : Nat} {ops : Array Oper} {Q : Exit → Act → World → Prop} {a : Act} {w : World} (hm : P.follows .mixedOrders = true) (hb : edgesBack .any ops = true) (I : (Nat → Bool) → Act → World → Prop)
  (hcong : ∀ S S' a w, (∀ i, i < ops.size → S i = S' i) → I S a w → I S' a w)
  (h0 : I (fun _ => false) a w.drew)
  (hstep : ∀ S a w i (hi : i < ops.size), S i = false → (∀ e ∈ ops[i].after, Region.binds .any e = true → S e.on = true) → I S a w →
   if Region.wanted ops[i] (yielded ops a.tmps) = true then (ops[i]).wpIn F n P a w (I (upd S i)) Q else False)
  (hend : ∀ S a w, (∀ i, i < ops.size → S i = true) → I S a w → Q .normal a w) : (Code.region id ops true).wpIn F n P Q a w := by
 refine wpIn_region_any hm (wpAnyIn_inv hb I hcong hstep hend _ _ _ _ (by simp) ?_ (hcong _ _ _ _ (fun i hi => by simp [Array.getD_eq_getD_getElem?, hi]) h0))
 simp [List.countP_replicate]

theorem wpIn_region_relL {F : Fence} {n : Nat} {P : Program} {id : Nat} {ops : Array Oper} {Q : Exit → Act → World → Prop} {a : Act} {w : World} (hm : P.follows .mixedOrders = true) (hb : edgesBack .any ops = true)
  (ds : List (Option Tmp)) (hds : ops.toList.map (·.dst) = ds) (hok : dstsOk ds = true)
  (R : (Nat → Bool) → (Nat → Value) → World → Prop) (hcong : ∀ S S' f w, (∀ i, i < ops.size → S i = S' i) → R S f w → R S' f w) (h0 : ∀ f, R (fun _ => false) f w.drew)
  (hstep : ∀ S i o f w, ops[i]? = some o → i < ops.size → S i = false → (∀ e ∈ o.after, Region.binds .any e = true → S e.on = true) →
   (∀ j o', S j = true → ops[j]? = some o' → ∀ e ∈ o'.after, Region.binds .any e = true → S e.on = true) → R S f w →
   ∀ K : Act → World → Prop, (∀ u w', R (upd S i) (fun j => if j = i then u else f j) w' → K ((putL ds f 0 a).put o.dst u) w') →
   if Region.wanted o (yielded ops (putL ds f 0 a).tmps) = true then o.wpIn F n P (putL ds f 0 a) w K Q else False)
  (hend : ∀ S f w, (∀ i, i < ops.size → S i = true) → R S f w → Q .normal (putL ds f 0 a) w) : (Code.region id ops true).wpIn F n P Q a w := by
 refine wpIn_region_inv hm hb (fun S a' w => ∃ f, a' = putL ds f 0 a ∧ R S f w ∧
  (∀ j o', S j = true → ops[j]? = some o' → ∀ e ∈ o'.after, Region.binds .any e = true → S e.on = true)) ?_ ⟨tmps0 ds a, (putL_self _ _ _ _ (fun i t h => by simp [tmps0, h]) hok).symm, h0 _, fun j o' h => (by cases h)⟩ ?_ ?_
 ·rintro S S' a' w hS ⟨f, h1, h2, h4⟩
  refine ⟨f, h1, hcong _ _ _ _ hS h2, fun j o' hj ho e he hbd => ?_⟩
  have hj2 : j < ops.size := (Array.getElem?_eq_some_iff.1 ho).1
  have hb' := hb
  unfold edgesBack at hb'
  rw [List.all_eq_true] at hb'
  have h := hb' j (List.mem_range.2 hj2)
  rw [ho] at h
  simp only [Option.map_some, Option.getD_some] at h
  rw [Array.all_eq_true] at h
  obtain ⟨k, hk, rfl⟩ := Array.getElem_of_mem he
  have h5 := h k hk
  rw [hbd] at h5
  simp only [Bool.not_true, Bool.false_or, decide_eq_true_eq] at h5
  rw [← hS _ (by omega)]
  exact h4 j o' (by rw [hS _ hj2]; exact hj) ho _ he hbd
 ·rintro S a' w i hi hSi hpre ⟨f, rfl, hR, hcl⟩
  refine hstep S i _ f w (Array.getElem?_eq_getElem hi) hi hSi hpre hcl hR _ ?_
  intro u w' hR'
  refine ⟨_, by have := putL_at ds hok f 0 a i _ (dst_at hds hi) u; rw [Nat.zero_add] at this; exact this, hR', fun j o' hj ho e he hbd => ?_⟩
  unfold upd at hj ⊢
  by_cases e2 : e.on = i
  ·simp [e2]
  ·simp only [e2, if_false]
   by_cases e3 : j = i
   ·subst e3
    have : o' = ops[j] := by rw [Array.getElem?_eq_getElem hi] at ho; exact (Option.some.inj ho).symm
    subst this
    exact hpre e he hbd
   ·simp only [e3, if_false] at hj
    exact hcl j o' hj ho e he hbd
 ·rintro S a' w hS ⟨f, rfl, hR, _⟩
  exact hend S f w hS hR
theorem wpIn_region_last {F : Fence} {n : Nat} {P : Program} {id : Nat} {ops : Array Oper} {Q : Exit → Act → World → Prop} {a : Act} {w : World} (hm : P.follows .mixedOrders = true) (hb : edgesBack .any ops = true)
  (ds : List (Option Tmp)) (hds : ops.toList.map (·.dst) = ds) (hok : dstsOk ds = true) (z : Nat) (hz : ops.size = z + 1) (hall : allInto ops z = true)
  (vals : Nat → Value) (C C' : World → Prop) (h0 : C w.drew)
  (hstep : ∀ i o f W, ops[i]? = some o → i < ops.size → i ≠ z → C W → (∀ e ∈ o.after, Region.binds .any e = true → f e.on = vals e.on) → ∀ K : Act → World → Prop, (∀ W', C W' → K ((putL ds f 0 a).put o.dst (vals i)) W') →
   if Region.wanted o (yielded ops (putL ds f 0 a).tmps) = true then o.wpIn F n P (putL ds f 0 a) W K Q else False)
  (hturn : ∀ o f W, ops[z]? = some o → C W → (∀ e ∈ o.after, Region.binds .any e = true → f e.on = vals e.on) → ∀ K : Act → World → Prop, (∀ W', C' W' → K ((putL ds f 0 a).put o.dst (vals z)) W') →
   if Region.wanted o (yielded ops (putL ds f 0 a).tmps) = true then o.wpIn F n P (putL ds f 0 a) W K Q else False)
  (hend : ∀ f W, C' W → (∀ i, i < ops.size → f i = vals i) → Q .normal (putL ds f 0 a) W) : (Code.region id ops true).wpIn F n P Q a w := by
 have hlt : ∀ (i : Nat) (o : Oper), ops[i]? = some o → ∀ e ∈ o.after, Region.binds .any e = true → e.on < ops.size := by
  intro i o ho e he hbd
  have hi : i < ops.size := (Array.getElem?_eq_some_iff.1 ho).1
  have hb' := hb
  unfold edgesBack at hb'
  rw [List.all_eq_true] at hb'
  have h := hb' i (List.mem_range.2 hi)
  rw [ho] at h
  simp only [Option.map_some, Option.getD_some, Array.all_eq_true', Bool.or_eq_true, Bool.not_eq_true', decide_eq_true_eq] at h
  rcases h e he with h | h
  ·rw [hbd] at h; cases h
  ·omega
 refine wpIn_region_relL hm hb ds hds hok (fun S f W => (∀ i, i < ops.size → S i = true → f i = vals i) ∧ (S z = false → C W) ∧ (S z = true → C' W)) ?_ ?_ ?_ ?_
 ·rintro S S' f W hS ⟨h1, h2, h3⟩
  refine ⟨fun i hi h => h1 i hi (by rw [hS i hi]; exact h), fun h => h2 (by rw [hS z (by omega)]; exact h), fun h => h3 (by rw [hS z (by omega)]; exact h)⟩
 ·intro f
  exact ⟨fun i _ h => (by cases h), fun _ => h0, fun h => (by cases h)⟩
 ·rintro S i o f W ho hi hSi hpre hcl ⟨h1, h2, h3⟩ K hK
  by_cases hiz : i = z
  ·subst hiz
   refine hturn o f W ho (h2 hSi) (fun e he hbd => h1 e.on (hlt i o ho e he hbd) (hpre e he hbd)) K (fun W' hC' => hK _ _ ⟨fun j hj h => ?_, fun h => ?_, fun _ => hC'⟩)
   ·by_cases e : j = i
    ·simp [e]
    ·simp only [upd, if_neg e] at h
     simp only [if_neg e]; exact h1 j hj h
   ·simp [upd] at h
  ·have hSz : S z = false := by
    rcases hs : S z with _ | _
    ·rfl
    ·rw [allInto_up hall hs hcl (z - i) i (by omega)] at hSi; cases hSi
   refine hstep i o f W ho hi hiz (h2 hSz) (fun e he hbd => h1 e.on (hlt i o ho e he hbd) (hpre e he hbd)) K (fun W' hC' => hK _ _ ⟨fun j hj h => ?_, fun _ => hC', fun h => ?_⟩)
   ·by_cases e : j = i
    ·simp [e]
    ·simp only [upd, if_neg e] at h
     simp only [if_neg e]; exact h1 j hj h
   ·have : upd S i z = S z := by simp only [upd, if_neg (fun e : z = i => hiz e.symm)]
    rw [this, hSz] at h; cases h
 ·rintro S f W hall2 ⟨h1, h2, h3⟩
  exact hend f W (h3 (hall2 z (by omega))) (fun i hi => h1 i hi (hall2 i hi))


section
variable {F : Fence} {n : Nat} {P : Program} {o : Oper} {a : Act} {w : World} {K : Act → World → Prop} {Q : Exit → Act → World → Prop}
theorem wpIn_v (s : Sem Value) (hx : execOp a.eval o = (do pure (.value (← s)))) (hab : o.about P w a.eval = none) (hs : o.semAt F.round a.eval = execOp a.eval o) (h : o.wp P a w K Q) : o.wpIn F n P a w K Q := by
 unfold Oper.wp at h
 unfold Oper.wpIn
 rw [hs, hx]
 rw [hx] at h
 refine ⟨fun f hf => (by rw [hab] at hf; cases hf), ?_⟩
 simp only [Sem.run_bind] at h ⊢
 cases hr : s.run P w with
 | ok v w' => rw [hr] at h; simp only [Result.andThen_ok, Sem.run_pure] at h ⊢; exact h
 | halt x w' => rw [hr] at h; cases x <;> exact h
theorem wpIn_u (s : Sem Unit) (hx : execOp a.eval o = (do s; pure .skip)) (hab : o.about P w a.eval = none) (hs : o.semAt F.round a.eval = execOp a.eval o) (h : o.wp P a w K Q) : o.wpIn F n P a w K Q := by
 unfold Oper.wp at h
 unfold Oper.wpIn
 rw [hs, hx]
 rw [hx] at h
 refine ⟨fun f hf => (by rw [hab] at hf; cases hf), ?_⟩
 simp only [Sem.run_bind] at h ⊢
 cases hr : s.run P w with
 | ok v w' => rw [hr] at h; simp only [Result.andThen_ok, Sem.run_pure] at h ⊢; exact h
 | halt x w' => rw [hr] at h; cases x <;> exact h
def plainB : Op → Bool
 | .move _ | .assign _ | .load .. | .store .. | .fieldAddr .. | .indexAddr .. | .binOp .. => true
 | _ => false
theorem wpIn_plain (hp : plainB o.op = true) (h : o.wp P a w K Q) : o.wpIn F n P a w K Q := by
 have hs : ∀ ro, o.semAt ro a.eval = execOp a.eval o := fun ro => Oper.semAt_eq ro a.eval o (fun c e => by rw [e] at hp; cases hp)
 cases ho : o.op
 case move x => exact wpIn_v (pure (a.eval x)) (by unfold execOp; rw [ho]; rfl) (by unfold Oper.about; rw [ho]) (hs _) h
 case assign x => exact wpIn_v (pure (a.eval x)) (by unfold execOp; rw [ho]; rfl) (by unfold Oper.about; rw [ho]) (hs _) h
 case load t x => exact wpIn_v (Instr.loadAt t (a.eval x)) (by unfold execOp; rw [ho]) (by unfold Oper.about; rw [ho]) (hs _) h
 case store t x y => exact wpIn_u (Instr.storeAt t (a.eval x) (a.eval y)) (by unfold execOp; rw [ho]) (by unfold Oper.about; rw [ho]) (hs _) h
 case fieldAddr t x f => exact wpIn_v (Instr.fieldAt t (a.eval x) f) (by unfold execOp; rw [ho]) (by unfold Oper.about; rw [ho]) (hs _) h
 case indexAddr t x y => exact wpIn_v (Instr.indexAt t (a.eval x) (a.eval y)) (by unfold execOp; rw [ho]) (by unfold Oper.about; rw [ho]) (hs _) h
 case binOp b t x y t2 => exact wpIn_v (do eqGuard b t x y (a.eval x) (a.eval y); binOp b t (a.eval x) (a.eval y)) (by unfold execOp; rw [ho]) (by unfold Oper.about; rw [ho]) (hs _) h
 all_goals (rw [ho] at hp; cases hp)
theorem wanted_none {t : Nat → Option Bool} (hg : o.guard = none) : Region.wanted o t = true := by
 unfold Region.wanted; rw [hg]
theorem st_in {t : Nat → Option Bool} {X Y : Prop} (hg : o.guard = none) (hp : plainB o.op = true) (h : if Region.wanted o t = true then o.wp P a w K Q else X) : if Region.wanted o t = true then o.wpIn F n P a w K Q else Y := by
 rw [if_pos (wanted_none hg)] at h ⊢
 exact wpIn_plain hp h
theorem st_nilIn {t : Nat → Option Bool} {Y : Prop} (hg : o.guard = none) (x : Operand) (ho : o.op = .nilCheck x) {p : Addr} (hx : a.eval x = .pointer (some p)) (h : K (a.put o.dst (.pointer (some p))) w) : if Region.wanted o t = true then o.wpIn F n P a w K Q else Y := by
 rw [if_pos (wanted_none hg)]
 have hs : ∀ ro, o.semAt ro a.eval = execOp a.eval o := fun ro => Oper.semAt_eq ro a.eval o (fun c e => by rw [e] at ho; cases ho)
 refine wpIn_v (pure (.pointer (some p))) (by unfold execOp; simp only [ho, hx]; rfl) (by unfold Oper.about; rw [ho]) (hs _) ?_
 unfold Oper.wp execOp
 simp only [ho, hx, Sem.run_pure]
 exact h
end
end Go.Proofs.YtddkhnnpeonbgaaGreatDoor
