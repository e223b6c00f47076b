import Derived.Test.YtnpomigmeieofaaGreatDoorI20
import Derived.Test.YtnpomigmeieofaaGreatDoorI37
namespace Go.Proofs.YtnpomigmeieofaaGreatDoor
open Go.RowKit
attribute [local go_sem] Oper.semAt_some

theorem litP (T : Array Value) (h : T.size = 141) : T = #[ofA T 0, ofA T 1, ofA T 2, ofA T 3, ofA T 4, ofA T 5, ofA T 6, ofA T 7, ofA T 8, ofA T 9, ofA T 10, ofA T 11, ofA T 12, ofA T 13, ofA T 14, ofA T 15, ofA T 16, ofA T 17, ofA T 18, ofA T 19, ofA T 20, ofA T 21, ofA T 22, ofA T 23, ofA T 24, ofA T 25, ofA T 26, ofA T 27, ofA T 28, ofA T 29, ofA T 30, ofA T 31, ofA T 32, ofA T 33, ofA T 34, ofA T 35, ofA T 36, ofA T 37, ofA T 38, ofA T 39, ofA T 40, ofA T 41, ofA T 42, ofA T 43, ofA T 44, ofA T 45, ofA T 46, ofA T 47, ofA T 48, ofA T 49, ofA T 50, ofA T 51, ofA T 52, ofA T 53, ofA T 54, ofA T 55, ofA T 56, ofA T 57, ofA T 58, ofA T 59, ofA T 60, ofA T 61, ofA T 62, ofA T 63, ofA T 64, ofA T 65, ofA T 66, ofA T 67, ofA T 68, ofA T 69, ofA T 70, ofA T 71, ofA T 72, ofA T 73, ofA T 74, ofA T 75, ofA T 76, ofA T 77, ofA T 78, ofA T 79, ofA T 80, ofA T 81, ofA T 82, ofA T 83, ofA T 84, ofA T 85, ofA T 86, ofA T 87, ofA T 88, ofA T 89, ofA T 90, ofA T 91, ofA T 92, ofA T 93, ofA T 94, ofA T 95, ofA T 96, ofA T 97, ofA T 98, ofA T 99, ofA T 100, ofA T 101, ofA T 102, ofA T 103, ofA T 104, ofA T 105, ofA T 106, ofA T 107, ofA T 108, ofA T 109, ofA T 110, ofA T 111, ofA T 112, ofA T 113, ofA T 114, ofA T 115, ofA T 116, ofA T 117, ofA T 118, ofA T 119, ofA T 120, ofA T 121, ofA T 122, ofA T 123, ofA T 124, ofA T 125, ofA T 126, ofA T 127, ofA T 128, ofA T 129, ofA T 130, ofA T 131, ofA T 132, ofA T 133, ofA T 134, ofA T 135, ofA T 136, ofA T 137, ofA T 138, ofA T 139, ofA T 140] := by
 have := arr_lit T
 rw [h] at this
 exact this
def Ld (Bs : List (Nat × Obj)) (W : World) : Prop := ∀ x ∈ Bs, HasO W x.1 x.2
theorem Ld.alt {Bs : List (Nat × Obj)} {lo hi : Nat} {W W' : World} (h : Ld Bs W) (ha : Alt lo hi W W') (hl : ∀ x ∈ Bs, x.1 < lo) : Ld Bs W' := fun x hx => ha.hasO (h x hx) (.inl (hl x hx))
theorem Ld.call {Bs : List (Nat × Obj)} {W W' : World} (h : Ld Bs W) (hb : Below W.heap.size W W') : Ld Bs W' := fun x hx => (h x hx).call hb
theorem wpIn_region_valsL {F : Fence} {n : Nat} {P : Program} {id : Nat} {ops : Array Oper} {Q : Exit → Act → World → Prop} {a : Act} {w : World} (hm : P.follows .mixedOrders = true) (hb : edgesBack .any ops = true)
  (ds : List (Option Tmp)) (hds : ops.toList.map (·.dst) = ds) (hok : dstsOk ds = true) (vals : Nat → Value) (C : World → Prop) (h0 : C w.drew)
  (hstep : ∀ i o f W, ops[i]? = some o → i < ops.size → C W → (∀ e ∈ o.after, Region.binds .any e = true → f e.on = vals e.on) → ∀ K : Act → World → Prop, (∀ W', C W' → K ((putL ds f 0 a).put o.dst (vals i)) W') →
   if Region.wanted o (yielded ops (putL ds f 0 a).tmps) = true then o.wpIn F n P (putL ds f 0 a) W K Q else False)
  (hend : ∀ f W, C W → (∀ i, i < ops.size → f i = vals i) → Q .normal (putL ds f 0 a) W) : (Code.region id ops true).wpIn F n P Q a w := by
 have hlt : ∀ (i : Nat) (o : Oper), ops[i]? = some o → ∀ e ∈ o.after, Region.binds .any e = true → e.on < ops.size := by
  intro i o ho e he hbd
  have hi : i < ops.size := (Array.getElem?_eq_some_iff.1 ho).1
  have hb' := hb
  unfold edgesBack at hb'
  rw [List.all_eq_true] at hb'
  have h := hb' i (List.mem_range.2 hi)
  rw [ho] at h
  simp only [Option.map_some, Option.getD_some, Array.all_eq_true', Bool.or_eq_true, Bool.not_eq_true', decide_eq_true_eq] at h
  rcases h e he with h | h
  ·rw [hbd] at h; cases h
  ·omega
 refine wpIn_region_relL hm hb ds hds hok (fun S f W => (∀ i, i < ops.size → S i = true → f i = vals i) ∧ C W) ?_ ?_ ?_ ?_
 ·rintro S S' f W hS ⟨h1, h2⟩
  exact ⟨fun i hi h => h1 i hi (by rw [hS i hi]; exact h), h2⟩
 ·intro f
  exact ⟨fun i _ h => (by cases h), h0⟩
 ·rintro S i o f W ho hi hSi hpre hcl ⟨h1, h2⟩ K hK
  refine hstep i o f W ho hi h2 (fun e he hbd => h1 e.on (hlt i o ho e he hbd) (hpre e he hbd)) K (fun W' hC' => hK _ _ ⟨fun j hj h => ?_, hC'⟩)
  by_cases e : j = i
  ·simp [e]
  ·simp only [upd, if_neg e] at h
   simp only [if_neg e]; exact h1 j hj h
 ·rintro S f W hall2 ⟨h1, h2⟩
  exact hend f W h2 (fun i hi => h1 i hi (hall2 i hi))
end Go.Proofs.YtnpomigmeieofaaGreatDoor
namespace Go.Proofs.YtnpomigmeieofaaGreatDoor
open Go.RowKit

def Vs (k : Nat) (v : Nat → Value) (S : Nat → Bool) (f : Nat → Value) : Prop := ∀ i, i < k → S i = true → f i = v i
theorem Vs.put {k i : Nat} {v : Nat → Value} {S : Nat → Bool} {f : Nat → Value} (h : Vs k v S f) : Vs k v (upd S i) (fun j => if j = i then v i else f j) := by
 intro j hj hs
 by_cases e : j = i
 ·simp [e]
 ·simp only [upd, if_neg e] at hs
  simp only [if_neg e]; exact h j hj hs
theorem Vs.past {k i : Nat} {v : Nat → Value} {S : Nat → Bool} {f : Nat → Value} {u : Value} (h : Vs k v S f) (hi : k ≤ i) : Vs k v (upd S i) (fun j => if j = i then u else f j) := by
 intro j hj hs
 have e : j ≠ i := by omega
 simp only [upd, if_neg e] at hs
 simp only [if_neg e]; exact h j hj hs
theorem upd_ne {S : Nat → Bool} {i j : Nat} (h : j ≠ i) : upd S i j = S j := by simp [upd, h]
def s6R (w1 : World) (v : Nat → Value) (s : Nat) (S : Nat → Bool) (f : Nat → Value) (W : World) : Prop :=
 Below w1.heap.size w1 W ∧ Vs 7 v S f ∧ (S 7 = true → ∃ g, f 7 = .pointer (some ⟨g, 0, none⟩) ∧ w1.heap.size ≤ g ∧ TabW g W) ∧
 (S 8 = true → ∃ q, f 8 = .pointer (some ⟨q, 0, none⟩) ∧ w1.heap.size ≤ q ∧ HasO W q (.cells #[.int .i64 (if S 10 then (s : Int) else 0)] 3 (0, 0))) ∧
 (S 9 = true → ∃ q, f 9 = .pointer (some ⟨q, 0, none⟩) ∧ w1.heap.size ≤ q ∧ ∃ x, HasO W q (.cells #[x] 77 (0, 0)) ∧ (S 11 = true → x = f 7)) ∧
 (S 10 = true → S 8 = true) ∧ (S 11 = true → S 7 = true ∧ S 9 = true)
section
variable {w1 W : World} {v : Nat → Value} {s : Nat} {S : Nat → Bool} {f : Nat → Value}
theorem s6_congr (S S' : Nat → Bool) (f : Nat → Value) (W : World) (hS : ∀ i, i < 12 → S i = S' i) (h : s6R w1 v s S f W) : s6R w1 v s S' f W := by
 obtain ⟨h0, h1, h⟩ := h
 rw [hS 7 (by omega), hS 8 (by omega), hS 9 (by omega), hS 10 (by omega), hS 11 (by omega)] at h
 exact ⟨h0, fun i hi hs => h1 i hi (by rw [hS i (by omega)]; exact hs), h⟩
theorem s6_init (f : Nat → Value) : s6R w1 v s (fun _ => false) f w1.drew :=
 ⟨(Below.refl _ _).drew, fun i _ h => (by cases h), fun h => (by cases h), fun h => (by cases h), fun h => (by cases h), fun h => (by cases h), fun h => (by cases h)⟩
theorem s6_val (h : s6R w1 v s S f W) {i : Nat} (hi : i < 7) : s6R w1 v s (upd S i) (fun j => if j = i then v i else f j) W := by
 obtain ⟨hC, h0, h7, h8, h9, h10, h11⟩ := h
 have n7 : (7 : Nat) ≠ i := by omega
 have n8 : (8 : Nat) ≠ i := by omega
 have n9 : (9 : Nat) ≠ i := by omega
 have n10 : (10 : Nat) ≠ i := by omega
 have n11 : (11 : Nat) ≠ i := by omega
 refine ⟨hC, h0.put, ?_, ?_, ?_, ?_, ?_⟩
 ·rw [upd_ne n7]; simpa [n7] using h7
 ·rw [upd_ne n8, upd_ne n10]; simpa [n8] using h8
 ·rw [upd_ne n9, upd_ne n11]; simpa [n9, n7] using h9
 ·rw [upd_ne n10, upd_ne n8]; exact h10
 ·rw [upd_ne n11, upd_ne n7, upd_ne n9]; exact h11
theorem s6_7 (h : s6R w1 v s S f W) (hS : S 7 = false) {W' : World} {g : Nat} (hb : Below W.heap.size W W') (hg : w1.heap.size ≤ g) (ht : TabW g W') :
  s6R w1 v s (upd S 7) (fun j => if j = 7 then .pointer (some ⟨g, 0, none⟩) else f j) W' := by
 obtain ⟨hC, h0, h7, h8, h9, h10, h11⟩ := h
 have hS11 : S 11 = false := by
  rcases h : S 11 with _ | _
  ·rfl
  ·rw [(h11 h).1] at hS; cases hS
 refine ⟨below_call hC hC.size hb, h0.past (Nat.le_refl _), fun _ => ⟨g, by simp, hg, ht⟩, ?_, ?_, by simpa [upd] using h10, by simp [upd, hS11]⟩
 ·intro hs
  obtain ⟨q, e, hq, ho⟩ := h8 (by simpa [upd] using hs)
  exact ⟨q, by simpa using e, hq, by simpa [upd] using ho.call hb⟩
 ·intro hs
  obtain ⟨q, e, hq, x, ho, _⟩ := h9 (by simpa [upd] using hs)
  exact ⟨q, by simpa using e, hq, x, ho.call hb, by simp [upd, hS11]⟩
theorem s6_8 (h : s6R w1 v s S f W) (hS : S 8 = false) : s6R w1 v s (upd S 8) (fun j => if j = 8 then .pointer (some ⟨W.heap.size, 0, none⟩) else f j) (W.alloc (.cells #[.int .i64 0] 3)) := by
 obtain ⟨hC, h0, h7, h8, h9, h10, h11⟩ := h
 have hS10 : S 10 = false := by
  rcases h : S 10 with _ | _
  ·rfl
  ·rw [h10 h] at hS; cases hS
 have hb := below_box W (.cells #[.int .i64 0] 3)
 refine ⟨below_call hC hC.size hb, h0.past (by omega), ?_, fun _ => ⟨W.heap.size, by simp, hC.size, by simp [upd, hS10]; exact HasO.new _ _⟩, ?_, by simp [upd, hS10], by simpa [upd] using h11⟩
 ·intro hs
  obtain ⟨g, e, hg, ht⟩ := h7 (by simpa [upd] using hs)
  exact ⟨g, by simpa using e, hg, ht.call hb⟩
 ·intro hs
  obtain ⟨q, e, hq, x, ho, hx⟩ := h9 (by simpa [upd] using hs)
  exact ⟨q, by simpa using e, hq, x, ho.call hb, by simpa [upd] using hx⟩
theorem s6_9 (h : s6R w1 v s S f W) (hS : S 9 = false) : s6R w1 v s (upd S 9) (fun j => if j = 9 then .pointer (some ⟨W.heap.size, 0, none⟩) else f j) (W.alloc (.cells #[.pointer none] 77)) := by
 obtain ⟨hC, h0, h7, h8, h9, h10, h11⟩ := h
 have hS11 : S 11 = false := by
  rcases h : S 11 with _ | _
  ·rfl
  ·rw [(h11 h).2] at hS; cases hS
 have hb := below_box W (.cells #[.pointer none] 77)
 refine ⟨below_call hC hC.size hb, h0.past (by omega), ?_, ?_, fun _ => ⟨W.heap.size, by simp, hC.size, _, HasO.new _ _, by simp [upd, hS11]⟩, by simpa [upd] using h10, by simp [upd, hS11]⟩
 ·intro hs
  obtain ⟨g, e, hg, ht⟩ := h7 (by simpa [upd] using hs)
  exact ⟨g, by simpa using e, hg, ht.call hb⟩
 ·intro hs
  obtain ⟨q, e, hq, ho⟩ := h8 (by simpa [upd] using hs)
  exact ⟨q, by simpa using e, hq, by simpa [upd] using ho.call hb⟩
theorem s6_10 (h : s6R w1 v s S f W) (hS8 : S 8 = true) {q : Nat} (e8 : f 8 = .pointer (some ⟨q, 0, none⟩)) :
  s6R w1 v s (upd S 10) (fun j => if j = 10 then undef else f j) (W.setCell ⟨q, 0, none⟩ (.int .i64 (s : Nat))) := by
 obtain ⟨hC, h0, h7, h8, h9, h10, h11⟩ := h
 obtain ⟨q', e', hq, ho⟩ := h8 hS8
 rw [e8] at e'
 injection e' with e'; injection e' with e'; injection e' with e'
 subst e'
 have hA : Alt q (q + 1) W (W.setCell ⟨q, 0, none⟩ (.int .i64 (s : Nat))) := Alt.setCell ⟨Nat.le_refl _, Nat.lt_succ_self _⟩
 refine ⟨hC.setCell (p := ⟨q, 0, none⟩) hq _, h0.past (by omega), ?_, ?_, ?_, fun _ => by simpa [upd] using hS8, by simpa [upd] using h11⟩
 ·intro hs
  obtain ⟨g, e, hg, ht⟩ := h7 (by simpa [upd] using hs)
  have hne := ht.ne ho
  exact ⟨g, by simpa using e, hg, ht.alt hA (by omega)⟩
 ·intro _
  refine ⟨q, by simpa using e8, hq, ?_⟩
  have := ho.set_ 0 (.int .i64 (s : Nat))
  simpa [upd] using this
 ·intro hs
  obtain ⟨q9, e, hq9, x, ho9, hx⟩ := h9 (by simpa [upd] using hs)
  have hne : q9 ≠ q := by
   rintro rfl
   unfold HasO at ho ho9
   rw [ho] at ho9; injection ho9 with ho9; injection ho9 with _ ho9; cases ho9
  exact ⟨q9, by simpa using e, hq9, x, hA.hasO ho9 (by omega), by simpa [upd] using hx⟩
theorem s6_11 (h : s6R w1 v s S f W) (hS7 : S 7 = true) (hS9 : S 9 = true) {q : Nat} (e9 : f 9 = .pointer (some ⟨q, 0, none⟩)) :
  s6R w1 v s (upd S 11) (fun j => if j = 11 then undef else f j) (W.setCell ⟨q, 0, none⟩ (f 7)) := by
 obtain ⟨hC, h0, h7, h8, h9, h10, h11⟩ := h
 obtain ⟨g, e7, hg, ht⟩ := h7 hS7
 obtain ⟨q', e', hq, x, ho, _⟩ := h9 hS9
 rw [e9] at e'
 injection e' with e'; injection e' with e'; injection e' with e'
 subst e'
 have hne := ht.ne ho
 have hA : Alt q (q + 1) W (W.setCell ⟨q, 0, none⟩ (f 7)) := Alt.setCell ⟨Nat.le_refl _, Nat.lt_succ_self _⟩
 refine ⟨hC.setCell (p := ⟨q, 0, none⟩) hq _, h0.past (by omega), fun _ => ⟨g, by simpa using e7, hg, ht.alt hA (by omega)⟩, ?_, fun _ => ⟨q, by simpa using e9, hq, f 7, ho.set_ 0 (f 7), by simp⟩, by simpa [upd] using h10, by simp [upd, hS7, hS9]⟩
 intro hs
 obtain ⟨q8, e, hq8, ho8⟩ := h8 (by simpa [upd] using hs)
 have hne : q8 ≠ q := by
  rintro rfl
  unfold HasO at ho ho8
  rw [ho] at ho8; injection ho8 with ho8; injection ho8 with _ ho8; cases ho8
 exact ⟨q8, by simpa using e, hq8, by simpa [upd] using hA.hasO ho8 (by omega)⟩
end
def s7R (w1 : World) (v : Nat → Value) (F R : Int) (s : Nat) (S : Nat → Bool) (f : Nat → Value) (W : World) : Prop :=
 Below w1.heap.size w1 W ∧ Vs 3 v S f ∧
 (S 3 = true → ∃ g, f 3 = .slice (some ⟨g, 0, none⟩) s s ∧ w1.heap.size ≤ g ∧ HasO W g (pcs (List.replicate s 0)) ∧ (S 4 = true → f 4 = .agg (posCs F R (some ⟨g, 0, none⟩) s s false 0 (-1) 0 1).toArray)) ∧
 (S 5 = true → ∃ q old, f 5 = .pointer (some ⟨q, 0, none⟩) ∧ w1.heap.size ≤ q ∧ HasO W q (.cells old 40 (0, 0)) ∧ old.size = 8 ∧ (S 6 = true → f 4 = .agg old)) ∧
 (S 4 = true → S 3 = true) ∧ (S 6 = true → S 4 = true ∧ S 5 = true)
section
variable {w1 W : World} {v : Nat → Value} {F R : Int} {s : Nat} {S : Nat → Bool} {f : Nat → Value}
theorem s7_congr (S S' : Nat → Bool) (f : Nat → Value) (W : World) (hS : ∀ i, i < 7 → S i = S' i) (h : s7R w1 v F R s S f W) : s7R w1 v F R s S' f W := by
 obtain ⟨h0, h1, h⟩ := h
 rw [hS 3 (by omega), hS 4 (by omega), hS 5 (by omega), hS 6 (by omega)] at h
 exact ⟨h0, fun i hi hs => h1 i hi (by rw [hS i (by omega)]; exact hs), h⟩
theorem s7_init (f : Nat → Value) : s7R w1 v F R s (fun _ => false) f w1.drew :=
 ⟨(Below.refl _ _).drew, fun i _ h => (by cases h), fun h => (by cases h), fun h => (by cases h), fun h => (by cases h), fun h => (by cases h)⟩
theorem s7_val (h : s7R w1 v F R s S f W) {i : Nat} (hi : i < 3) : s7R w1 v F R s (upd S i) (fun j => if j = i then v i else f j) W := by
 obtain ⟨hC, h0, h3, h5, h4, h6⟩ := h
 have n3 : (3 : Nat) ≠ i := by omega
 have n4 : (4 : Nat) ≠ i := by omega
 have n5 : (5 : Nat) ≠ i := by omega
 have n6 : (6 : Nat) ≠ i := by omega
 refine ⟨hC, h0.put, ?_, ?_, ?_, ?_⟩
 ·rw [upd_ne n3, upd_ne n4]; simpa [n3, n4] using h3
 ·rw [upd_ne n5, upd_ne n6]; simpa [n4, n5] using h5
 ·rw [upd_ne n4, upd_ne n3]; exact h4
 ·rw [upd_ne n6, upd_ne n4, upd_ne n5]; exact h6
theorem s7_3 (h : s7R w1 v F R s S f W) (hS : S 3 = false) : s7R w1 v F R s (upd S 3) (fun j => if j = 3 then .slice (some ⟨W.heap.size, 0, none⟩) s s else f j) (W.alloc (pcs (List.replicate s 0))) := by
 obtain ⟨hC, h0, h3, h5, h4, h6⟩ := h
 have hS4 : S 4 = false := by
  rcases h : S 4 with _ | _
  ·rfl
  ·rw [h4 h] at hS; cases hS
 have hb := below_box W (pcs (List.replicate s 0))
 refine ⟨below_call hC hC.size hb, h0.past (by omega), fun _ => ⟨W.heap.size, by simp, hC.size, HasO.new _ _, by simp [upd, hS4]⟩, ?_, by simp [upd, hS4], by simpa [upd] using h6⟩
 intro hs
 obtain ⟨q, old, e, hq, ho, hz, hx⟩ := h5 (by simpa [upd] using hs)
 exact ⟨q, old, by simpa using e, hq, ho.call hb, hz, by simpa [upd] using hx⟩
theorem s7_4 (h : s7R w1 v F R s S f W) (hS : S 4 = false) (hS3 : S 3 = true) {g : Nat} (e3 : f 3 = .slice (some ⟨g, 0, none⟩) s s) :
  s7R w1 v F R s (upd S 4) (fun j => if j = 4 then .agg (posCs F R (some ⟨g, 0, none⟩) s s false 0 (-1) 0 1).toArray else f j) W := by
 obtain ⟨hC, h0, h3, h5, h4, h6⟩ := h
 have hS6 : S 6 = false := by
  rcases h : S 6 with _ | _
  ·rfl
  ·rw [(h6 h).1] at hS; cases hS
 refine ⟨hC, h0.past (by omega), ?_, ?_, fun _ => by simpa [upd] using hS3, by simp [upd, hS6]⟩
 ·intro _
  obtain ⟨g', e, hg, ho, _⟩ := h3 hS3
  rw [e3] at e
  injection e with e; injection e with e; injection e with e
  subst e
  exact ⟨g, by simpa using e3, hg, ho, fun _ => by simp⟩
 ·intro hs
  obtain ⟨q, old, e, hq, ho, hz, hx⟩ := h5 (by simpa [upd] using hs)
  exact ⟨q, old, by simpa using e, hq, ho, hz, by simp [upd, hS6]⟩
theorem s7_5 (h : s7R w1 v F R s S f W) (hS : S 5 = false) : s7R w1 v F R s (upd S 5) (fun j => if j = 5 then .pointer (some ⟨W.heap.size, 0, none⟩) else f j) (W.alloc (.cells (posCs 0 0 none 0 0 false 0 0 0 0).toArray 40)) := by
 obtain ⟨hC, h0, h3, h5, h4, h6⟩ := h
 have hS6 : S 6 = false := by
  rcases h : S 6 with _ | _
  ·rfl
  ·rw [(h6 h).2] at hS; cases hS
 have hb := below_box W (.cells (posCs 0 0 none 0 0 false 0 0 0 0).toArray 40)
 refine ⟨below_call hC hC.size hb, h0.past (by omega), ?_, fun _ => ⟨W.heap.size, _, by simp, hC.size, HasO.new _ _, by rfl, by simp [upd, hS6]⟩, by simpa [upd] using h4, by simp [upd, hS6]⟩
 intro hs
 obtain ⟨g, e, hg, ho, hx⟩ := h3 (by simpa [upd] using hs)
 exact ⟨g, by simpa using e, hg, ho.call hb, by simpa [upd] using hx⟩
theorem s7_6 (h : s7R w1 v F R s S f W) (hS4 : S 4 = true) (hS5 : S 5 = true) {q : Nat} {cells : Array Value} (e5 : f 5 = .pointer (some ⟨q, 0, none⟩)) (e4 : f 4 = .agg cells) (hz : cells.size = 8) :
  s7R w1 v F R s (upd S 6) (fun j => if j = 6 then undef else f j) (W.setRow q cells) := by
 obtain ⟨hC, h0, h3, h5, h4, h6⟩ := h
 obtain ⟨q', old, e', hq, ho, hz', _⟩ := h5 hS5
 rw [e5] at e'
 injection e' with e'; injection e' with e'; injection e' with e'
 subst e'
 have hA := setRow_alt W q cells
 refine ⟨hA.below hC hq hC.size, h0.past (by omega), ?_, fun _ => ⟨q, cells, by simpa using e5, hq, setRow_hasO ho, hz, fun _ => by simpa using e4⟩, by simpa [upd] using h4, by simp [upd, hS4, hS5]⟩
 intro hs
 obtain ⟨g, e, hg, hog, hx⟩ := h3 (by simpa [upd] using hs)
 have hne : g ≠ q := by
  rintro rfl
  unfold HasO at ho hog
  rw [hog] at ho; injection ho with ho; injection ho with _ ho; cases ho
 exact ⟨g, by simpa using e, hg, hA.hasO hog (by omega), by simpa [upd] using hx⟩
end
end Go.Proofs.YtnpomigmeieofaaGreatDoor
namespace Go.Proofs.YtnpomigmeieofaaGreatDoor
open Go.RowKit

def splF (sep : UInt8) (acc : List (List UInt8)) (c : UInt8) : List (List UInt8) := if c = sep then acc ++ [[]] else acc.dropLast ++ [acc.getLastD [] ++ [c]]
def splT (sep : UInt8) (s : List UInt8) : Nat → List (List UInt8)
 | 0 => [[]]
 | k + 1 => splF sep (splT sep s k) (s[k]?.getD 0)
theorem splT_len (sep : UInt8) (s : List UInt8) : ∀ k, 1 ≤ (splT sep s k).length ∧ (splT sep s k).length ≤ k + 1 := by
 intro k
 induction k with
 | zero => simp [splT]
 | succ k ih =>
  simp only [splT, splF]
  split
  ·simp; omega
  ·simp; omega
theorem splT_word (sep : UInt8) (s : List UInt8) : ∀ k, ∀ l ∈ splT sep s k, l.length ≤ k := by
 intro k
 induction k with
 | zero => intro l hl; simp [splT] at hl; simp [hl]
 | succ k ih =>
  intro l hl
  simp only [splT, splF] at hl
  split at hl
  ·rcases List.mem_append.1 hl with h | h
   ·exact Nat.le_succ_of_le (ih l h)
   ·simp at h; simp [h]
  ·rcases List.mem_append.1 hl with h | h
   ·exact Nat.le_succ_of_le (ih l (List.dropLast_subset _ h))
   ·simp only [List.mem_singleton] at h
    rw [h, List.length_append, List.length_singleton]
    have hne : splT sep s k ≠ [] := fun h0 => by have := (splT_len sep s k).1; rw [h0] at this; simp at this
    have hm := ih ((splT sep s k).getLast hne) (List.getLast_mem hne)
    rw [List.getLastD_eq_getLast?, List.getLast?_eq_some_getLast hne]
    simp only [Option.getD_some]
    omega
def spl (sep : UInt8) (s : List UInt8) : List (List UInt8) := splT sep s s.length

def ltrS : List UInt8 := [112, 110, 98, 114, 113, 107, 97, 99, 100, 101, 102, 103, 104, 105, 106]
def ltrL : List UInt8 := [80, 78, 66, 82, 81, 75, 65, 67, 68, 69, 70, 71, 72, 73, 74]
def ltrOf (p : Int) : UInt8 := if p < 0 then ltrS[(-p - 1).toNat]?.getD 0 else ltrL[(p - 1).toNat]?.getD 0
def ltrP (c : UInt8) : Nat → Int
 | 0 => 0
 | k + 1 => if (15 - (k : Int)) ≠ 0 ∧ ltrOf (15 - (k : Int)) = c then 15 - (k : Int) else ltrP c k
def rowF (acc : Option (List Int × Bool)) (c : UInt8) : Option (List Int × Bool) :=
 match acc with
 | none => none
 | some (l, d) => if 49 ≤ c.toNat ∧ c.toNat ≤ 56 then (if d then none else some (l ++ List.replicate (c.toNat - 48) 0, true)) else (if ltrP c 31 = 0 then none else some (l ++ [ltrP c 31], false))
def rowT (s : List UInt8) : Nat → Option (List Int × Bool)
 | 0 => some ([], false)
 | k + 1 => rowF (rowT s k) (s[k]?.getD 0)
end Go.Proofs.YtnpomigmeieofaaGreatDoor
namespace Go.Proofs.YtnpomigmeieofaaGreatDoor
open Go.RowKit

theorem info9 : (Tryz.prog.info? 9).map (fun i => (i.zero, i.size, i.bytes)) = some (some (.string (str [])), 1, 16) := by kernel_rfl
abbrev strV (l : List UInt8) : Value := .string (str l)
def SplR (sep : UInt8) (s : List UInt8) (w : World) (k : Nat) (v : Value) (W : World) : Prop :=
 k ≤ s.length ∧ (∃ g c, v = .slice (some ⟨g, 0, none⟩) (splT sep s k).length c) ∧ W.ownsRow w.heap.size 9 1 v (splT sep s k).length ((splT sep s k).map strV) ∧ Below w.heap.size w W
theorem splT_last (sep : UInt8) (s : List UInt8) (k : Nat) : (splT sep s k)[(splT sep s k).length - 1]? = some ((splT sep s k).getLastD []) := by
 have h := (splT_len sep s k).1
 rcases hl : splT sep s k with _ | ⟨a, l⟩
 ·rw [hl] at h; simp at h
 ·rw [List.getLastD_eq_getLast?, ← List.getLast?_eq_getElem?]
  rw [List.getLast?_eq_some_getLast (by simp)]; rfl
theorem splT_set {sep : UInt8} {s : List UInt8} {k : Nat} (h : s[k]?.getD 0 ≠ sep) : ((splT sep s k).map strV).set ((splT sep s k).length - 1) (strV ((splT sep s k).getLastD [] ++ [s[k]?.getD 0])) = (splT sep s (k + 1)).map strV := by
 have h1 := (splT_len sep s k).1
 simp only [splT, splF, if_neg h]
 generalize splT sep s k = L at *
 rcases List.eq_nil_or_concat L with rfl | ⟨l, x, rfl⟩
 ·simp at h1
 ·simp [List.concat_eq_append]
theorem splT_len_ne {sep : UInt8} {s : List UInt8} {k : Nat} (h : s[k]?.getD 0 ≠ sep) : (splT sep s (k + 1)).length = (splT sep s k).length := by
 have h1 := (splT_len sep s k).1
 simp only [splT, splF, if_neg h]
 simp; omega
theorem str_slice1 (l : List UInt8) {i : Nat} (h : i < l.length) (W : World) : (Instr.sliceAt 9 (.string (str l)) (some (.int .i64 i)) (some (.int .i64 ((i : Int) + 1))) none).run Tryz.prog W = .ok (.string (str [l[i]?.getD 0])) W := by
 have hz : (str l).size = l.length := str_size l
 have e : (str l).extract i (i + 1) = str [l[i]?.getD 0] := by
  apply ByteArray.ext
  simp only [ByteArray.data_extract, str]
  apply Array.ext'
  simp only [List.extract_toArray, List.extract_eq_take_drop, Nat.add_sub_cancel_left, List.drop_eq_getElem_cons h, List.take_succ_cons, List.take_zero]
  simp [h]
 simp [Instr.sliceAt, go_sem, hz, h]
 rw [if_pos (by omega), if_pos (by omega), e]
 simp [h]
theorem own_shape {W : World} {base n : Nat} {t : TypeId} {v : Value} {xs : List Value} (h : W.ownsRow base t 1 v n xs) (hne : v ≠ .slice none 0 0) : ∃ g c, v = .slice (some ⟨g, 0, none⟩) n c := by
 rcases h.2 with ⟨h1, h2⟩ | ⟨g, cap, cur, h1, _⟩
 ·exact absurd h1 hne
 ·exact ⟨_, _, h1⟩
set_option maxRecDepth 100000 in
set_option maxHeartbeats 2000000 in
theorem split_any (s : List UInt8) (w : World) (hs : s.length ≤ 1000) : Calls Tryz.prog 78 #[.string (str s)] w fun e w' => (∃ v, e = .returned v ∧ (∃ g c, v = .slice (some ⟨g, 0, none⟩) (spl 32 s).length c) ∧ w'.ownsRow w.heap.size 9 1 v (spl 32 s).length ((spl 32 s).map strV)) ∧ Below w.heap.size w w' := by
 obtain ⟨i9, hi9, hz9, hs9, hy9⟩ := info_parts info9
 have hz := str_size s
 go_enter Tryz.func78, Tryz.ntmps78
 go_wp2_with fail
 have hB0 := below_box w (.cells #[.string (str [])] 9)
 have hO0 : (w.alloc (.cells #[.string (str [])] 9)).ownsRow w.heap.size 9 1 (.slice (some ⟨w.heap.size, 0, none⟩) 1 1) 1 [strV []] := World.ownsRow_lit w #[.string (str [])] 1 (Nat.le_refl _) (by decide) rfl
 show Code.wp _ _ _ _ (w.alloc (.cells #[.string (str [])] 9))
 generalize w.alloc (.cells #[.string (str [])] 9) = w1 at *
 go_loopg [3, 4] 1001 (fun q sv iv wr => ∃ i : Nat, q + i = 1001 ∧ iv = .int .i64 i ∧ SplR 32 s w i sv wr)
 case atStart => exact ⟨0, rfl, rfl, ⟨Nat.zero_le _, ⟨_, _, rfl⟩, hO0, hB0⟩⟩
 case round =>
  obtain ⟨i, hq, rfl, ⟨hi, ⟨g, c, rfl⟩, hown, hbr⟩⟩ := hrel
  by_cases hlt : i < s.length
  ·have hii : (i : Int) < s.length := by omega
   have hix := fun W => str_index s hlt W
   have hsl := fun W => str_slice1 s hlt W
   obtain ⟨x, hx⟩ : ∃ x, x = s[i]?.getD 0 := ⟨_, rfl⟩
   obtain ⟨y, hy⟩ : ∃ y : Int, y = x.toNat := ⟨_, rfl⟩
   rw [← hx] at hsl
   simp only [← hx, ← hy] at hix
   obtain ⟨n, hn⟩ : ∃ n, n = (splT 32 s i).length := ⟨_, rfl⟩
   have hn1 : 1 ≤ n ∧ n ≤ i + 1 := by rw [hn]; exact splT_len 32 s i
   replace hx := Lib.hid hx
   by_cases h32 : x = 32
   ·have h32i : y = 32 := by rw [hy, h32]; rfl
    have hnx : splT 32 s (i + 1) = splT 32 s i ++ [[]] := by simp only [splT, splF]; rw [← hx.out, if_pos h32]
    replace hnx := Lib.hid hnx
    rw [← hn] at hown ⊢
    replace hn := Lib.hid hn
    clear hy h32 hsl
    go_wp2_with (at_builtin; refine wpList_push rfl (.tmp 16) (.tmp 17) 68 rfl w.heap.size 9 i9 (.string (str [])) 1 16 Tryz.underlying68 hi9 hz9 hs9 hy9 rfl (by decide) _ n ((splT 32 s i).map strV) rfl hown [strV []] rfl (by intro u hu; simp at hu; subst hu; rfl) _ rfl rfl (by omega) hbr.size ?_)
    intro v' w9 hown9 hg9 hne
    have hb9 := hbr.grown hg9 hbr.size (fun j e => (hown.lt j e).1)
    have hl9 : (splT 32 s (i + 1)).length = n + 1 := by rw [hnx.out, hn.out]; simp
    replace hown9 : w9.ownsRow w.heap.size 9 1 v' (splT 32 s (i + 1)).length ((splT 32 s (i + 1)).map strV) := by rw [hl9, hnx.out]; simpa using hown9
    replace hl9 := Lib.hid hl9
    clear hown hg9
    go_wp2_with fail
    go_roundg (gk - 1)
    case measure => omega
    case rel => exact ⟨i + 1, by omega, by go_num, ⟨by omega, own_shape hown9 hne, hown9, hb9⟩⟩
   ·have h32i : (y == 32) = false := by rw [hy]; simp; intro h; exact h32 (UInt8.toNat_inj.1 (by have : (x.toNat : Int) = 32 := h; show x.toNat = 32; omega))
    have hne : s[i]?.getD 0 ≠ 32 := by rw [← hx.out]; exact h32
    have hnx := splT_set (sep := 32) (s := s) (k := i) hne
    have hln := splT_len_ne (sep := 32) (s := s) (k := i) hne
    rw [← hx.out] at hnx
    have hlc : wr.cell? ⟨g, n - 1, none⟩ = some (strV ((splT 32 s i).getLastD [])) := by
     rw [hown.cellAt (n - 1) (by omega), List.getElem?_map, hn, splT_last]; rfl
    have hgl : g < wr.heap.size := (hown.lt g rfl).2
    have hfz := hown.frozenAt (n - 1)
    obtain ⟨l, hl⟩ : ∃ l, l = (splT 32 s i).getLastD [] := ⟨_, rfl⟩
    rw [← hl] at hlc hnx
    have hap := str_append l [x]
    have hst := hown.stored (n - 1) (strV (l ++ [x]))
    rw [hn] at hst
    rw [hnx] at hst
    rw [← hn] at hst hown ⊢
    replace hnx := Lib.hid hnx
    replace hn := Lib.hid hn
    replace hln := Lib.hid hln
    have hlz : (str l).size ≤ 1000 := by
     rw [str_size, hl, List.getLastD_eq_getLast?, List.getLast?_eq_some_getLast (l := splT 32 s i) (fun h0 => by have := hn.out; rw [h0] at this; simp at this; omega)]
     exact Nat.le_trans (splT_word 32 s i _ (List.getLast_mem _)) (by omega)
    have hxz : (str [x]).size = 1 := rfl
    replace hl := Lib.hid hl
    replace hst := Lib.hid hst
    have hn0 : IntKind.i64.wrap ((n : Int) - 1) = ((n - 1 : Nat) : Int) := by rw [IntWalk.i64_in _ (by omega)]; omega
    clear hy h32 hne
    go_wp2_with fail
    have hst := hst.out
    go_region
    have hgb := (hown.lt g rfl).1
    have hown9 := (hown.stored (n - 1) (strV (l ++ [x]))).1.drew
    rw [show ((splT 32 s i).map strV).set (n - 1) (strV (l ++ [x])) = (splT 32 s (i + 1)).map strV by rw [hn.out]; exact hnx.out] at hown9
    have hb9 : Below w.heap.size w (wr.setCell ⟨g, n - 1, none⟩ (strV (l ++ [x]))).drew := (hbr.setCell hgb _).drew
    have e9 := Lib.hid (hln.out.trans hn.out.symm)
    generalize (wr.setCell ⟨g, n - 1, none⟩ (strV (l ++ [x]))).drew = w9 at *
    clear hown hst
    go_wp2_with fail
    go_roundg (gk - 1)
    case measure => omega
    case rel => exact ⟨i + 1, by omega, by go_num, by unfold SplR; rw [e9.out]; exact ⟨by omega, ⟨g, c, rfl⟩, hown9, hb9⟩⟩
  ·have hii : ¬ (i : Int) < s.length := by omega
   obtain rfl : i = s.length := by omega
   go_wp2_with fail
   go_ret
   exact ⟨⟨_, rfl, ⟨_, _, rfl⟩, hown⟩, hbr⟩
end Go.Proofs.YtnpomigmeieofaaGreatDoor
namespace Go.Proofs.YtnpomigmeieofaaGreatDoor
open Go.RowKit

theorem idx_low (k : Nat) (hk : k < 15) (W : World) : (Instr.index 9 (.string { data := #[112, 110, 98, 114, 113, 107, 97, 99, 100, 101, 102, 103, 104, 105, 106] }) (.int .i8 k)).run Tryz.prog W = .ok (.int .u8 ((ltrS[k]?.getD 0).toNat : Int)) W := by
 rcases (by omega : k = 0 ∨ k = 1 ∨ k = 2 ∨ k = 3 ∨ k = 4 ∨ k = 5 ∨ k = 6 ∨ k = 7 ∨ k = 8 ∨ k = 9 ∨ k = 10 ∨ k = 11 ∨ k = 12 ∨ k = 13 ∨ k = 14) with rfl | rfl | rfl | rfl | rfl | rfl | rfl | rfl | rfl | rfl | rfl | rfl | rfl | rfl | rfl <;> kernel_rfl
theorem idx_up (k : Nat) (hk : k < 15) (W : World) : (Instr.index 9 (.string { data := #[80, 78, 66, 82, 81, 75, 65, 67, 68, 69, 70, 71, 72, 73, 74] }) (.int .i8 k)).run Tryz.prog W = .ok (.int .u8 ((ltrL[k]?.getD 0).toNat : Int)) W := by
 rcases (by omega : k = 0 ∨ k = 1 ∨ k = 2 ∨ k = 3 ∨ k = 4 ∨ k = 5 ∨ k = 6 ∨ k = 7 ∨ k = 8 ∨ k = 9 ∨ k = 10 ∨ k = 11 ∨ k = 12 ∨ k = 13 ∨ k = 14) with rfl | rfl | rfl | rfl | rfl | rfl | rfl | rfl | rfl | rfl | rfl | rfl | rfl | rfl | rfl <;> kernel_rfl
theorem letter_any (p : Int) (h1 : -15 ≤ p) (h2 : p ≤ 15) (h0 : p ≠ 0) (w : World) : Calls Tryz.prog 165 #[.int .i8 p] w fun e w' => e = .returned (.int .u8 ((ltrOf p).toNat : Int)) ∧ w = w' := by
 by_cases h : p < 0
 ·have hix := idx_low (-p - 1).toNat (by omega)
  rw [show (((-p - 1).toNat : Nat) : Int) = -p - 1 by omega] at hix
  have hv : ltrOf p = ltrS[(-p - 1).toNat]?.getD 0 := if_pos h
  rw [← hv] at hix
  have e1 : IntKind.i8.wrap (-p) = -p := IntWalk.i8_in _ (by omega)
  have e2 : IntKind.i8.wrap (-p - 1) = -p - 1 := IntWalk.i8_in _ (by omega)
  clear hv
  go_enter Tryz.func165, Tryz.ntmps165
  go_wp2_with fail
  go_ret
  exact ⟨rfl, rfl⟩
 ·have hix := idx_up (p - 1).toNat (by omega)
  rw [show (((p - 1).toNat : Nat) : Int) = p - 1 by omega] at hix
  have hv : ltrOf p = ltrL[(p - 1).toNat]?.getD 0 := if_neg h
  rw [← hv] at hix
  have e2 : IntKind.i8.wrap (p - 1) = p - 1 := IntWalk.i8_in _ (by omega)
  clear hv
  go_enter Tryz.func165, Tryz.ntmps165
  go_wp2_with fail
  go_ret
  exact ⟨rfl, rfl⟩
set_option maxHeartbeats 800000 in
set_option maxRecDepth 100000 in
theorem ltrParse_any (c : UInt8) (w : World) : Calls Tryz.prog 128 #[.int .u8 c.toNat] w fun e w' => e = .returned (.int .i8 (ltrP c 31)) ∧ w = w' := by
 obtain ⟨y, hy⟩ : ∃ y : Int, y = c.toNat := ⟨_, rfl⟩
 obtain ⟨V, hV⟩ : ∃ V, V = ltrP c 31 := ⟨_, rfl⟩
 rw [← hy, ← hV]
 replace hV := Lib.hid hV
 replace hy := Lib.hid hy
 go_enter Tryz.func128, Tryz.ntmps128
 go_wp2_with fail
 go_loopg [3] 32 (fun q pv wr => ∃ i : Nat, q + i = 32 ∧ i ≤ 31 ∧ pv = .int .i8 ((i : Int) - 15) ∧ w = wr ∧ Hid (V = ltrP c (31 - i)))
 case atStart => exact ⟨0, rfl, by omega, rfl, rfl, hV⟩
 case round =>
  obtain ⟨i, hq, hi, rfl, rfl, hv⟩ := hrel
  obtain ⟨p, hp⟩ : ∃ p : Int, p = (i : Int) - 15 := ⟨_, rfl⟩
  rw [← hp]
  by_cases hlt : i < 31
  ·have hle : p ≤ 15 := by omega
   have hst : ltrP c (31 - i) = if p ≠ 0 ∧ ltrOf p = c then p else ltrP c (31 - (i + 1)) := by
    rw [show 31 - i = (30 - i) + 1 by omega, show 31 - (i + 1) = 30 - i by omega, ltrP, show (15 : Int) - ((30 - i : Nat) : Int) = p by omega]
   have e1 : IntKind.i8.wrap (p + 1) = ((i + 1 : Nat) : Int) - 15 := by rw [IntWalk.i8_in _ (by omega)]; omega
   by_cases h0 : p = 0
   ·have hv2 : Hid (V = ltrP c (31 - (i + 1))) := Lib.hid (by rw [hv.out, hst, if_neg (by simp [h0])])
    subst h0
    clear hst hv
    go_wp2_with fail
    go_roundg (gk - 1)
    case measure => omega
    case rel => exact ⟨i + 1, by omega, by omega, by go_num, rfl, hv2⟩
   ·have h0b : (p != 0) = true := by simp [h0]
    have hlet := letter_any p (by omega) (by omega) h0
    rcases hc : (((ltrOf p).toNat : Int) == y) with _ | _
    ·have hv2 : Hid (V = ltrP c (31 - (i + 1))) := Lib.hid (by
      rw [hv.out, hst, if_neg]
      rintro ⟨_, h⟩
      rw [h, hy.out] at hc; simp at hc)
     replace hp := Lib.hid hp
     clear hst hv
     go_wp2_with fail
     refine (hlet _).mono ?_
     rintro e w1 ⟨rfl, rfl⟩
     go_wp2_with fail
     go_roundg (gk - 1)
     case measure => omega
     case rel => exact ⟨i + 1, by omega, by omega, by go_num, rfl, hv2⟩
    ·have hv2 : Hid (V = p) := Lib.hid (by
      rw [hv.out, hst, if_pos]
      refine ⟨h0, UInt8.toNat_inj.1 ?_⟩
      have : ((ltrOf p).toNat : Int) = y := by simpa using hc
      have := hy.out
      omega)
     replace hp := Lib.hid hp
     clear hst hv
     go_wp2_with fail
     refine (hlet _).mono ?_
     rintro e w1 ⟨rfl, rfl⟩
     go_wp2_with fail
     obtain rfl : V = p := hv2.out
     clear hV hv2
     go_ret
     exact ⟨rfl, rfl⟩
  ·have hle : ¬ p ≤ 15 := by omega
   have hv2 : Hid (V = 0) := Lib.hid (by rw [hv.out, show 31 - i = 0 by omega]; rfl)
   replace hp := Lib.hid hp
   go_wp2_with fail
   obtain rfl : V = 0 := hv2.out
   clear hV hv2
   go_ret
   exact ⟨rfl, rfl⟩

def digC (d : Nat) : UInt8 := UInt8.ofNat (48 + d)
theorem dec_slice (d : Nat) (hd : d < 10) (W : World) : (Instr.sliceAt 9 (.string { data := #[48, 49, 50, 51, 52, 53, 54, 55, 56, 57] }) (some (.int .i64 d)) (some (.int .i64 ((d : Int) + 1))) none).run Tryz.prog W = .ok (.string (str [digC d])) W := by
 rcases (by omega : d = 0 ∨ d = 1 ∨ d = 2 ∨ d = 3 ∨ d = 4 ∨ d = 5 ∨ d = 6 ∨ d = 7 ∨ d = 8 ∨ d = 9) with rfl | rfl | rfl | rfl | rfl | rfl | rfl | rfl | rfl | rfl <;> kernel_rfl
theorem decimal_any (d : Nat) (hd : d < 10) (w : World) : Calls Tryz.prog 80 #[.int .i64 d] w fun e w' => e = .returned (.string (str [digC d])) ∧ w = w' := by
 have hsl := dec_slice d hd
 have hd1 : (d : Int) < 10 := by omega
 go_enter Tryz.func80, Tryz.ntmps80
 go_wp2_with fail
 go_ret
 exact ⟨rfl, rfl⟩
end Go.Proofs.YtnpomigmeieofaaGreatDoor
