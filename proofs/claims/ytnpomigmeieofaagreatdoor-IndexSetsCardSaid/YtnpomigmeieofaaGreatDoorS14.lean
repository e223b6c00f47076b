import Derived.Test.YtnpomigmeieofaaGreatDoorS13
set_option maxHeartbeats 12800000
namespace Go.Proofs.YtnpomigmeieofaaGreatDoor
open Go.RowKit

def cellP (w1 : World) (S : Nat → Bool) (f : Nat → Value) (W : World) (i j : Nat) (P : Array Value) : Prop :=
 S i = true → ∃ q, f i = .pointer (some ⟨q, 0, none⟩) ∧ w1.heap.size ≤ q ∧ ∃ old, HasO W q (.cells old 98 (0, 0)) ∧ old.size = 2 ∧ (S j = true → old = P)
def twoR (w1 : World) (sz : Array Value) (A B : Int) (P1 P2 : Array Value) (S : Nat → Bool) (f : Nat → Value) (W : World) : Prop :=
 Below w1.heap.size w1 W ∧ (S 0 = true → f 0 = .agg sz) ∧ (S 1 = true → f 1 = .int .i64 A) ∧ (S 2 = true → f 2 = .agg P1) ∧ (S 3 = true → f 3 = .agg sz) ∧ (S 4 = true → f 4 = .int .i64 B) ∧ (S 5 = true → f 5 = .agg P2) ∧
 cellP w1 S f W 6 8 P1 ∧ cellP w1 S f W 7 9 P2 ∧ (S 6 = true → S 7 = true → f 6 ≠ f 7)
theorem twoR_congr {w1 : World} {sz : Array Value} {A B : Int} {P1 P2 : Array Value} (S S' : Nat → Bool) (f : Nat → Value) (W : World) (h : ∀ i, i < 10 → S i = S' i) (hR : twoR w1 sz A B P1 P2 S f W) : twoR w1 sz A B P1 P2 S' f W := by
 unfold twoR cellP at hR ⊢
 rw [← h 0 (by decide), ← h 1 (by decide), ← h 2 (by decide), ← h 3 (by decide), ← h 4 (by decide), ← h 5 (by decide), ← h 6 (by decide), ← h 7 (by decide), ← h 8 (by decide), ← h 9 (by decide)]
 exact hR
theorem twoR_init {w1 : World} {sz : Array Value} {A B : Int} {P1 P2 : Array Value} (f : Nat → Value) : twoR w1 sz A B P1 P2 (fun _ => false) f w1.drew :=
 ⟨(Below.refl _ _).drew, (fun h => by cases h), (fun h => by cases h), (fun h => by cases h), (fun h => by cases h), (fun h => by cases h), (fun h => by cases h), (fun h => by cases h), (fun h => by cases h), (fun h => by cases h)⟩
theorem cellP_keep {w1 : World} {S : Nat → Bool} {f : Nat → Value} {W W' : World} {i j k : Nat} {P : Array Value} (h : cellP w1 S f W i j P) (hk : k ≠ i ∧ k ≠ j) (v : Value) (hb : Below W.heap.size W W') :
  cellP w1 (upd S k) (fun x => if x = k then v else f x) W' i j P := by
 intro hi
 have hi' : S i = true := by simpa [upd, Ne.symm hk.1] using hi
 obtain ⟨q, e1, e2, old, e3, e4, e5⟩ := h hi'
 refine ⟨q, by simp [Ne.symm hk.1, e1], e2, old, e3.call hb, e4, fun hj => e5 (by simpa [upd, Ne.symm hk.2] using hj)⟩
theorem twoR_val {w1 : World} {sz : Array Value} {A B : Int} {P1 P2 : Array Value} {S : Nat → Bool} {f : Nat → Value} {W W' : World} (hR : twoR w1 sz A B P1 P2 S f W) (i : Nat) (v : Value) (hb : Below W.heap.size W W')
  (hi : i < 6) (hv : (i = 0 → v = .agg sz) ∧ (i = 1 → v = .int .i64 A) ∧ (i = 2 → v = .agg P1) ∧ (i = 3 → v = .agg sz) ∧ (i = 4 → v = .int .i64 B) ∧ (i = 5 → v = .agg P2)) :
  twoR w1 sz A B P1 P2 (upd S i) (fun j => if j = i then v else f j) W' := by
 obtain ⟨h, h0, h1, h2, h3, h4, h5, h6, h7, h8⟩ := hR
 obtain ⟨v0, v1, v2, v3, v4, v5⟩ := hv
 refine ⟨below_call h h.size hb, ?_, ?_, ?_, ?_, ?_, ?_, cellP_keep h6 (by omega) v hb, cellP_keep h7 (by omega) v hb, fun a b => ?_⟩
 ·intro hs; by_cases e : 0 = i
  ·show (if _ = i then v else f _) = _; rw [if_pos e]; exact v0 e.symm
  ·show (if _ = i then _ else f _) = _; rw [if_neg e]; exact h0 (by simpa [upd, e] using hs)
 ·intro hs; by_cases e : 1 = i
  ·show (if _ = i then v else f _) = _; rw [if_pos e]; exact v1 e.symm
  ·show (if _ = i then _ else f _) = _; rw [if_neg e]; exact h1 (by simpa [upd, e] using hs)
 ·intro hs; by_cases e : 2 = i
  ·show (if _ = i then v else f _) = _; rw [if_pos e]; exact v2 e.symm
  ·show (if _ = i then _ else f _) = _; rw [if_neg e]; exact h2 (by simpa [upd, e] using hs)
 ·intro hs; by_cases e : 3 = i
  ·show (if _ = i then v else f _) = _; rw [if_pos e]; exact v3 e.symm
  ·show (if _ = i then _ else f _) = _; rw [if_neg e]; exact h3 (by simpa [upd, e] using hs)
 ·intro hs; by_cases e : 4 = i
  ·show (if _ = i then v else f _) = _; rw [if_pos e]; exact v4 e.symm
  ·show (if _ = i then _ else f _) = _; rw [if_neg e]; exact h4 (by simpa [upd, e] using hs)
 ·intro hs; by_cases e : 5 = i
  ·show (if _ = i then v else f _) = _; rw [if_pos e]; exact v5 e.symm
  ·show (if _ = i then _ else f _) = _; rw [if_neg e]; exact h5 (by simpa [upd, e] using hs)
 ·have e6 : ¬ 6 = i := by omega
  have e7 : ¬ 7 = i := by omega
  show (if 6 = i then v else f 6) ≠ (if 7 = i then v else f 7)
  rw [if_neg e6, if_neg e7]
  exact h8 (by simpa [upd, e6] using a) (by simpa [upd, e7] using b)
theorem cellP_lt {w1 : World} {S : Nat → Bool} {f : Nat → Value} {W : World} {i j : Nat} {P : Array Value} (h : cellP w1 S f W i j P) (hi : S i = true) : f i ≠ .pointer (some ⟨W.heap.size, 0, none⟩) := by
 obtain ⟨q, e1, e2, old, e3, _⟩ := h hi
 rw [e1]
 intro e
 injection e with e; injection e with e; injection e with e
 have := e3.lt
 omega
theorem twoR_new {w1 : World} {sz : Array Value} {A B : Int} {P1 P2 : Array Value} {S : Nat → Bool} {f : Nat → Value} {W : World} (hR : twoR w1 sz A B P1 P2 S f W) (i : Nat) (hi : i = 6 ∨ i = 7) (hS : S (i + 2) = false) :
  twoR w1 sz A B P1 P2 (upd S i) (fun j => if j = i then .pointer (some ⟨W.heap.size, 0, none⟩) else f j) (W.alloc (.cells #[.int .i64 0, .int .i64 0] 98)) := by
 obtain ⟨h, h0, h1, h2, h3, h4, h5, h6, h7, h8⟩ := hR
 have hb := below_box W (.cells #[.int .i64 0, .int .i64 0] 98)
 have hO := HasO.new W (.cells #[.int .i64 0, .int .i64 0] 98)
 refine ⟨below_call h h.size hb, ?_, ?_, ?_, ?_, ?_, ?_, ?_, ?_, ?_⟩
 ·intro hs; have e : ¬ 0 = i := by omega
  show (if _ = i then _ else f _) = _; rw [if_neg e]; exact h0 (by simpa [upd, e] using hs)
 ·intro hs; have e : ¬ 1 = i := by omega
  show (if _ = i then _ else f _) = _; rw [if_neg e]; exact h1 (by simpa [upd, e] using hs)
 ·intro hs; have e : ¬ 2 = i := by omega
  show (if _ = i then _ else f _) = _; rw [if_neg e]; exact h2 (by simpa [upd, e] using hs)
 ·intro hs; have e : ¬ 3 = i := by omega
  show (if _ = i then _ else f _) = _; rw [if_neg e]; exact h3 (by simpa [upd, e] using hs)
 ·intro hs; have e : ¬ 4 = i := by omega
  show (if _ = i then _ else f _) = _; rw [if_neg e]; exact h4 (by simpa [upd, e] using hs)
 ·intro hs; have e : ¬ 5 = i := by omega
  show (if _ = i then _ else f _) = _; rw [if_neg e]; exact h5 (by simpa [upd, e] using hs)
 ·rcases hi with rfl | rfl
  ·intro _
   exact ⟨_, rfl, h.size, _, hO, rfl, fun hj => by have hj : S 8 = true := hj; rw [hS] at hj; cases hj⟩
  ·exact cellP_keep h6 (by omega) _ hb
 ·rcases hi with rfl | rfl
  ·exact cellP_keep h7 (by omega) _ hb
  ·intro _
   exact ⟨_, rfl, h.size, _, hO, rfl, fun hj => by have hj : S 9 = true := hj; rw [hS] at hj; cases hj⟩
 ·rcases hi with rfl | rfl
  ·intro _ b
   have b : S 7 = true := b
   exact (cellP_lt h7 b).symm
  ·intro a _
   have a : S 6 = true := a
   exact cellP_lt h6 a
theorem cellP_set {w1 : World} {S : Nat → Bool} {f : Nat → Value} {W : World} {i j k : Nat} {P : Array Value} (h : cellP w1 S f W i j P) (hk : k ≠ i ∧ k ≠ j) (v : Value) {g : Nat} {cs : Array Value} (hg : S i = true → f i ≠ .pointer (some ⟨g, 0, none⟩)) :
  cellP w1 (upd S k) (fun x => if x = k then v else f x) (W.setRow g cs) i j P := by
 intro hi
 have hi' : S i = true := by simpa [upd, Ne.symm hk.1] using hi
 obtain ⟨q, e1, e2, old, e3, e4, e5⟩ := h hi'
 have hne : q ≠ g := fun e => hg hi' (by rw [e1, e])
 exact ⟨q, by simp [Ne.symm hk.1, e1], e2, old, e3.setRow_far hne, e4, fun hj => e5 (by simpa [upd, Ne.symm hk.2] using hj)⟩
theorem twoR_set1 {w1 : World} {sz : Array Value} {A B : Int} {P1 P2 : Array Value} {S : Nat → Bool} {f : Nat → Value} {W : World} (hR : twoR w1 sz A B P1 P2 S f W) (hS : S 6 = true) (h2' : P1.size = 2) (v : Value) {q : Nat} (hq : f 6 = .pointer (some ⟨q, 0, none⟩)) :
  twoR w1 sz A B P1 P2 (upd S 8) (fun j => if j = 8 then v else f j) (W.setRow q P1) := by
 obtain ⟨h, h0, h1, h2, h3, h4, h5, h6, h7, h8⟩ := hR
 obtain ⟨q', e1, e2, old, e3, e4, e5⟩ := h6 hS
 obtain rfl : q = q' := by rw [hq] at e1; injection e1 with e1; injection e1 with e1; injection e1
 refine ⟨setRow_below h e2 h.size, h0, h1, h2, h3, h4, h5, fun _ => ⟨q, hq, e2, P1, setRow_hasO e3, h2', fun _ => rfl⟩, cellP_set h7 (by decide) v (fun h7' => ?_), h8⟩
 rw [← hq]
 exact (h8 hS h7').symm
theorem twoR_set2 {w1 : World} {sz : Array Value} {A B : Int} {P1 P2 : Array Value} {S : Nat → Bool} {f : Nat → Value} {W : World} (hR : twoR w1 sz A B P1 P2 S f W) (hS : S 7 = true) (h2' : P2.size = 2) (v : Value) {q : Nat} (hq : f 7 = .pointer (some ⟨q, 0, none⟩)) :
  twoR w1 sz A B P1 P2 (upd S 9) (fun j => if j = 9 then v else f j) (W.setRow q P2) := by
 obtain ⟨h, h0, h1, h2, h3, h4, h5, h6, h7, h8⟩ := hR
 obtain ⟨q', e1, e2, old, e3, e4, e5⟩ := h7 hS
 obtain rfl : q = q' := by rw [hq] at e1; injection e1 with e1; injection e1 with e1; injection e1
 refine ⟨setRow_below h e2 h.size, h0, h1, h2, h3, h4, h5, cellP_set h6 (by decide) v (fun h6' => ?_), fun _ => ⟨q, hq, e2, P2, setRow_hasO e3, h2', fun _ => rfl⟩, h8⟩
 rw [← hq]
 exact h8 h6' hS
theorem alloc99 (W : World) : (Instr.alloc 98 true (.tuple #[])).run Tryz.prog W = .ok (.pointer (some ⟨W.heap.size, 0, none⟩)) (W.alloc (.cells #[.int .i64 0, .int .i64 0] 98)) := by kernel_rfl
theorem unwanted_undef {o : Oper} {ops : Array Oper} {ds : List (Option Tmp)} {f : Nat → Value} {a : Act} (hok : dstsOk ds = true) (j : Nat) (want : Bool) (tm : Tmp) (hgu : o.guard = some (j, want)) (hd : (ops[j]?).bind (·.dst) = some tm) (hi : ds[j]? = some (some tm)) (hs : tm < a.tmps.size) (hf : f j = undef) :
  Region.wanted o (yielded ops (putL ds f 0 a).tmps) = false := by
 have h1 := slot_in (f := f) hok j hi hs hf
 have hsz : tm < (putL ds f 0 a).tmps.size := by rw [putL_size]; exact hs
 have h2 : (putL ds f 0 a).tmps[tm]? = some undef := by
  rw [Array.getD_eq_getD_getElem?] at h1
  rcases h : (putL ds f 0 a).tmps[tm]? with _ | u
  ·rw [Array.getElem?_eq_none_iff] at h; exact absurd hsz (Nat.not_lt.2 h)
  ·rw [h] at h1; exact congrArg some h1
 have hd' : (Option.bind (ops[j]?) fun x => x.dst) = some tm := hd
 have hy : yielded ops (putL ds f 0 a).tmps j = none := by
  unfold yielded
  rw [hd', Option.bind_some, h2]
  rfl
 unfold Region.wanted
 rw [hgu]
 simp only [hy]
 rfl
theorem bin_subE {x y d : Int} {W : World} (h : IntKind.i64.wrap (x - y) = d) : (binOp .sub 3 (.int .i64 x) (.int .i64 y)).run Tryz.prog W = .ok (.int .i64 d) W := by rw [bin_sub, h]
theorem bin_eqlE {x y : Int} {d : Bool} {W : World} (h : (x == y) = d) : (binOp .eql 3 (.int .i64 x) (.int .i64 y)).run Tryz.prog W = .ok (.bool d) W := by rw [bin_eql, h]
theorem bin_addE {x y d : Int} {W : World} (h : IntKind.i64.wrap (x + y) = d) : (binOp .add 3 (.int .i64 x) (.int .i64 y)).run Tryz.prog W = .ok (.int .i64 d) W := by rw [bin_add, h]
theorem bin_mulE {x y d : Int} {W : World} (h : IntKind.i64.wrap (x * y) = d) : (binOp .mul 3 (.int .i64 x) (.int .i64 y)).run Tryz.prog W = .ok (.int .i64 d) W := by rw [bin_mul, h]
def dF (F a b : Nat) : Int := ((b % F : Nat) : Int) - ((a % F : Nat) : Int)
def dR (F a b : Nat) : Int := ((b / F : Nat) : Int) - ((a / F : Nat) : Int)
def distI (F a b : Nat) : Int := max (kindI (dF F a b)) (kindI (dR F a b))
set_option maxRecDepth 100000 in
theorem refDist_any (F R a b : Nat) (hF : 3 ≤ F ∧ F ≤ 8) (ha : a < 64) (hb : b < 64) (w : World) :
  Calls Tryz.prog 198 #[.agg #[.int .i64 F, .int .i64 R], .int .i64 a, .int .i64 b] w fun e w' => e = .returned (.int .i64 (distI F a b)) ∧ Below w.heap.size w w' := by
 have hA := HasO.new w (.cells [.int .i64 (F : Int), .int .i64 (R : Int)].toArray 23)
 have hB := below_box w (.cells [.int .i64 (F : Int), .int .i64 (R : Int)].toArray 23)
 go_enter Tryz.func198, Tryz.ntmps198
 go_wp2_with fail
 show Code.wp _ _ _ _ (w.alloc (.cells [.int .i64 (F : Int), .int .i64 (R : Int)].toArray 23))
 obtain ⟨w1, hw1⟩ : ∃ x, x = w.alloc (.cells [.int .i64 (F : Int), .int .i64 (R : Int)].toArray 23) := ⟨_, rfl⟩
 rw [← hw1] at hA hB ⊢
 clear hw1
 refine wp_region_relL (by kernel_rfl) (by kernel_rfl) [some 9, some 10, some 11, some 12, some 13, some 14, some 7, some 8, none, none] (by rfl) (by rfl) (twoR w1 [.int .i64 (F : Int), .int .i64 (R : Int)].toArray a b #[.int .i64 (a % F : Nat), .int .i64 (a / F : Nat)] #[.int .i64 (b % F : Nat), .int .i64 (b / F : Nat)]) (fun S S9 f9 W h hR => twoR_congr S S9 f9 W h hR) (fun f9 => twoR_init f9) ?hstep ?hend
 case hstep =>
  intro S i9 o9 f9 W ho hi hSj hpre hcl hR K hK
  have hi : i9 < 10 := hi
  have hR0 := hR
  obtain ⟨hC, h0, h1, h2, h3, h4, h5, h6, h7, h8⟩ := hR0
  have hsz := hA.call hC
  rcases i9 with _ | _ | _ | _ | _ | _ | _ | _ | _ | _ | i9
  ·exact st_loadA (og ho) 23 (.tmp 3) (oo ho) (rd_out rfl rfl) [.int .i64 (F : Int), .int .i64 (R : Int)] (by kernel_rfl) (fun j v hv => by rw [Nat.zero_add, hsz.cells j]; simpa using hv) (hK _ _ (twoR_val hR 0 _ (Below.refl _ _) (by decide) (by refine ⟨?_, ?_, ?_, ?_, ?_, ?_⟩ <;> intro h <;> first | rfl | (cases h))))
  ·exact st_move (og ho) (.tmp 1) (oo ho) (rd_out rfl rfl) (hK _ _ (twoR_val hR 1 _ (Below.refl _ _) (by decide) (by refine ⟨?_, ?_, ?_, ?_, ?_, ?_⟩ <;> intro h <;> first | rfl | (cases h))))
  ·exact st_call2 (og ho) 57 (.tmp 9) (.tmp 10) #[23, 3] (oo ho) (ri 0 (h0 (da ho hpre 0))) (ri 1 (h1 (da ho hpre 1))) (fun _ _ => rfl) (refPlace_any F R a hF (by omega) W) (by rintro u w9 ⟨h9, hb9⟩; injection h9 with h9; subst h9; exact hK _ _ (twoR_val hR 2 _ hb9 (by decide) (by refine ⟨?_, ?_, ?_, ?_, ?_, ?_⟩ <;> intro h <;> first | rfl | (cases h)))) (by rintro ch w9 ⟨h9, _⟩; cases h9) (by rintro w9 ⟨h9, _⟩; cases h9)
  ·exact st_loadA (og ho) 23 (.tmp 3) (oo ho) (rd_out rfl rfl) [.int .i64 (F : Int), .int .i64 (R : Int)] (by kernel_rfl) (fun j v hv => by rw [Nat.zero_add, hsz.cells j]; simpa using hv) (hK _ _ (twoR_val hR 3 _ (Below.refl _ _) (by decide) (by refine ⟨?_, ?_, ?_, ?_, ?_, ?_⟩ <;> intro h <;> first | rfl | (cases h))))
  ·exact st_move (og ho) (.tmp 2) (oo ho) (rd_out rfl rfl) (hK _ _ (twoR_val hR 4 _ (Below.refl _ _) (by decide) (by refine ⟨?_, ?_, ?_, ?_, ?_, ?_⟩ <;> intro h <;> first | rfl | (cases h))))
  ·exact st_call2 (og ho) 57 (.tmp 12) (.tmp 13) #[23, 3] (oo ho) (ri 3 (h3 (da ho hpre 3))) (ri 4 (h4 (da ho hpre 4))) (fun _ _ => rfl) (refPlace_any F R b hF (by omega) W) (by rintro u w9 ⟨h9, hb9⟩; injection h9 with h9; subst h9; exact hK _ _ (twoR_val hR 5 _ hb9 (by decide) (by refine ⟨?_, ?_, ?_, ?_, ?_, ?_⟩ <;> intro h <;> first | rfl | (cases h)))) (by rintro ch w9 ⟨h9, _⟩; cases h9) (by rintro w9 ⟨h9, _⟩; cases h9)
  ·have hS8 : S 8 = false := by
    rcases h : S 8 with _ | _
    ·rfl
    ·have := hcl 8 _ h rfl ⟨6, .data⟩ (by simp) rfl
     rw [hSj] at this; cases this
   exact st_alloc (og ho) 98 (oo ho) (alloc99 W) (hK _ _ (twoR_new hR 6 (.inl rfl) hS8))
  ·have hS9 : S 9 = false := by
    rcases h : S 9 with _ | _
    ·rfl
    ·have := hcl 9 _ h rfl ⟨7, .data⟩ (by simp) rfl
     rw [hSj] at this; cases this
   exact st_alloc (og ho) 98 (oo ho) (alloc99 W) (hK _ _ (twoR_new hR 7 (.inr rfl) hS9))
  ·have hSi := (da ho hpre 6)
   obtain ⟨q, e1, e2, old, e3, e4, e5⟩ := h6 hSi
   exact st_storeO (og ho) 98 (.tmp 7) (.tmp 11) (oo ho) (ri 6 e1) _ old 98 (ri 2 (h2 (da ho hpre 2))) e3 (by kernel_rfl) e4 (by simp [Value.oneCell']) (hK _ _ (twoR_set1 hR hSi rfl _ e1))
  ·have hSi := (da ho hpre 7)
   obtain ⟨q, e1, e2, old, e3, e4, e5⟩ := h7 hSi
   exact st_storeO (og ho) 98 (.tmp 8) (.tmp 14) (oo ho) (ri 7 e1) _ old 98 (ri 5 (h5 (da ho hpre 5))) e3 (by kernel_rfl) e4 (by simp [Value.oneCell']) (hK _ _ (twoR_set2 hR hSi rfl _ e1))
  ·omega
 case hend =>
  intro S f9 W hS hR
  obtain ⟨hC, _, _, _, _, _, _, h6, h7, h8⟩ := hR
  obtain ⟨q1, e1, l1, o1, hO1, _, z1⟩ := h6 (hS 6 (by decide))
  obtain ⟨q2, e2, l2, o2, hO2, _, z2⟩ := h7 (hS 7 (by decide))
  replace z1 := z1 (hS 8 (by decide))
  replace z2 := z2 (hS 9 (by decide))
  subst z1 z2
  clear h6 h7 h8
  simp only [putL, Act.put, List.setIfInBounds_toArray, List.set_cons_succ, List.set_cons_zero]
  rw [e1, e2]
  clear e1 e2 hS
  generalize f9 0 = u0, f9 1 = u1, f9 2 = u2, f9 3 = u3, f9 4 = u4, f9 5 = u5, f9 8 = u8, f9 9 = u9
  have hne : 0 < F := by omega
  have b1 := Nat.mod_lt a hne
  have b2 := Nat.mod_lt b hne
  have b3 := Nat.div_le_self a F
  have b4 := Nat.div_le_self b F
  have hBW := below_call hB hB.size hC
  have hdist : distI F a b = max (kindI (((b % F : Nat) : Int) - ((a % F : Nat) : Int))) (kindI (((b / F : Nat) : Int) - ((a / F : Nat) : Int))) := rfl
  generalize a % F = a0, a / F = a1, b % F = b0, b / F = b1' at *
  clear hA
  obtain ⟨df, hdf⟩ : ∃ x : Int, x = (a0 : Int) - (b0 : Int) := ⟨_, rfl⟩
  obtain ⟨dr, hdr⟩ : ∃ x : Int, x = (a1 : Int) - (b1' : Int) := ⟨_, rfl⟩
  have hdb : -100 < df ∧ df < 100 := by omega
  have hrb : -100 < dr ∧ dr < 100 := by omega
  replace hdist : distI F a b = max (kindI df) (kindI dr) := by
   rw [hdist, show ((b0 : Nat) : Int) - ((a0 : Nat) : Int) = -df by omega, show ((b1' : Nat) : Int) - ((a1 : Nat) : Int) = -dr by omega]
   unfold kindI
   congr 1 <;> (split <;> split <;> omega)
  have hwf : IntKind.i64.wrap ((a0 : Int) - (b0 : Int)) = df := by rw [← hdf]; exact IntWalk.i64_in _ (by omega)
  have hwr : IntKind.i64.wrap ((a1 : Int) - (b1' : Int)) = dr := by rw [← hdr]; exact IntWalk.i64_in _ (by omega)
  replace hdf := Lib.hid hdf
  replace hdr := Lib.hid hdr
  replace hdist := Lib.hid hdist
  go_wp2_with fail
  refine wp_region_valsL (by kernel_rfl) (by kernel_rfl) [some 15, some 16, some 17, some 18, some 19, some 20, some 21, some 22, some 23, some 24, some 25, some 26, some 27] (by rfl) (by rfl) (fun i => match i with | 0 => .pointer (some ⟨q1, 0, none⟩) | 1 => .int .i64 ((a0 : Nat) : Int) | 2 => .pointer (some ⟨q2, 0, none⟩) | 3 => .int .i64 ((b0 : Nat) : Int) | 4 => .int .i64 df | 5 => .int .i64 (kindI df) | 6 => .pointer (some ⟨q1, 1, none⟩) | 7 => .int .i64 ((a1 : Nat) : Int) | 8 => .pointer (some ⟨q2, 1, none⟩) | 9 => .int .i64 ((b1' : Nat) : Int) | 10 => .int .i64 dr | 11 => .int .i64 (kindI dr) | 12 => .bool (decide (kindI dr < kindI df)) | _ => undef) (fun W2 => Below W.heap.size W W2) (Below.refl _ _).drew ?hstep ?hend
  case hstep =>
   intro i9 o9 f9 W2 ho hi hC hf K hK
   have hi : i9 < 13 := hi
   rcases i9 with _ | _ | _ | _ | _ | _ | _ | _ | _ | _ | _ | _ | _ | i9
   ·exact st_field (og ho) 98 (.tmp 7) 0 (oo ho) (rd_out rfl rfl) (n := 0) (by kernel_rfl) (hK _ hC)
   ·exact st_loadS (og ho) 3 (.tmp 15) (oo ho) (ri 0 (da ho hf 0)) (by kernel_rfl) (((hO1.call hC).cells 0)) (hK _ hC)
   ·exact st_field (og ho) 98 (.tmp 8) 0 (oo ho) (rd_out rfl rfl) (n := 0) (by kernel_rfl) (hK _ hC)
   ·exact st_loadS (og ho) 3 (.tmp 17) (oo ho) (ri 2 (da ho hf 2)) (by kernel_rfl) (((hO2.call hC).cells 0)) (hK _ hC)
   ·exact st_bin (og ho) .sub 3 3 (.tmp 16) (.tmp 18) (oo ho) (ri 1 (da ho hf 1)) (ri 3 (da ho hf 3)) (gu_i _ _ _ _ _ _ _ _) (bin_subE hwf) (hK _ hC)
   ·exact st_call1 (og ho) 206 (.tmp 19) #[3] (oo ho) (ri 4 (da ho hf 4)) (fun _ _ => rfl) (refAbs_any df (by omega) W2) (by rintro u w9 ⟨h9, h10⟩; injection h9 with h9; subst h9; subst h10; exact hK _ hC) (fun _ _ h => nomatch h.1) (fun _ h => nomatch h.1)
   ·exact st_field (og ho) 98 (.tmp 7) 1 (oo ho) (rd_out rfl rfl) (n := 1) (by kernel_rfl) (hK _ hC)
   ·exact st_loadS (og ho) 3 (.tmp 21) (oo ho) (ri 6 (da ho hf 6)) (by kernel_rfl) (((hO1.call hC).cells 1)) (hK _ hC)
   ·exact st_field (og ho) 98 (.tmp 8) 1 (oo ho) (rd_out rfl rfl) (n := 1) (by kernel_rfl) (hK _ hC)
   ·exact st_loadS (og ho) 3 (.tmp 23) (oo ho) (ri 8 (da ho hf 8)) (by kernel_rfl) (((hO2.call hC).cells 1)) (hK _ hC)
   ·exact st_bin (og ho) .sub 3 3 (.tmp 22) (.tmp 24) (oo ho) (ri 7 (da ho hf 7)) (ri 9 (da ho hf 9)) (gu_i _ _ _ _ _ _ _ _) (bin_subE hwr) (hK _ hC)
   ·exact st_call1 (og ho) 206 (.tmp 25) #[3] (oo ho) (ri 10 (da ho hf 10)) (fun _ _ => rfl) (refAbs_any dr (by omega) W2) (by rintro u w9 ⟨h9, h10⟩; injection h9 with h9; subst h9; subst h10; exact hK _ hC) (fun _ _ h => nomatch h.1) (fun _ h => nomatch h.1)
   ·exact st_bin (og ho) .gtr 3 3 (.tmp 20) (.tmp 26) (oo ho) (ri 5 (da ho hf 5)) (ri 11 (da ho hf 11)) (gu_i _ _ _ _ _ _ _ _) (bin_gtr _ _ _) (hK _ hC)
   ·omega
  case hend =>
   intro W2 hC2
   have hc1 := (hO1.call hC2).cells
   have hc2 := (hO2.call hC2).cells
   have hl1 := (hO1.call hC2).lt
   have hl2 := (hO2.call hC2).lt
   have hBW2 := below_call hBW hBW.size hC2
   simp only [putL, Act.put, List.setIfInBounds_toArray, List.set_cons_succ, List.set_cons_zero]
   by_cases hgt : kindI dr < kindI df
   ·have e0 : Hid (distI F a b = kindI df) := Lib.hid (by rw [hdist.out]; omega)
    go_wp2_with fail
    refine (refAbs_any df (by omega) _).mono ?_
    rintro e w3 ⟨rfl, rfl⟩
    go_wp2_with fail
    go_ret
    exact ⟨by rw [e0.out]; rfl, hBW2⟩
   ·have e0 : Hid (distI F a b = kindI dr) := Lib.hid (by rw [hdist.out]; omega)
    go_wp2_with fail
    refine (refAbs_any dr (by omega) _).mono ?_
    rintro e w3 ⟨rfl, rfl⟩
    go_wp2_with fail
    go_ret
    exact ⟨by rw [e0.out]; rfl, hBW2⟩
def lineB (a b : Nat) (df dr : Int) : Bool := !decide (a = b) && (decide (df = 0) || (decide (dr = 0) || (decide (df = dr) || decide (df + dr = 0))))
def lineX (a b : Nat) (df dr x : Int) : Int := if lineB a b df dr then x else 0
set_option maxRecDepth 100000 in
theorem refLine_any (F R a b : Nat) (hF : 3 ≤ F ∧ F ≤ 8) (ha : a < 64) (hb : b < 64) (w : World) :
  Calls Tryz.prog 199 #[.agg #[.int .i64 F, .int .i64 R], .int .i64 a, .int .i64 b] w fun e w' => e = .returned (.tuple #[.int .i64 (lineX a b (dF F a b) (dR F a b) (sgnI (dF F a b))), .int .i64 (lineX a b (dF F a b) (dR F a b) (sgnI (dR F a b))), .bool (lineB a b (dF F a b) (dR F a b))]) ∧ Below w.heap.size w w' := by
 have hA := HasO.new w (.cells [.int .i64 (F : Int), .int .i64 (R : Int)].toArray 23)
 have hB := below_box w (.cells [.int .i64 (F : Int), .int .i64 (R : Int)].toArray 23)
 obtain ⟨df, hdf⟩ : ∃ x : Int, x = dF F a b := ⟨_, rfl⟩
 obtain ⟨dr, hdr⟩ : ∃ x : Int, x = dR F a b := ⟨_, rfl⟩
 rw [← hdf, ← hdr]
 go_enter Tryz.func199, Tryz.ntmps199
 go_wp2_with fail
 show Code.wp _ _ _ _ (w.alloc (.cells [.int .i64 (F : Int), .int .i64 (R : Int)].toArray 23))
 obtain ⟨w1, hw1⟩ : ∃ x, x = w.alloc (.cells [.int .i64 (F : Int), .int .i64 (R : Int)].toArray 23) := ⟨_, rfl⟩
 rw [← hw1] at hA hB ⊢
 clear hw1
 refine wp_region_relL (by kernel_rfl) (by kernel_rfl) [some 13, some 14, some 15, some 16, some 17, some 18, some 9, some 10, none, none] (by rfl) (by rfl) (twoR w1 [.int .i64 (F : Int), .int .i64 (R : Int)].toArray a b #[.int .i64 (a % F : Nat), .int .i64 (a / F : Nat)] #[.int .i64 (b % F : Nat), .int .i64 (b / F : Nat)]) (fun S S9 f9 W h hR => twoR_congr S S9 f9 W h hR) (fun f9 => twoR_init f9) ?hstep ?hend
 case hstep =>
  intro S i9 o9 f9 W ho hi hSj hpre hcl hR K hK
  have hi : i9 < 10 := hi
  have hR0 := hR
  obtain ⟨hC, h0, h1, h2, h3, h4, h5, h6, h7, h8⟩ := hR0
  have hsz := hA.call hC
  rcases i9 with _ | _ | _ | _ | _ | _ | _ | _ | _ | _ | i9
  ·exact st_loadA (og ho) 23 (.tmp 3) (oo ho) (rd_out rfl rfl) [.int .i64 (F : Int), .int .i64 (R : Int)] (by kernel_rfl) (fun j v hv => by rw [Nat.zero_add, hsz.cells j]; simpa using hv) (hK _ _ (twoR_val hR 0 _ (Below.refl _ _) (by decide) (by refine ⟨?_, ?_, ?_, ?_, ?_, ?_⟩ <;> intro h <;> first | rfl | (cases h))))
  ·exact st_move (og ho) (.tmp 1) (oo ho) (rd_out rfl rfl) (hK _ _ (twoR_val hR 1 _ (Below.refl _ _) (by decide) (by refine ⟨?_, ?_, ?_, ?_, ?_, ?_⟩ <;> intro h <;> first | rfl | (cases h))))
  ·exact st_call2 (og ho) 57 (.tmp 13) (.tmp 14) #[23, 3] (oo ho) (ri 0 (h0 (da ho hpre 0))) (ri 1 (h1 (da ho hpre 1))) (fun _ _ => rfl) (refPlace_any F R a hF (by omega) W) (by rintro u w9 ⟨h9, hb9⟩; injection h9 with h9; subst h9; exact hK _ _ (twoR_val hR 2 _ hb9 (by decide) (by refine ⟨?_, ?_, ?_, ?_, ?_, ?_⟩ <;> intro h <;> first | rfl | (cases h)))) (by rintro ch w9 ⟨h9, _⟩; cases h9) (by rintro w9 ⟨h9, _⟩; cases h9)
  ·exact st_loadA (og ho) 23 (.tmp 3) (oo ho) (rd_out rfl rfl) [.int .i64 (F : Int), .int .i64 (R : Int)] (by kernel_rfl) (fun j v hv => by rw [Nat.zero_add, hsz.cells j]; simpa using hv) (hK _ _ (twoR_val hR 3 _ (Below.refl _ _) (by decide) (by refine ⟨?_, ?_, ?_, ?_, ?_, ?_⟩ <;> intro h <;> first | rfl | (cases h))))
  ·exact st_move (og ho) (.tmp 2) (oo ho) (rd_out rfl rfl) (hK _ _ (twoR_val hR 4 _ (Below.refl _ _) (by decide) (by refine ⟨?_, ?_, ?_, ?_, ?_, ?_⟩ <;> intro h <;> first | rfl | (cases h))))
  ·exact st_call2 (og ho) 57 (.tmp 16) (.tmp 17) #[23, 3] (oo ho) (ri 3 (h3 (da ho hpre 3))) (ri 4 (h4 (da ho hpre 4))) (fun _ _ => rfl) (refPlace_any F R b hF (by omega) W) (by rintro u w9 ⟨h9, hb9⟩; injection h9 with h9; subst h9; exact hK _ _ (twoR_val hR 5 _ hb9 (by decide) (by refine ⟨?_, ?_, ?_, ?_, ?_, ?_⟩ <;> intro h <;> first | rfl | (cases h)))) (by rintro ch w9 ⟨h9, _⟩; cases h9) (by rintro w9 ⟨h9, _⟩; cases h9)
  ·have hS8 : S 8 = false := by
    rcases h : S 8 with _ | _
    ·rfl
    ·have := hcl 8 _ h rfl ⟨6, .data⟩ (by simp) rfl
     rw [hSj] at this; cases this
   exact st_alloc (og ho) 98 (oo ho) (alloc99 W) (hK _ _ (twoR_new hR 6 (.inl rfl) hS8))
  ·have hS9 : S 9 = false := by
    rcases h : S 9 with _ | _
    ·rfl
    ·have := hcl 9 _ h rfl ⟨7, .data⟩ (by simp) rfl
     rw [hSj] at this; cases this
   exact st_alloc (og ho) 98 (oo ho) (alloc99 W) (hK _ _ (twoR_new hR 7 (.inr rfl) hS9))
  ·have hSi := (da ho hpre 6)
   obtain ⟨q, e1, e2, old, e3, e4, e5⟩ := h6 hSi
   exact st_storeO (og ho) 98 (.tmp 9) (.tmp 15) (oo ho) (ri 6 e1) _ old 98 (ri 2 (h2 (da ho hpre 2))) e3 (by kernel_rfl) e4 (by simp [Value.oneCell']) (hK _ _ (twoR_set1 hR hSi rfl _ e1))
  ·have hSi := (da ho hpre 7)
   obtain ⟨q, e1, e2, old, e3, e4, e5⟩ := h7 hSi
   exact st_storeO (og ho) 98 (.tmp 10) (.tmp 18) (oo ho) (ri 7 e1) _ old 98 (ri 5 (h5 (da ho hpre 5))) e3 (by kernel_rfl) e4 (by simp [Value.oneCell']) (hK _ _ (twoR_set2 hR hSi rfl _ e1))
  ·omega
 case hend =>
  intro S f9 W hS hR
  obtain ⟨hC, _, _, _, _, _, _, h6, h7, h8⟩ := hR
  obtain ⟨q1, e1, l1, o1, hO1, _, z1⟩ := h6 (hS 6 (by decide))
  obtain ⟨q2, e2, l2, o2, hO2, _, z2⟩ := h7 (hS 7 (by decide))
  replace z1 := z1 (hS 8 (by decide))
  replace z2 := z2 (hS 9 (by decide))
  subst z1 z2
  clear h6 h7 h8
  simp only [putL, Act.put, List.setIfInBounds_toArray, List.set_cons_succ, List.set_cons_zero]
  rw [e1, e2]
  clear e1 e2 hS
  generalize f9 0 = u0, f9 1 = u1, f9 2 = u2, f9 3 = u3, f9 4 = u4, f9 5 = u5, f9 8 = u8, f9 9 = u9
  have hne : 0 < F := by omega
  have b1 := Nat.mod_lt a hne
  have b2 := Nat.mod_lt b hne
  have b3 := Nat.div_le_self a F
  have b4 := Nat.div_le_self b F
  have hBW := below_call hB hB.size hC
  unfold dF at hdf
  unfold dR at hdr
  generalize a % F = a0, a / F = a1, b % F = b0, b / F = b1' at *
  clear hA
  have hdb : -100 < df ∧ df < 100 := by omega
  have hrb : -100 < dr ∧ dr < 100 := by omega
  have hwf : IntKind.i64.wrap ((b0 : Int) - (a0 : Int)) = df := by rw [← hdf]; exact IntWalk.i64_in _ (by omega)
  have hwr : IntKind.i64.wrap ((b1' : Int) - (a1 : Int)) = dr := by rw [← hdr]; exact IntWalk.i64_in _ (by omega)
  replace hdf := Lib.hid hdf
  replace hdr := Lib.hid hdr
  go_wp2_with fail
  refine wp_region_valsL (by kernel_rfl) (by kernel_rfl) [some 19, some 20, some 21, some 22, some 23, some 24, some 25, some 26, some 27, some 28, some 11, some 12] (by rfl) (by rfl) (fun i => match i with | 0 => .pointer (some ⟨q2, 0, none⟩) | 1 => .int .i64 ((b0 : Nat) : Int) | 2 => .pointer (some ⟨q1, 0, none⟩) | 3 => .int .i64 ((a0 : Nat) : Int) | 4 => .int .i64 df | 5 => .pointer (some ⟨q2, 1, none⟩) | 6 => .int .i64 ((b1' : Nat) : Int) | 7 => .pointer (some ⟨q1, 1, none⟩) | 8 => .int .i64 ((a1 : Nat) : Int) | 9 => .int .i64 dr | 10 => .int .i64 df | 11 => .int .i64 dr | _ => undef) (fun W2 => Below W.heap.size W W2) (Below.refl _ _).drew ?hstep ?hend
  case hstep =>
   intro i9 o9 f9 W2 ho hi hC hf K hK
   have hi : i9 < 12 := hi
   rcases i9 with _ | _ | _ | _ | _ | _ | _ | _ | _ | _ | _ | _ | i9
   ·exact st_field (og ho) 98 (.tmp 10) 0 (oo ho) (rd_out rfl rfl) (n := 0) (by kernel_rfl) (hK _ hC)
   ·exact st_loadS (og ho) 3 (.tmp 19) (oo ho) (ri 0 (da ho hf 0)) (by kernel_rfl) (((hO2.call hC).cells 0)) (hK _ hC)
   ·exact st_field (og ho) 98 (.tmp 9) 0 (oo ho) (rd_out rfl rfl) (n := 0) (by kernel_rfl) (hK _ hC)
   ·exact st_loadS (og ho) 3 (.tmp 21) (oo ho) (ri 2 (da ho hf 2)) (by kernel_rfl) (((hO1.call hC).cells 0)) (hK _ hC)
   ·exact st_bin (og ho) .sub 3 3 (.tmp 20) (.tmp 22) (oo ho) (ri 1 (da ho hf 1)) (ri 3 (da ho hf 3)) (gu_i _ _ _ _ _ _ _ _) (bin_subE hwf) (hK _ hC)
   ·exact st_field (og ho) 98 (.tmp 10) 1 (oo ho) (rd_out rfl rfl) (n := 1) (by kernel_rfl) (hK _ hC)
   ·exact st_loadS (og ho) 3 (.tmp 24) (oo ho) (ri 5 (da ho hf 5)) (by kernel_rfl) (((hO2.call hC).cells 1)) (hK _ hC)
   ·exact st_field (og ho) 98 (.tmp 9) 1 (oo ho) (rd_out rfl rfl) (n := 1) (by kernel_rfl) (hK _ hC)
   ·exact st_loadS (og ho) 3 (.tmp 26) (oo ho) (ri 7 (da ho hf 7)) (by kernel_rfl) (((hO1.call hC).cells 1)) (hK _ hC)
   ·exact st_bin (og ho) .sub 3 3 (.tmp 25) (.tmp 27) (oo ho) (ri 6 (da ho hf 6)) (ri 8 (da ho hf 8)) (gu_i _ _ _ _ _ _ _ _) (bin_subE hwr) (hK _ hC)
   ·exact st_assign (og ho) (.tmp 23) (oo ho) (ri 4 (da ho hf 4)) (hK _ hC)
   ·exact st_assign (og ho) (.tmp 28) (oo ho) (ri 9 (da ho hf 9)) (hK _ hC)
   ·omega
  case hend =>
   intro W2 hC2
   have hBW2 := below_call hBW hBW.size hC2
   simp only [putL, Act.put, List.setIfInBounds_toArray, List.set_cons_succ, List.set_cons_zero]
   clear hO1 hO2 hwf hwr hC hC2
   have e3 : wrap64 (df + dr) = df + dr := IntWalk.wrap64_in _ (by omega)
   by_cases hab : a = b
   ·have e0 : Hid (lineB a b df dr = false) := Lib.hid (by simp [lineB, hab])
    have c1 : ((a : Int) == (b : Int)) = true := by simp [hab]
    replace hab := Lib.hid hab
    go_wp2_with fail
    go_ret3
    exact ⟨by unfold lineX; rw [e0.out]; rfl, hBW2⟩
   have c1 : ((a : Int) == (b : Int)) = false := by simp; omega
   by_cases h1 : df = 0
   ·have e0 : Hid (lineB a b df dr = true) := Lib.hid (by simp [lineB, hab, h1])
    have c2 : (df != 0) = false := by simp [h1]
    replace h1 := Lib.hid h1
    go_wp2_with fail
    refine (refSign_any df _).mono ?_
    rintro e w3 ⟨rfl, rfl⟩
    go_wp2_with fail
    refine (refSign_any dr _).mono ?_
    rintro e w3 ⟨rfl, rfl⟩
    go_wp2_with fail
    go_ret3
    exact ⟨by unfold lineX; rw [e0.out]; rfl, hBW2⟩
   have c2 : (df != 0) = true := by simp [h1]
   by_cases h2 : dr = 0
   ·have e0 : Hid (lineB a b df dr = true) := Lib.hid (by simp [lineB, hab, h2])
    have c3 : (dr != 0) = false := by simp [h2]
    replace h2 := Lib.hid h2
    go_wp2_with fail
    refine (refSign_any df _).mono ?_
    rintro e w3 ⟨rfl, rfl⟩
    go_wp2_with fail
    refine (refSign_any dr _).mono ?_
    rintro e w3 ⟨rfl, rfl⟩
    go_wp2_with fail
    go_ret3
    exact ⟨by unfold lineX; rw [e0.out]; rfl, hBW2⟩
   have c3 : (dr != 0) = true := by simp [h2]
   by_cases h3 : df = dr
   ·have e0 : Hid (lineB a b df dr = true) := Lib.hid (by simp [lineB, hab, h3])
    have c4 : (df != dr) = false := by simp [h3]
    replace h3 := Lib.hid h3
    go_wp2_with fail
    refine (refSign_any df _).mono ?_
    rintro e w3 ⟨rfl, rfl⟩
    go_wp2_with fail
    refine (refSign_any dr _).mono ?_
    rintro e w3 ⟨rfl, rfl⟩
    go_wp2_with fail
    go_ret3
    exact ⟨by unfold lineX; rw [e0.out]; rfl, hBW2⟩
   have c4 : (df != dr) = true := by simp [h3]
   by_cases h4 : df + dr = 0
   ·have e0 : Hid (lineB a b df dr = true) := Lib.hid (by simp [lineB, hab, h4])
    have c5 : (df + dr != 0) = false := by simp [h4]
    replace h4 := Lib.hid h4
    go_wp2_with fail
    refine (refSign_any df _).mono ?_
    rintro e w3 ⟨rfl, rfl⟩
    go_wp2_with fail
    refine (refSign_any dr _).mono ?_
    rintro e w3 ⟨rfl, rfl⟩
    go_wp2_with fail
    go_ret3
    exact ⟨by unfold lineX; rw [e0.out]; rfl, hBW2⟩
   ·have e0 : Hid (lineB a b df dr = false) := Lib.hid (by simp [lineB, h1, h2, h3, h4])
    have c5 : (df + dr != 0) = true := by simp [h4]
    go_wp2_with fail
    go_ret3
    exact ⟨by unfold lineX; rw [e0.out]; rfl, hBW2⟩
end Go.Proofs.YtnpomigmeieofaaGreatDoor
