import Derived.Test.YtefmplccbkmalaaGreatDoorF14
set_option maxHeartbeats 12800000
namespace Go.Proofs.YtefmplccbkmalaaGreatDoor
open Go.RowKit
attribute [local go_sem] Oper.semAt_some

def RayR (F R a : Nat) (dx dy : Int) (w : World) (e : Ending) (w' : World) : Prop :=
 e = .returned (.func (.func 200) #[] #[.pointer (some ⟨w.heap.size, 0, none⟩), .pointer (some ⟨w.heap.size + 1, 0, none⟩), .pointer (some ⟨w.heap.size + 2, 0, none⟩), .pointer (some ⟨w.heap.size + 3, 0, none⟩)]) ∧
 RayRd F R a dx dy w.heap.size (w.heap.size + 1) (w.heap.size + 2) (w.heap.size + 3) w' ∧ Below w.heap.size w w' ∧ w.heap.size + 4 ≤ w'.heap.size
theorem ray_any (F R a : Nat) (dx dy : Int) (w : World) : Calls Tryz.prog 171 #[.agg #[.int .i64 F, .int .i64 R], .int .i64 a, .int .i64 dx, .int .i64 dy] w (RayR F R a dx dy w) := by
 go_enter Tryz.func171, Tryz.ntmps171
 go_wp2_with fail
 go_ret
 have h1 := HasO.new w (.cells #[.int .i64 (F : Int), .int .i64 (R : Int)] 23)
 have h2 := HasO.new' (w.alloc (.cells #[.int .i64 (F : Int), .int .i64 (R : Int)] 23)) (.cells #[.int .i64 (a : Int)] 3) (q := w.heap.size + 1) (by simp)
 have h3 := HasO.new' ((w.alloc (.cells #[.int .i64 (F : Int), .int .i64 (R : Int)] 23)).alloc (.cells #[.int .i64 (a : Int)] 3)) (.cells #[.int .i64 dx] 3) (q := w.heap.size + 2) (by simp)
 have h4 := HasO.new' (((w.alloc (.cells #[.int .i64 (F : Int), .int .i64 (R : Int)] 23)).alloc (.cells #[.int .i64 (a : Int)] 3)).alloc (.cells #[.int .i64 dx] 3)) (.cells #[.int .i64 dy] 3) (q := w.heap.size + 3) (by simp)
 refine ⟨rfl, ⟨((h1.alloc _).alloc _).alloc _, (h2.alloc _).alloc _, h3.alloc _, h4⟩, (((below_box w _).alloc (by simp) _).alloc (by simp; omega) _).alloc (by simp; omega) _, by simp⟩
def slideR (oc : Nat) : List Int → Nat → Nat
 | [], S => S
 | x :: r, S => if oc.testBit x.toNat then S ||| 2 ^ x.toNat else slideR oc r (S ||| 2 ^ x.toNat)
def slideW (F R a oc : Nat) (st : List (Int × Int)) : Nat → Nat
 | 0 => 0
 | k + 1 => slideR oc (rayL F R a (st[k]?.getD (0, 0)).1 (st[k]?.getD (0, 0)).2 8 1) (slideW F R a oc st k)
theorem slideR_lt {oc n : Nat} : ∀ (L : List Int) (S : Nat), (∀ x ∈ L, 0 ≤ x ∧ x < n) → S < 2 ^ n → slideR oc L S < 2 ^ n := by
 intro L
 induction L with
 | nil => intro S _ h; exact h
 | cons x r ih =>
  intro S hL hS
  have hx := hL x (by simp)
  have h1 : S ||| 2 ^ x.toNat < 2 ^ n := Nat.or_lt_two_pow hS (Nat.pow_lt_pow_right (by decide) (by omega))
  simp only [slideR]
  split
  ·exact h1
  ·exact ih _ (fun y hy => hL y (by simp [hy])) h1
theorem rayL_sq {F R a : Nat} {dx dy : Int} : ∀ x ∈ rayL F R a dx dy 8 1, 0 ≤ x ∧ x < F * R := by
 intro x hx
 obtain ⟨i, hi, e⟩ := List.getElem_of_mem hx
 have hg := rayL_get (F := F) (R := R) (a := a) (dx := dx) (dy := dy) 8 1 i hi
 rw [List.getElem?_eq_getElem hi] at hg
 simp only [Option.getD_some] at hg
 rw [e] at hg
 have h0 : 0 ≤ x := by rw [hg.1]; exact hg.2
 refine ⟨h0, ?_⟩
 have h1 := hg.1
 unfold rayN at h1
 have hno := numI_on (F := F) (R := R) (a := ((a % F : Nat) : Int) + ((1 + i : Nat) : Int) * dx) (b := ((a / F : Nat) : Int) + ((1 + i : Nat) : Int) * dy)
 rw [← h1] at hno
 rcases hv : onB F R (((a % F : Nat) : Int) + ((1 + i : Nat) : Int) * dx) (((a / F : Nat) : Int) + ((1 + i : Nat) : Int) * dy) with _ | _
 ·have := hno.1.2 hv; omega
 ·obtain ⟨n, hn, hl⟩ := at_lt hv
  rw [hno.2 hv, hn, ← Int.natCast_mul]
  omega
def slI (w : World) (F R a oc g o : Nat) (st : List (Int × Int)) (q1 : Nat) (dx dy : Int) (L : List Int) (fin : Nat) (E : List Nat) (c : Nat) (W : World) : Prop :=
 Below w.heap.size w W ∧ HasO W w.heap.size (.cells #[.int .i64 (F : Int), .int .i64 (R : Int)] 23 (0, 0)) ∧ HasO W (w.heap.size + 1) (.cells #[.int .u64 (oc : Int)] 64 (0, 0)) ∧ RayRd F R a dx dy q1 (q1 + 1) (q1 + 2) (q1 + 3) W ∧
 (∃ S : Nat, HasO W (w.heap.size + 2) (.cells #[.int .u64 (S : Int)] 64 (0, 0)) ∧ S < 2 ^ 64 ∧ slideR oc L S = fin) ∧ StepArr W g o st ∧ c ≤ W.heap.size ∧ ∀ p ∈ E, HasO W p (.deferred (some []))
theorem slI_alt {w : World} {F R a oc g o : Nat} {st : List (Int × Int)} {q1 : Nat} {dx dy : Int} {L : List Int} {fin : Nat} {E : List Nat} {c : Nat} {W W' : World} {lo hi : Nat} (h : slI w F R a oc g o st q1 dx dy L fin E c W) (ha : Alt lo hi W W') (h1 : q1 + 4 ≤ lo) (h2 : w.heap.size + 3 ≤ lo) (h3 : g < lo) (h4 : ∀ p ∈ E, p < lo) : slI w F R a oc g o st q1 dx dy L fin E c W' := by
 obtain ⟨b, i1, i2, ⟨r1, r2, r3, r4⟩, ⟨S, s1, s2, s3⟩, ⟨t1, t2⟩, i5, i6⟩ := h
 have hcell : ∀ j, W'.cell? ⟨g, j, none⟩ = W.cell? ⟨g, j, none⟩ := by
  intro j
  unfold World.cell?
  rw [ha.block g t1 (.inl h3)]
 refine ⟨ha.below b (by omega) b.size, ha.hasO i1 (by omega), ha.hasO i2 (by omega), ⟨ha.hasO r1 (by omega), ha.hasO r2 (by omega), ha.hasO r3 (by omega), ha.hasO r4 (by omega)⟩, ⟨S, ha.hasO s1 (by omega), s2, s3⟩, ⟨Nat.lt_of_lt_of_le t1 ha.size, fun j hj => ?_⟩, Nat.le_trans i5 ha.size, fun p hp => ha.hasO (i6 p hp) (.inl (h4 p hp))⟩
 rw [hcell, hcell]
 exact t2 j hj
theorem slI_set {w : World} {F R a oc g o : Nat} {st : List (Int × Int)} {q1 : Nat} {dx dy : Int} {L L' : List Int} {fin : Nat} {E : List Nat} {c S' : Nat} {W : World} (h : slI w F R a oc g o st q1 dx dy L fin E c W) (hs : S' < 2 ^ 64) (hf : slideR oc L' S' = fin) (h1 : w.heap.size + 3 ≤ q1) (h3 : g < w.heap.size) (h4 : ∀ p ∈ E, w.heap.size + 3 ≤ p) :
  slI w F R a oc g o st q1 dx dy L' fin E c (W.setCell ⟨w.heap.size + 1 + 1, 0, none⟩ (.int .u64 (S' : Int))).drew ∧ Alt (w.heap.size + 2) (w.heap.size + 3) W (W.setCell ⟨w.heap.size + 1 + 1, 0, none⟩ (.int .u64 (S' : Int))).drew := by
 obtain ⟨b, i1, i2, ⟨r1, r2, r3, r4⟩, ⟨S, s1, s2, s3⟩, ⟨t1, t2⟩, i5, i6⟩ := h
 have ha : Alt (w.heap.size + 2) (w.heap.size + 3) W (W.setCell ⟨w.heap.size + 1 + 1, 0, none⟩ (.int .u64 (S' : Int))).drew := (Alt.setCell (by simp)).trans (Alt.drewN 1)
 refine ⟨?_, ha⟩
 have hS := s1.set_ 0 (.int .u64 (S' : Int))
 generalize hW3 : (W.setCell ⟨w.heap.size + 1 + 1, 0, none⟩ (.int .u64 (S' : Int))).drew = W' at *
 have hS' : HasO W' (w.heap.size + 2) (.cells #[.int .u64 (S' : Int)] 64 (0, 0)) := by rw [← hW3]; exact hS
 have hcell : ∀ j, W'.cell? ⟨g, j, none⟩ = W.cell? ⟨g, j, none⟩ := by
  intro j
  unfold World.cell?
  rw [ha.block g t1 (.inl (by omega))]
 refine ⟨ha.below b (by omega) b.size, ha.hasO i1 (by omega), ha.hasO i2 (by omega), ⟨ha.hasO r1 (by omega), ha.hasO r2 (by omega), ha.hasO r3 (by omega), ha.hasO r4 (by omega)⟩, ⟨S', hS', hs, hf⟩, ⟨Nat.lt_of_lt_of_le t1 ha.size, fun j hj => ?_⟩, Nat.le_trans i5 ha.size, fun p hp => ha.hasO (i6 p hp) (.inr (h4 p hp))⟩
 rw [hcell, hcell]
 exact t2 j hj
theorem bit_and {oc x : Nat} (ho : oc < 2 ^ 64) : (bits .and .u64 ((oc : Int) / 2 ^ x) 1 == 1) = oc.testBit x := by
 have h1 : oc / 2 ^ x ≤ oc := Nat.div_le_self _ _
 rw [div_pow_nat, show (1 : Int) = ((1 : Nat) : Int) from rfl, u64_and_nat _ _ (by omega) (by decide), nat_mask1, Nat.testBit_eq_decide_div_mod_eq]
 by_cases h : oc / 2 ^ x % 2 = 1
 ·rw [h]; rfl
 ·have : oc / 2 ^ x % 2 = 0 := by omega
  rw [this]; rfl
theorem rangeFunc_law1 {n : Nat} {P : Program} {g : Operand} {ps : Array Tmp} {assign body : Code} {Q : Exit → Act → World → Prop} {a : Act} {w : World}
  {gf : Nat} {lb : Array Value} {N : Nat} {encs : Nat → Array Value} {Rd : World → Prop} {T : TypeId → Prop} (id : Nat)
  (hQ : ∀ a W, Q .normal a W → Q (.exit id) a W)
  (hg : a.eval g = .func (.func gf) #[] lb) (eg : ∀ args w, (callFunc gf args).run P w = .ok (.enter gf args) w)
  (hseq : SeqI P gf lb N encs Rd (fun _ _ => False) T) (hps : ∀ k, k < N → (encs k).size = ps.size)
  (I : Nat → Nat → World → Prop) (J : Nat → World → Prop)
  (hst : ∀ c k W W', w.heap.size + 2 ≤ c → I c k W → Alt w.heap.size c W W' → I c k W')
  (hstx : ∀ c W W', w.heap.size + 2 ≤ c → J c W → Alt w.heap.size c W W' → J c W')
  (hRd : ∀ c k W, w.heap.size + 2 ≤ c → I c k W → Rd W) (hsz : ∀ c k W, w.heap.size + 2 ≤ c → I c k W → c ≤ W.heap.size) (hszx : ∀ c W, w.heap.size + 2 ≤ c → J c W → c ≤ W.heap.size)
  (h0 : ∀ c W, Below w.heap.size w W → w.heap.size + 2 ≤ c → W.heap.size = c → I c 0 W)
  (hbody : ∀ c k W, w.heap.size + 2 ≤ c → k < N → I c k W → OwnT T w.heap.size c W →
   assign.wpIn (Fence.wide.inRound (w.heap.size + 1)) n P (Exit.then (fun a₁ W₁ => (∀ q o, (w.heap.size ≤ q ∧ q < c) → HasO W q o → HasO W₁ q o) ∧
     ∀ W₂, Alt (w.heap.size + 1) (w.heap.size + 2) W₁ W₂ → W₂.heap.size = W₁.heap.size → (∃ r, HasO W₂ (w.heap.size + 1) (.loop r)) →
      body.wpIn (Fence.wide.inRound (w.heap.size + 1)) n P (bodyI (w.heap.size + 1) w.heap.size (I c) (fun j W => j = .exit id ∧ J c W) k (fun D q => D + 2 ≤ q ∧ q < c) W₂) a₁ W₂) (fun _ _ _ => False))
    { tmps := (ps.zip (encs k)).foldl (fun t (p, v) => t.setIfInBounds p v) a.tmps, defers := [] } W)
  (hfin : ∀ c W, I c N W → J c W)
  (hcont : ∀ c W, w.heap.size + 2 ≤ c → J c W → HasO W w.heap.size (.deferred (some [])) → Q .normal { a with defers := { target := .collected w.heap.size, args := #[] } :: a.defers } W) :
  (Code.rangeFunc g ps assign body).wpIn Fence.wide n P Q a w := by
 refine rangeFunc_law hg eg hseq hps I (fun c j _ W => j = .exit id ∧ J c W) hst (fun c j k W W' hc h ha => ⟨h.1, hstx c W W' hc h.2 ha⟩) hRd hsz (fun c j k W hc h => hszx c W hc h.2) h0 hbody (fun c W hc h hD => hcont c W hc (hfin c W h) hD) ?_ ?_
 ·rintro c j k W hc _ ⟨rfl, h⟩ hD
  exact wpIn_exit (hQ _ _ (hcont c W hc h hD))
 ·intro _ _ _ _ _ h; exact h.elim
set_option maxRecDepth 100000 in
theorem slide_any (F R a oc g o c : Nat) (st : List (Int × Int)) (d0 d1 d2 d3 e0 e1 e2 e3 : Int) (hst : st = [(d0, e0), (d1, e1), (d2, e2), (d3, e3)]) (hF : 3 ≤ F ∧ F ≤ 8) (hR : 3 ≤ R ∧ R ≤ 8) (ha : a < F * R)
  (hb0 : -1 ≤ d0 ∧ d0 ≤ 1) (hb1 : -1 ≤ d1 ∧ d1 ≤ 1) (hb2 : -1 ≤ d2 ∧ d2 ≤ 1) (hb3 : -1 ≤ d3 ∧ d3 ≤ 1) (hc0 : -1 ≤ e0 ∧ e0 ≤ 1) (hc1 : -1 ≤ e1 ∧ e1 ≤ 1) (hc2 : -1 ≤ e2 ∧ e2 ≤ 1) (hc3 : -1 ≤ e3 ∧ e3 ≤ 1)
  (hn0 : ¬ (d0 = 0 ∧ e0 = 0)) (hn1 : ¬ (d1 = 0 ∧ e1 = 0)) (hn2 : ¬ (d2 = 0 ∧ e2 = 0)) (hn3 : ¬ (d3 = 0 ∧ e3 = 0)) (hoc : oc < 2 ^ 64) (w : World) (hs : StepArr w g o st) :
  Calls Tryz.prog 146 #[.agg #[.int .i64 F, .int .i64 R], .int .i64 a, .int .u64 (oc : Nat), .slice (some ⟨g, o, none⟩) 4 c] w fun e w' => e = .returned (.int .u64 (slideW F R a oc st 4 : Nat)) ∧ Below w.heap.size w w' := by
 have hq64 : ∀ dx dy, ∀ x ∈ rayL F R a dx dy 8 1, 0 ≤ x ∧ x < 64 := by
  intro dx dy x hx
  have := rayL_sq x hx
  rw [← Int.natCast_mul] at this
  have h2 : F * R ≤ 64 := Nat.mul_le_mul hF.2 hR.2
  omega
 obtain ⟨V, hV⟩ : ∃ V, V = slideW F R a oc st 4 := ⟨_, rfl⟩
 rw [← hV]
 replace hV := Lib.hid hV
 refine (callsIn_wide (n := 3)).1 ?_
 refine callsIn_of_wp_marks Tryz.func146 rfl trivial ?_ rfl
 simp only [Tryz.ntmps146, List.size_toArray, List.length_cons, List.length_nil, Nat.reduceAdd, Nat.reduceSub, Array.replicate_succ, Array.replicate_zero, List.push_toArray, List.append_toArray, List.nil_append, List.cons_append]
 gi_wp2_with fail
 have hgw := hs.1
 have hA := (HasO.new w (.cells #[.int .i64 (F : Int), .int .i64 (R : Int)] 23)).alloc (.cells #[.int .u64 (oc : Int)] 64) |>.alloc (.cells #[.int .u64 0] 64)
 have hO := (HasO.new' (w.alloc (.cells #[.int .i64 (F : Int), .int .i64 (R : Int)] 23)) (.cells #[.int .u64 (oc : Int)] 64) (q := w.heap.size + 1) (by simp)).alloc (.cells #[.int .u64 0] 64)
 have hS := HasO.new' ((w.alloc (.cells #[.int .i64 (F : Int), .int .i64 (R : Int)] 23)).alloc (.cells #[.int .u64 (oc : Int)] 64)) (.cells #[.int .u64 0] 64) (q := w.heap.size + 2) (by simp)
 have hB := ((below_box w (.cells #[.int .i64 (F : Int), .int .i64 (R : Int)] 23)).alloc (by simp) (.cells #[.int .u64 (oc : Int)] 64)).alloc (by simp; omega) (.cells #[.int .u64 0] 64)
 have hs0 := hs.call hB
 generalize ((w.alloc (.cells #[.int .i64 (F : Int), .int .i64 (R : Int)] 23)).alloc (.cells #[.int .u64 (oc : Int)] 64)).alloc (.cells #[.int .u64 0] 64) = v0 at *
 obtain ⟨S0, hS0⟩ : ∃ S0 : Nat, S0 = 0 := ⟨_, rfl⟩
 have hS0' : (0 : Int) = (S0 : Int) := by rw [hS0]; rfl
 rw [hS0'] at hS
 have hS0l : S0 < 2 ^ 64 := by rw [hS0]; decide
 replace hS0 := Lib.hid hS0
 clear hS0'
 have hE0 : ∀ p ∈ ([] : List Nat), HasO v0 p (.deferred (some [])) := fun p hp => by simp at hp
 have hEw0 : ∀ p ∈ ([] : List Nat), w.heap.size + 3 ≤ p := fun p hp => by simp at hp
 refine wpIn_loop_rounds 5 ?_
 rw [roundsIn_succ]
 obtain ⟨hx0, hy0⟩ := hs0.2 0 (by rw [hst]; simp)
 have hgl := hs0.1
 have hcA := hA.cells
 have hlA := hA.lt
 rw [hst] at hx0 hy0
 simp only [Nat.zero_mul, Nat.add_zero, List.getElem?_cons_zero, Option.getD_some] at hx0 hy0
 gi_wp2_with fail
 refine ⟨trivial, (callsIn_wide.2 (ray_any F R a d0 e0 _)).mono ?_⟩
 rintro e u0 ⟨rfl, hRd, hbu, hsu⟩
 obtain ⟨L0, hL0⟩ : ∃ L, L = rayL F R a d0 e0 8 1 := ⟨_, rfl⟩
 obtain ⟨f0, hf0⟩ : ∃ f, f = slideR oc L0 S0 := ⟨_, rfl⟩
 have hqL0 : ∀ x ∈ L0, 0 ≤ x ∧ x < 64 := by rw [hL0]; exact hq64 _ _
 have hbs := below_box v0 (.cells #[.int .i64 d0, .int .i64 e0] 181)
 have hAu := (hA.call hbs).call hbu
 have hOu := (hO.call hbs).call hbu
 have hSu := (hS.call hbs).call hbu
 have hBu := below_call (below_call hB hB.size hbs) (Nat.le_trans hB.size hbs.size) hbu
 have hsv := (hs0.call hbs).call hbu
 have hEu : ∀ p ∈ ([] : List Nat), HasO u0 p (.deferred (some [])) := fun p hp => ((hE0 p hp).call hbs).call hbu
 have hElt : ∀ p ∈ ([] : List Nat), p < u0.heap.size := fun p hp => (hEu p hp).lt
 have hglu := hsv.1
 have hlSu := hSu.lt
 obtain ⟨q1, hq1⟩ : ∃ q, q = (v0.alloc (.cells #[.int .i64 d0, .int .i64 e0] 181)).heap.size := ⟨_, rfl⟩
 rw [← hq1] at hRd hsu ⊢
 have hq1l : w.heap.size + 3 ≤ q1 := by rw [hq1]; have := hS.lt; simp; omega
 have hI0 : slI w F R a oc g o st q1 d0 e0 L0 f0 [] u0.heap.size u0 := ⟨hBu, hAu, hOu, hRd, ⟨S0, hSu, hS0l, hf0.symm⟩, hsv, Nat.le_refl _, hEu⟩
 replace hq1 := Lib.hid hq1
 replace hL0 := Lib.hid hL0
 replace hf0 := Lib.hid hf0
 replace hst := Lib.hid hst
 clear hA hO hS hB hs0 hbs hbu hcA hlA hgl hx0 hy0 hAu hOu hSu hRd hEu hE0
 gi_wp2_with fail
 refine rangeFunc_law1 (gf := 200) (lb := #[.pointer (some ⟨q1, 0, none⟩), .pointer (some ⟨q1 + 1, 0, none⟩), .pointer (some ⟨q1 + 2, 0, none⟩), .pointer (some ⟨q1 + 3, 0, none⟩)]) 2 (fun a W h => h) rfl (enters_of Tryz.func200 (by kernel_rfl) rfl) (ray_seq F R a d0 e0 q1 (q1 + 1) (q1 + 2) (q1 + 3) hF hR ha hb0 hc0 hn0 L0 hL0.out) (fun _ _ => rfl)
  (fun c k W => slI w F R a oc g o st q1 d0 e0 (L0.drop k) f0 [] c W) (fun c W => slI w F R a oc g o st q1 d0 e0 [] f0 [] c W) ?hst0 ?hstx0 ?hRd0 ?hsz0 ?hszx0 ?h00 ?hbody0 ?hfin0 ?hcont0
 case hst0 => intro c k W W' hc h ha; exact slI_alt h ha (by omega) (by omega) (by omega) hElt
 case hstx0 => intro c W W' hc h ha; exact slI_alt h ha (by omega) (by omega) (by omega) hElt
 case hRd0 => intro c k W hc h; exact h.2.2.2.1
 case hsz0 => intro c k W hc h; exact h.2.2.2.2.2.2.1
 case hszx0 => intro c W hc h; exact h.2.2.2.2.2.2.1
 case hfin0 => intro c W h; rw [List.drop_length] at h; exact h
 case h00 =>
  intro c W hb hc hz
  obtain ⟨b, i1, i2, ⟨r1, r2, r3, r4⟩, ⟨S, s1, s2, s3⟩, i4, i5, i6⟩ := slI_alt hI0 (Alt.call (lo := u0.heap.size) (hi := u0.heap.size) hb) (by omega) (by omega) (by omega) hElt
  exact ⟨b, i1, i2, ⟨r1, r2, r3, r4⟩, ⟨S, s1, s2, s3⟩, i4, by omega, i6⟩
 case hbody0 =>
  rintro c k W hc hk h hT
  have hkm : L0[k]?.getD 0 ∈ L0 := by rw [List.getElem?_eq_getElem hk]; exact List.getElem_mem hk
  have hxb := hqL0 _ hkm
  have hdr : L0.drop k = (L0[k]?.getD 0) :: L0.drop (k + 1) := by rw [List.getElem?_eq_getElem hk]; exact List.drop_eq_getElem_cons hk
  obtain ⟨x, hx⟩ : ∃ x : Nat, L0[k]?.getD 0 = x := ⟨(L0[k]?.getD 0).toNat, by omega⟩
  rw [hx] at hdr hxb
  simp only [hx]
  have hx64 : (x : Int) < 64 := by omega
  clear hkm
  replace hk := Lib.hid hk
  replace hx := Lib.hid hx
  gi_wp2_with fail
  refine ⟨fun q o _ h => h, fun W2 ha hz hrec => ?_⟩
  have h2 := slI_alt h ha (by omega) (by omega) (by omega) (fun p hp => by have := hElt p hp; omega)
  have h2' := h2
  obtain ⟨b, i1, i2, ir, ⟨S, s1, s2, s3⟩, i4, i5, i6⟩ := h2'
  have c9 := s1.cells 0
  have f9 := s1.frozen
  have l9 := s1.lt
  replace hz := Lib.hid hz
  rw [hdr] at s3
  simp only [slideR, Int.toNat_natCast] at s3
  have wo : bits .or .u64 (S : Int) (IntKind.u64.wrap (2 ^ x)) = ((S ||| 2 ^ x : Nat) : Int) := or_bit s2 (by omega)
  have s4 : S ||| 2 ^ x < 2 ^ 64 := Nat.or_lt_two_pow s2 (Nat.pow_lt_pow_right (by decide) (by omega))
  have c8 := bit_and (x := x) hoc
  have hlD : w.heap.size + 3 ≤ u0.heap.size := by omega
  gi_wp2_with fail
  gi_region
  all_goals
   replace wo := Lib.hid wo
   rcases ht : oc.testBit x with _ | _
   ·rw [ht] at s3 c8
    obtain ⟨h3, h4⟩ := slI_set (L' := L0.drop (k + 1)) (S' := S ||| 2 ^ x) h2 s4 (by simpa using s3) hq1l hgw hEw0
    generalize (W2.setCell ⟨w.heap.size + 1 + 1, 0, none⟩ (.int .u64 ((S ||| 2 ^ x : Nat) : Int))).drew = W3 at *
    have c6 := h3.2.2.1.cells 0
    have l6 := h3.2.2.1.lt
    clear c9 f9 l9 i1 i2 ir i4 i6 s1 b h2 i5
    replace s3 := Lib.hid s3
    gi_wp2_with fail
    exact ⟨fun q o hq ho => h4.hasO ho (.inr (by rcases hq with h | h | h <;> omega)), h3⟩
   ·rw [ht] at s3 c8
    obtain ⟨h3, h4⟩ := slI_set (L' := []) (S' := S ||| 2 ^ x) h2 s4 (by simpa [slideR] using s3) hq1l hgw hEw0
    generalize (W2.setCell ⟨w.heap.size + 1 + 1, 0, none⟩ (.int .u64 ((S ||| 2 ^ x : Nat) : Int))).drew = W3 at *
    have c6 := h3.2.2.1.cells 0
    have l6 := h3.2.2.1.lt
    clear c9 f9 l9 i1 i2 ir i4 i6 s1 b h2 i5
    replace s3 := Lib.hid s3
    gi_wp2_with fail
    exact ⟨fun q o hq ho => h4.hasO ho (.inr (by rcases hq with h | h <;> omega)), rfl, h3⟩
 intro c0 v1 hcc hJ hD
 obtain ⟨hB, hA, hO, _, ⟨S1, hS, hS1l, hS1⟩, hs0, _, hEE⟩ := hJ
 replace hS1 : Hid (S1 = f0) := Lib.hid hS1
 obtain ⟨D0, hDD0⟩ : ∃ D, D = u0.heap.size := ⟨_, rfl⟩
 rw [← hDD0] at hD ⊢
 have hEw1 : ∀ p ∈ ([D0] : List Nat), w.heap.size + 3 ≤ p := by
  intro p hp
  rcases List.mem_cons.1 hp with rfl | hp
  ·omega
  ·exact hEw0 p hp
 have hE1 : ∀ p ∈ ([D0] : List Nat), HasO v1 p (.deferred (some [])) := by
  intro p hp
  rcases List.mem_cons.1 hp with rfl | hp
  ·exact hD
  ·exact hEE p hp
 have hDlt0 : ∀ p ∈ ([] : List Nat), p < D0 := by rw [hDD0]; exact hElt
 replace hDD0 := Lib.hid hDD0
 clear hI0 hElt hsu hq1l hq1 hlSu hglu hsv hBu hD hEE hcc hqL0 hEw0
 gi_wp2_with fail
 rw [roundsIn_succ]
 obtain ⟨hx1, hy1⟩ := hs0.2 1 (by rw [hst.out]; simp)
 have hgl := hs0.1
 have hcA := hA.cells
 have hlA := hA.lt
 rw [hst.out] at hx1 hy1
 simp only [Nat.one_mul, List.getElem?_cons_zero, List.getElem?_cons_succ, Option.getD_some] at hx1 hy1
 gi_wp2_with fail
 refine ⟨trivial, (callsIn_wide.2 (ray_any F R a d1 e1 _)).mono ?_⟩
 rintro e u1 ⟨rfl, hRd, hbu, hsu⟩
 obtain ⟨L1, hL1⟩ : ∃ L, L = rayL F R a d1 e1 8 1 := ⟨_, rfl⟩
 obtain ⟨f1, hf1⟩ : ∃ f, f = slideR oc L1 S1 := ⟨_, rfl⟩
 have hqL1 : ∀ x ∈ L1, 0 ≤ x ∧ x < 64 := by rw [hL1]; exact hq64 _ _
 have hbs := below_box v1 (.cells #[.int .i64 d1, .int .i64 e1] 181)
 have hAu := (hA.call hbs).call hbu
 have hOu := (hO.call hbs).call hbu
 have hSu := (hS.call hbs).call hbu
 have hBu := below_call (below_call hB hB.size hbs) (Nat.le_trans hB.size hbs.size) hbu
 have hsv := (hs0.call hbs).call hbu
 have hEu : ∀ p ∈ ([D0] : List Nat), HasO u1 p (.deferred (some [])) := fun p hp => ((hE1 p hp).call hbs).call hbu
 have hElt : ∀ p ∈ ([D0] : List Nat), p < u1.heap.size := fun p hp => (hEu p hp).lt
 have hglu := hsv.1
 have hlSu := hSu.lt
 obtain ⟨q1, hq1⟩ : ∃ q, q = (v1.alloc (.cells #[.int .i64 d1, .int .i64 e1] 181)).heap.size := ⟨_, rfl⟩
 rw [← hq1] at hRd hsu ⊢
 have hq1l : w.heap.size + 3 ≤ q1 := by rw [hq1]; have := hS.lt; simp; omega
 have hI0 : slI w F R a oc g o st q1 d1 e1 L1 f1 [D0] u1.heap.size u1 := ⟨hBu, hAu, hOu, hRd, ⟨S1, hSu, hS1l, hf1.symm⟩, hsv, Nat.le_refl _, hEu⟩
 replace hq1 := Lib.hid hq1
 replace hL1 := Lib.hid hL1
 replace hf1 := Lib.hid hf1
 skip
 clear hA hO hS hB hs0 hbs hbu hcA hlA hgl hx1 hy1 hAu hOu hSu hRd hEu hE1
 gi_wp2_with fail
 refine rangeFunc_law1 (gf := 200) (lb := #[.pointer (some ⟨q1, 0, none⟩), .pointer (some ⟨q1 + 1, 0, none⟩), .pointer (some ⟨q1 + 2, 0, none⟩), .pointer (some ⟨q1 + 3, 0, none⟩)]) 2 (fun a W h => h) rfl (enters_of Tryz.func200 (by kernel_rfl) rfl) (ray_seq F R a d1 e1 q1 (q1 + 1) (q1 + 2) (q1 + 3) hF hR ha hb1 hc1 hn1 L1 hL1.out) (fun _ _ => rfl)
  (fun c k W => slI w F R a oc g o st q1 d1 e1 (L1.drop k) f1 [D0] c W) (fun c W => slI w F R a oc g o st q1 d1 e1 [] f1 [D0] c W) ?hst1 ?hstx1 ?hRd1 ?hsz1 ?hszx1 ?h01 ?hbody1 ?hfin1 ?hcont1
 case hst1 => intro c k W W' hc h ha; exact slI_alt h ha (by omega) (by omega) (by omega) hElt
 case hstx1 => intro c W W' hc h ha; exact slI_alt h ha (by omega) (by omega) (by omega) hElt
 case hRd1 => intro c k W hc h; exact h.2.2.2.1
 case hsz1 => intro c k W hc h; exact h.2.2.2.2.2.2.1
 case hszx1 => intro c W hc h; exact h.2.2.2.2.2.2.1
 case hfin1 => intro c W h; rw [List.drop_length] at h; exact h
 case h01 =>
  intro c W hb hc hz
  obtain ⟨b, i1, i2, ⟨r1, r2, r3, r4⟩, ⟨S, s1, s2, s3⟩, i4, i5, i6⟩ := slI_alt hI0 (Alt.call (lo := u1.heap.size) (hi := u1.heap.size) hb) (by omega) (by omega) (by omega) hElt
  exact ⟨b, i1, i2, ⟨r1, r2, r3, r4⟩, ⟨S, s1, s2, s3⟩, i4, by omega, i6⟩
 case hbody1 =>
  rintro c k W hc hk h hT
  have hkm : L1[k]?.getD 0 ∈ L1 := by rw [List.getElem?_eq_getElem hk]; exact List.getElem_mem hk
  have hxb := hqL1 _ hkm
  have hdr : L1.drop k = (L1[k]?.getD 0) :: L1.drop (k + 1) := by rw [List.getElem?_eq_getElem hk]; exact List.drop_eq_getElem_cons hk
  obtain ⟨x, hx⟩ : ∃ x : Nat, L1[k]?.getD 0 = x := ⟨(L1[k]?.getD 0).toNat, by omega⟩
  rw [hx] at hdr hxb
  simp only [hx]
  have hx64 : (x : Int) < 64 := by omega
  clear hkm
  replace hk := Lib.hid hk
  replace hx := Lib.hid hx
  gi_wp2_with fail
  refine ⟨fun q o _ h => h, fun W2 ha hz hrec => ?_⟩
  have h2 := slI_alt h ha (by omega) (by omega) (by omega) (fun p hp => by have := hElt p hp; omega)
  have h2' := h2
  obtain ⟨b, i1, i2, ir, ⟨S, s1, s2, s3⟩, i4, i5, i6⟩ := h2'
  have c9 := s1.cells 0
  have f9 := s1.frozen
  have l9 := s1.lt
  replace hz := Lib.hid hz
  rw [hdr] at s3
  simp only [slideR, Int.toNat_natCast] at s3
  have wo : bits .or .u64 (S : Int) (IntKind.u64.wrap (2 ^ x)) = ((S ||| 2 ^ x : Nat) : Int) := or_bit s2 (by omega)
  have s4 : S ||| 2 ^ x < 2 ^ 64 := Nat.or_lt_two_pow s2 (Nat.pow_lt_pow_right (by decide) (by omega))
  have c8 := bit_and (x := x) hoc
  have hlD : w.heap.size + 3 ≤ u1.heap.size := by omega
  gi_wp2_with fail
  gi_region
  all_goals
   replace wo := Lib.hid wo
   rcases ht : oc.testBit x with _ | _
   ·rw [ht] at s3 c8
    obtain ⟨h3, h4⟩ := slI_set (L' := L1.drop (k + 1)) (S' := S ||| 2 ^ x) h2 s4 (by simpa using s3) hq1l hgw hEw1
    generalize (W2.setCell ⟨w.heap.size + 1 + 1, 0, none⟩ (.int .u64 ((S ||| 2 ^ x : Nat) : Int))).drew = W3 at *
    have c6 := h3.2.2.1.cells 0
    have l6 := h3.2.2.1.lt
    clear c9 f9 l9 i1 i2 ir i4 i6 s1 b h2 i5
    replace s3 := Lib.hid s3
    gi_wp2_with fail
    exact ⟨fun q o hq ho => h4.hasO ho (.inr (by rcases hq with h | h | h <;> omega)), h3⟩
   ·rw [ht] at s3 c8
    obtain ⟨h3, h4⟩ := slI_set (L' := []) (S' := S ||| 2 ^ x) h2 s4 (by simpa [slideR] using s3) hq1l hgw hEw1
    generalize (W2.setCell ⟨w.heap.size + 1 + 1, 0, none⟩ (.int .u64 ((S ||| 2 ^ x : Nat) : Int))).drew = W3 at *
    have c6 := h3.2.2.1.cells 0
    have l6 := h3.2.2.1.lt
    clear c9 f9 l9 i1 i2 ir i4 i6 s1 b h2 i5
    replace s3 := Lib.hid s3
    gi_wp2_with fail
    exact ⟨fun q o hq ho => h4.hasO ho (.inr (by rcases hq with h | h <;> omega)), rfl, h3⟩
 intro c1 v2 hcc hJ hD
 obtain ⟨hB, hA, hO, _, ⟨S2, hS, hS2l, hS2⟩, hs0, _, hEE⟩ := hJ
 replace hS2 : Hid (S2 = f1) := Lib.hid hS2
 obtain ⟨D1, hDD1⟩ : ∃ D, D = u1.heap.size := ⟨_, rfl⟩
 rw [← hDD1] at hD ⊢
 have hEw2 : ∀ p ∈ ([D1, D0] : List Nat), w.heap.size + 3 ≤ p := by
  intro p hp
  rcases List.mem_cons.1 hp with rfl | hp
  ·omega
  ·exact hEw1 p hp
 have hE2 : ∀ p ∈ ([D1, D0] : List Nat), HasO v2 p (.deferred (some [])) := by
  intro p hp
  rcases List.mem_cons.1 hp with rfl | hp
  ·exact hD
  ·exact hEE p hp
 have hDlt1 : ∀ p ∈ ([D0] : List Nat), p < D1 := by rw [hDD1]; exact hElt
 replace hDD1 := Lib.hid hDD1
 clear hI0 hElt hsu hq1l hq1 hlSu hglu hsv hBu hD hEE hcc hqL1 hEw1
 gi_wp2_with fail
 rw [roundsIn_succ]
 obtain ⟨hx2, hy2⟩ := hs0.2 2 (by rw [hst.out]; simp)
 have hgl := hs0.1
 have hcA := hA.cells
 have hlA := hA.lt
 rw [hst.out] at hx2 hy2
 simp only [Nat.reduceMul, List.getElem?_cons_zero, List.getElem?_cons_succ, Option.getD_some] at hx2 hy2
 gi_wp2_with fail
 refine ⟨trivial, (callsIn_wide.2 (ray_any F R a d2 e2 _)).mono ?_⟩
 rintro e u2 ⟨rfl, hRd, hbu, hsu⟩
 obtain ⟨L2, hL2⟩ : ∃ L, L = rayL F R a d2 e2 8 1 := ⟨_, rfl⟩
 obtain ⟨f2, hf2⟩ : ∃ f, f = slideR oc L2 S2 := ⟨_, rfl⟩
 have hqL2 : ∀ x ∈ L2, 0 ≤ x ∧ x < 64 := by rw [hL2]; exact hq64 _ _
 have hbs := below_box v2 (.cells #[.int .i64 d2, .int .i64 e2] 181)
 have hAu := (hA.call hbs).call hbu
 have hOu := (hO.call hbs).call hbu
 have hSu := (hS.call hbs).call hbu
 have hBu := below_call (below_call hB hB.size hbs) (Nat.le_trans hB.size hbs.size) hbu
 have hsv := (hs0.call hbs).call hbu
 have hEu : ∀ p ∈ ([D1, D0] : List Nat), HasO u2 p (.deferred (some [])) := fun p hp => ((hE2 p hp).call hbs).call hbu
 have hElt : ∀ p ∈ ([D1, D0] : List Nat), p < u2.heap.size := fun p hp => (hEu p hp).lt
 have hglu := hsv.1
 have hlSu := hSu.lt
 obtain ⟨q1, hq1⟩ : ∃ q, q = (v2.alloc (.cells #[.int .i64 d2, .int .i64 e2] 181)).heap.size := ⟨_, rfl⟩
 rw [← hq1] at hRd hsu ⊢
 have hq1l : w.heap.size + 3 ≤ q1 := by rw [hq1]; have := hS.lt; simp; omega
 have hI0 : slI w F R a oc g o st q1 d2 e2 L2 f2 [D1, D0] u2.heap.size u2 := ⟨hBu, hAu, hOu, hRd, ⟨S2, hSu, hS2l, hf2.symm⟩, hsv, Nat.le_refl _, hEu⟩
 replace hq1 := Lib.hid hq1
 replace hL2 := Lib.hid hL2
 replace hf2 := Lib.hid hf2
 skip
 clear hA hO hS hB hs0 hbs hbu hcA hlA hgl hx2 hy2 hAu hOu hSu hRd hEu hE2
 gi_wp2_with fail
 refine rangeFunc_law1 (gf := 200) (lb := #[.pointer (some ⟨q1, 0, none⟩), .pointer (some ⟨q1 + 1, 0, none⟩), .pointer (some ⟨q1 + 2, 0, none⟩), .pointer (some ⟨q1 + 3, 0, none⟩)]) 2 (fun a W h => h) rfl (enters_of Tryz.func200 (by kernel_rfl) rfl) (ray_seq F R a d2 e2 q1 (q1 + 1) (q1 + 2) (q1 + 3) hF hR ha hb2 hc2 hn2 L2 hL2.out) (fun _ _ => rfl)
  (fun c k W => slI w F R a oc g o st q1 d2 e2 (L2.drop k) f2 [D1, D0] c W) (fun c W => slI w F R a oc g o st q1 d2 e2 [] f2 [D1, D0] c W) ?hst2 ?hstx2 ?hRd2 ?hsz2 ?hszx2 ?h02 ?hbody2 ?hfin2 ?hcont2
 case hst2 => intro c k W W' hc h ha; exact slI_alt h ha (by omega) (by omega) (by omega) hElt
 case hstx2 => intro c W W' hc h ha; exact slI_alt h ha (by omega) (by omega) (by omega) hElt
 case hRd2 => intro c k W hc h; exact h.2.2.2.1
 case hsz2 => intro c k W hc h; exact h.2.2.2.2.2.2.1
 case hszx2 => intro c W hc h; exact h.2.2.2.2.2.2.1
 case hfin2 => intro c W h; rw [List.drop_length] at h; exact h
 case h02 =>
  intro c W hb hc hz
  obtain ⟨b, i1, i2, ⟨r1, r2, r3, r4⟩, ⟨S, s1, s2, s3⟩, i4, i5, i6⟩ := slI_alt hI0 (Alt.call (lo := u2.heap.size) (hi := u2.heap.size) hb) (by omega) (by omega) (by omega) hElt
  exact ⟨b, i1, i2, ⟨r1, r2, r3, r4⟩, ⟨S, s1, s2, s3⟩, i4, by omega, i6⟩
 case hbody2 =>
  rintro c k W hc hk h hT
  have hkm : L2[k]?.getD 0 ∈ L2 := by rw [List.getElem?_eq_getElem hk]; exact List.getElem_mem hk
  have hxb := hqL2 _ hkm
  have hdr : L2.drop k = (L2[k]?.getD 0) :: L2.drop (k + 1) := by rw [List.getElem?_eq_getElem hk]; exact List.drop_eq_getElem_cons hk
  obtain ⟨x, hx⟩ : ∃ x : Nat, L2[k]?.getD 0 = x := ⟨(L2[k]?.getD 0).toNat, by omega⟩
  rw [hx] at hdr hxb
  simp only [hx]
  have hx64 : (x : Int) < 64 := by omega
  clear hkm
  replace hk := Lib.hid hk
  replace hx := Lib.hid hx
  gi_wp2_with fail
  refine ⟨fun q o _ h => h, fun W2 ha hz hrec => ?_⟩
  have h2 := slI_alt h ha (by omega) (by omega) (by omega) (fun p hp => by have := hElt p hp; omega)
  have h2' := h2
  obtain ⟨b, i1, i2, ir, ⟨S, s1, s2, s3⟩, i4, i5, i6⟩ := h2'
  have c9 := s1.cells 0
  have f9 := s1.frozen
  have l9 := s1.lt
  replace hz := Lib.hid hz
  rw [hdr] at s3
  simp only [slideR, Int.toNat_natCast] at s3
  have wo : bits .or .u64 (S : Int) (IntKind.u64.wrap (2 ^ x)) = ((S ||| 2 ^ x : Nat) : Int) := or_bit s2 (by omega)
  have s4 : S ||| 2 ^ x < 2 ^ 64 := Nat.or_lt_two_pow s2 (Nat.pow_lt_pow_right (by decide) (by omega))
  have c8 := bit_and (x := x) hoc
  have hlD : w.heap.size + 3 ≤ u2.heap.size := by omega
  gi_wp2_with fail
  gi_region
  all_goals
   replace wo := Lib.hid wo
   rcases ht : oc.testBit x with _ | _
   ·rw [ht] at s3 c8
    obtain ⟨h3, h4⟩ := slI_set (L' := L2.drop (k + 1)) (S' := S ||| 2 ^ x) h2 s4 (by simpa using s3) hq1l hgw hEw2
    generalize (W2.setCell ⟨w.heap.size + 1 + 1, 0, none⟩ (.int .u64 ((S ||| 2 ^ x : Nat) : Int))).drew = W3 at *
    have c6 := h3.2.2.1.cells 0
    have l6 := h3.2.2.1.lt
    clear c9 f9 l9 i1 i2 ir i4 i6 s1 b h2 i5
    replace s3 := Lib.hid s3
    gi_wp2_with fail
    exact ⟨fun q o hq ho => h4.hasO ho (.inr (by rcases hq with h | h | h <;> omega)), h3⟩
   ·rw [ht] at s3 c8
    obtain ⟨h3, h4⟩ := slI_set (L' := []) (S' := S ||| 2 ^ x) h2 s4 (by simpa [slideR] using s3) hq1l hgw hEw2
    generalize (W2.setCell ⟨w.heap.size + 1 + 1, 0, none⟩ (.int .u64 ((S ||| 2 ^ x : Nat) : Int))).drew = W3 at *
    have c6 := h3.2.2.1.cells 0
    have l6 := h3.2.2.1.lt
    clear c9 f9 l9 i1 i2 ir i4 i6 s1 b h2 i5
    replace s3 := Lib.hid s3
    gi_wp2_with fail
    exact ⟨fun q o hq ho => h4.hasO ho (.inr (by rcases hq with h | h <;> omega)), rfl, h3⟩
 intro c2 v3 hcc hJ hD
 obtain ⟨hB, hA, hO, _, ⟨S3, hS, hS3l, hS3⟩, hs0, _, hEE⟩ := hJ
 replace hS3 : Hid (S3 = f2) := Lib.hid hS3
 obtain ⟨D2, hDD2⟩ : ∃ D, D = u2.heap.size := ⟨_, rfl⟩
 rw [← hDD2] at hD ⊢
 have hEw3 : ∀ p ∈ ([D2, D1, D0] : List Nat), w.heap.size + 3 ≤ p := by
  intro p hp
  rcases List.mem_cons.1 hp with rfl | hp
  ·omega
  ·exact hEw2 p hp
 have hE3 : ∀ p ∈ ([D2, D1, D0] : List Nat), HasO v3 p (.deferred (some [])) := by
  intro p hp
  rcases List.mem_cons.1 hp with rfl | hp
  ·exact hD
  ·exact hEE p hp
 have hDlt2 : ∀ p ∈ ([D1, D0] : List Nat), p < D2 := by rw [hDD2]; exact hElt
 replace hDD2 := Lib.hid hDD2
 clear hI0 hElt hsu hq1l hq1 hlSu hglu hsv hBu hD hEE hcc hqL2 hEw2
 gi_wp2_with fail
 rw [roundsIn_succ]
 obtain ⟨hx3, hy3⟩ := hs0.2 3 (by rw [hst.out]; simp)
 have hgl := hs0.1
 have hcA := hA.cells
 have hlA := hA.lt
 rw [hst.out] at hx3 hy3
 simp only [Nat.reduceMul, List.getElem?_cons_zero, List.getElem?_cons_succ, Option.getD_some] at hx3 hy3
 gi_wp2_with fail
 refine ⟨trivial, (callsIn_wide.2 (ray_any F R a d3 e3 _)).mono ?_⟩
 rintro e u3 ⟨rfl, hRd, hbu, hsu⟩
 obtain ⟨L3, hL3⟩ : ∃ L, L = rayL F R a d3 e3 8 1 := ⟨_, rfl⟩
 obtain ⟨f3, hf3⟩ : ∃ f, f = slideR oc L3 S3 := ⟨_, rfl⟩
 have hqL3 : ∀ x ∈ L3, 0 ≤ x ∧ x < 64 := by rw [hL3]; exact hq64 _ _
 have hbs := below_box v3 (.cells #[.int .i64 d3, .int .i64 e3] 181)
 have hAu := (hA.call hbs).call hbu
 have hOu := (hO.call hbs).call hbu
 have hSu := (hS.call hbs).call hbu
 have hBu := below_call (below_call hB hB.size hbs) (Nat.le_trans hB.size hbs.size) hbu
 have hsv := (hs0.call hbs).call hbu
 have hEu : ∀ p ∈ ([D2, D1, D0] : List Nat), HasO u3 p (.deferred (some [])) := fun p hp => ((hE3 p hp).call hbs).call hbu
 have hElt : ∀ p ∈ ([D2, D1, D0] : List Nat), p < u3.heap.size := fun p hp => (hEu p hp).lt
 have hglu := hsv.1
 have hlSu := hSu.lt
 obtain ⟨q1, hq1⟩ : ∃ q, q = (v3.alloc (.cells #[.int .i64 d3, .int .i64 e3] 181)).heap.size := ⟨_, rfl⟩
 rw [← hq1] at hRd hsu ⊢
 have hq1l : w.heap.size + 3 ≤ q1 := by rw [hq1]; have := hS.lt; simp; omega
 have hI0 : slI w F R a oc g o st q1 d3 e3 L3 f3 [D2, D1, D0] u3.heap.size u3 := ⟨hBu, hAu, hOu, hRd, ⟨S3, hSu, hS3l, hf3.symm⟩, hsv, Nat.le_refl _, hEu⟩
 replace hq1 := Lib.hid hq1
 replace hL3 := Lib.hid hL3
 replace hf3 := Lib.hid hf3
 skip
 clear hA hO hS hB hs0 hbs hbu hcA hlA hgl hx3 hy3 hAu hOu hSu hRd hEu hE3
 gi_wp2_with fail
 refine rangeFunc_law1 (gf := 200) (lb := #[.pointer (some ⟨q1, 0, none⟩), .pointer (some ⟨q1 + 1, 0, none⟩), .pointer (some ⟨q1 + 2, 0, none⟩), .pointer (some ⟨q1 + 3, 0, none⟩)]) 2 (fun a W h => h) rfl (enters_of Tryz.func200 (by kernel_rfl) rfl) (ray_seq F R a d3 e3 q1 (q1 + 1) (q1 + 2) (q1 + 3) hF hR ha hb3 hc3 hn3 L3 hL3.out) (fun _ _ => rfl)
  (fun c k W => slI w F R a oc g o st q1 d3 e3 (L3.drop k) f3 [D2, D1, D0] c W) (fun c W => slI w F R a oc g o st q1 d3 e3 [] f3 [D2, D1, D0] c W) ?hst3 ?hstx3 ?hRd3 ?hsz3 ?hszx3 ?h03 ?hbody3 ?hfin3 ?hcont3
 case hst3 => intro c k W W' hc h ha; exact slI_alt h ha (by omega) (by omega) (by omega) hElt
 case hstx3 => intro c W W' hc h ha; exact slI_alt h ha (by omega) (by omega) (by omega) hElt
 case hRd3 => intro c k W hc h; exact h.2.2.2.1
 case hsz3 => intro c k W hc h; exact h.2.2.2.2.2.2.1
 case hszx3 => intro c W hc h; exact h.2.2.2.2.2.2.1
 case hfin3 => intro c W h; rw [List.drop_length] at h; exact h
 case h03 =>
  intro c W hb hc hz
  obtain ⟨b, i1, i2, ⟨r1, r2, r3, r4⟩, ⟨S, s1, s2, s3⟩, i4, i5, i6⟩ := slI_alt hI0 (Alt.call (lo := u3.heap.size) (hi := u3.heap.size) hb) (by omega) (by omega) (by omega) hElt
  exact ⟨b, i1, i2, ⟨r1, r2, r3, r4⟩, ⟨S, s1, s2, s3⟩, i4, by omega, i6⟩
 case hbody3 =>
  rintro c k W hc hk h hT
  have hkm : L3[k]?.getD 0 ∈ L3 := by rw [List.getElem?_eq_getElem hk]; exact List.getElem_mem hk
  have hxb := hqL3 _ hkm
  have hdr : L3.drop k = (L3[k]?.getD 0) :: L3.drop (k + 1) := by rw [List.getElem?_eq_getElem hk]; exact List.drop_eq_getElem_cons hk
  obtain ⟨x, hx⟩ : ∃ x : Nat, L3[k]?.getD 0 = x := ⟨(L3[k]?.getD 0).toNat, by omega⟩
  rw [hx] at hdr hxb
  simp only [hx]
  have hx64 : (x : Int) < 64 := by omega
  clear hkm
  replace hk := Lib.hid hk
  replace hx := Lib.hid hx
  gi_wp2_with fail
  refine ⟨fun q o _ h => h, fun W2 ha hz hrec => ?_⟩
  have h2 := slI_alt h ha (by omega) (by omega) (by omega) (fun p hp => by have := hElt p hp; omega)
  have h2' := h2
  obtain ⟨b, i1, i2, ir, ⟨S, s1, s2, s3⟩, i4, i5, i6⟩ := h2'
  have c9 := s1.cells 0
  have f9 := s1.frozen
  have l9 := s1.lt
  replace hz := Lib.hid hz
  rw [hdr] at s3
  simp only [slideR, Int.toNat_natCast] at s3
  have wo : bits .or .u64 (S : Int) (IntKind.u64.wrap (2 ^ x)) = ((S ||| 2 ^ x : Nat) : Int) := or_bit s2 (by omega)
  have s4 : S ||| 2 ^ x < 2 ^ 64 := Nat.or_lt_two_pow s2 (Nat.pow_lt_pow_right (by decide) (by omega))
  have c8 := bit_and (x := x) hoc
  have hlD : w.heap.size + 3 ≤ u3.heap.size := by omega
  gi_wp2_with fail
  gi_region
  all_goals
   replace wo := Lib.hid wo
   rcases ht : oc.testBit x with _ | _
   ·rw [ht] at s3 c8
    obtain ⟨h3, h4⟩ := slI_set (L' := L3.drop (k + 1)) (S' := S ||| 2 ^ x) h2 s4 (by simpa using s3) hq1l hgw hEw3
    generalize (W2.setCell ⟨w.heap.size + 1 + 1, 0, none⟩ (.int .u64 ((S ||| 2 ^ x : Nat) : Int))).drew = W3 at *
    have c6 := h3.2.2.1.cells 0
    have l6 := h3.2.2.1.lt
    clear c9 f9 l9 i1 i2 ir i4 i6 s1 b h2 i5
    replace s3 := Lib.hid s3
    gi_wp2_with fail
    exact ⟨fun q o hq ho => h4.hasO ho (.inr (by rcases hq with h | h | h <;> omega)), h3⟩
   ·rw [ht] at s3 c8
    obtain ⟨h3, h4⟩ := slI_set (L' := []) (S' := S ||| 2 ^ x) h2 s4 (by simpa [slideR] using s3) hq1l hgw hEw3
    generalize (W2.setCell ⟨w.heap.size + 1 + 1, 0, none⟩ (.int .u64 ((S ||| 2 ^ x : Nat) : Int))).drew = W3 at *
    have c6 := h3.2.2.1.cells 0
    have l6 := h3.2.2.1.lt
    clear c9 f9 l9 i1 i2 ir i4 i6 s1 b h2 i5
    replace s3 := Lib.hid s3
    gi_wp2_with fail
    exact ⟨fun q o hq ho => h4.hasO ho (.inr (by rcases hq with h | h <;> omega)), rfl, h3⟩
 intro c3 v4 hcc hJ hD
 obtain ⟨hB, hA, hO, _, ⟨S4, hS, hS4l, hS4⟩, hs0, _, hEE⟩ := hJ
 replace hS4 : Hid (S4 = f3) := Lib.hid hS4
 obtain ⟨D3, hDD3⟩ : ∃ D, D = u3.heap.size := ⟨_, rfl⟩
 rw [← hDD3] at hD ⊢
 have hEw4 : ∀ p ∈ ([D3, D2, D1, D0] : List Nat), w.heap.size + 3 ≤ p := by
  intro p hp
  rcases List.mem_cons.1 hp with rfl | hp
  ·omega
  ·exact hEw3 p hp
 have hE4 : ∀ p ∈ ([D3, D2, D1, D0] : List Nat), HasO v4 p (.deferred (some [])) := by
  intro p hp
  rcases List.mem_cons.1 hp with rfl | hp
  ·exact hD
  ·exact hEE p hp
 have hDlt3 : ∀ p ∈ ([D2, D1, D0] : List Nat), p < D3 := by rw [hDD3]; exact hElt
 replace hDD3 := Lib.hid hDD3
 clear hI0 hElt hsu hq1l hq1 hlSu hglu hsv hBu hD hEE hcc hqL3 hEw3
 gi_wp2_with fail
 rw [roundsIn_succ]
 have hc9 := hS.cells 0
 have hl9 := hS.lt
 gi_wp2_with fail
 have hv : S4 = V := by rw [hV.out, hst.out]; simp only [slideW, List.getElem?_cons_zero, List.getElem?_cons_succ, Option.getD_some]; rw [hS4.out, hf3.out, hL3.out, hS3.out, hf2.out, hL2.out, hS2.out, hf1.out, hL1.out, hS1.out, hf0.out, hL0.out, hS0.out]
 have m32 := hDlt3 D2 (by simp)
 have m31 := hDlt3 D1 (by simp)
 have m30 := hDlt3 D0 (by simp)
 have m21 := hDlt2 D1 (by simp)
 have m20 := hDlt2 D0 (by simp)
 have m10 := hDlt1 D0 (by simp)
 have x3 := hE4 D3 (by simp)
 have x2 := hE4 D2 (by simp)
 have x1 := hE4 D1 (by simp)
 have x0 := hE4 D0 (by simp)
 have k3 := hEw4 D3 (by simp)
 have k2 := hEw4 D2 (by simp)
 have k1 := hEw4 D1 (by simp)
 have k0 := hEw4 D0 (by simp)
 refine ⟨by simp, .inl ⟨_, _, rfl, run_takeDeferred x3, by simp, .inl ⟨_, _, rfl, run_takeDeferred ((World.putObj_heap_other (k := D2) (by omega)).trans x2), by simp,
  .inl ⟨_, _, rfl, run_takeDeferred ((World.putObj_heap_other (k := D1) (by omega)).trans ((World.putObj_heap_other (k := D1) (by omega)).trans x1)), by simp,
  .inl ⟨_, _, rfl, run_takeDeferred ((World.putObj_heap_other (k := D0) (by omega)).trans ((World.putObj_heap_other (k := D0) (by omega)).trans ((World.putObj_heap_other (k := D0) (by omega)).trans x0))), ?_⟩⟩⟩⟩⟩
 refine ⟨_, results_tmp rfl _ _ _, ret_v ?_, ?_⟩
 ·show Value.int .u64 (S4 : Int) = _
  rw [hv]
 ·exact below_putObj (below_putObj (below_putObj (below_putObj hB (by omega) hB.size) (by omega) (by simpa using hB.size)) (by omega) (by simpa using hB.size)) (by omega) (by simpa using hB.size)
end Go.Proofs.YtefmplccbkmalaaGreatDoor
