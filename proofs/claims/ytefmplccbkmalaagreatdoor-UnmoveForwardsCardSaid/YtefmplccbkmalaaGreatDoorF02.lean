import Derived.Test.YtefmplccbkmalaaGreatDoorF01
import Derived.Orders
import Derived.RangeFuncNested
import Derived.RangeFuncBound
import Derived.RangeFuncCalls
import Derived.RangeFuncLeaves
import Derived.OwnWalkIn
import Derived.TacticsInMore
import Derived.LoopNIn
import Derived.LoopIn
import Derived.Laws.Tables
import Derived.Laws.ResultCell
namespace Go.Proofs.YtefmplccbkmalaaGreatDoor
open Go.RowKit

def upd (S : Nat → Bool) (i : Nat) : Nat → Bool := fun j => if j = i then true else S j
def edgesBack (md : Region.Mode) (ops : Array Oper) : Bool := (List.range ops.size).all fun i => ((ops[i]?).map (·.after.all fun e => !Region.binds md e || decide (e.on < i))).getD false

theorem ready_of_least {md : Region.Mode} {ops : Array Oper} (hb : edgesBack md ops = true) {listed : Array Bool} {i : Nat} (hi : i < ops.size) (hl : listed.getD i true = false) (hlow : ∀ j, j < i → listed.getD j false = true) :
  i ∈ Region.ready md ops listed := by
 unfold edgesBack at hb
 rw [List.all_eq_true] at hb
 have h := hb i (List.mem_range.2 hi)
 unfold Region.ready
 rw [List.mem_filter]
 refine ⟨List.mem_range.2 hi, ?_⟩
 have ho : ops[i]? = some ops[i] := Array.getElem?_eq_getElem hi
 rw [ho] at h ⊢
 simp only [Option.map_some, Option.getD_some] at h ⊢
 rw [hl]
 simp only [Bool.not_false, Bool.true_and]
 rw [Array.all_eq_true] at h ⊢
 intro k hk
 have := h k hk
 rcases hbd : Region.binds md ops[i].after[k] with _ | _
 ·simp
 ·rw [hbd] at this
  simp only [Bool.not_true, Bool.false_or, decide_eq_true_eq] at this
  simp [hlow _ this]

theorem wpAny_inv {P : Program} {md : Region.Mode} {ops : Array Oper} {Q : Exit → Act → World → Prop} (hb : edgesBack md ops = true) (I : (Nat → Bool) → Act → World → Prop)
  (hcong : ∀ S S' a w, (∀ i, i < ops.size → S i = S' i) → I S a w → I S' a w)
  (hstep : ∀ S a w i (hi : i < ops.size), S i = false → (∀ e ∈ ops[i].after, Region.binds md e = true → S e.on = true) → I S a w →
   if Region.wanted ops[i] (yielded ops a.tmps) = true then (ops[i]).wp P a w (I (upd S i)) Q else I (upd S i) (a.put ops[i].dst undef) w)
  (hend : ∀ S a w, (∀ i, i < ops.size → S i = true) → I S a w → Q .normal a w) :
  ∀ (fuel : Nat) (listed : Array Bool) (a : Act) (w : World), listed.size = ops.size → listed.toList.countP (· == false) ≤ fuel → I (fun i => listed.getD i false) a w → wpAny P md ops Q fuel listed a w := by
 have hall : ∀ (listed : Array Bool), listed.size = ops.size → Region.ready md ops listed = [] → ∀ i, i < ops.size → listed.getD i false = true := by
  intro listed hs hr i
  induction i using Nat.strongRecOn with
  | _ i ih =>
   intro hi
   rcases hl : listed.getD i false with _ | _
   ·exfalso
    have : i ∈ Region.ready md ops listed := ready_of_least hb hi (by
     have h2 : i < listed.size := by omega
     simp only [Array.getD_eq_getD_getElem?, Array.getElem?_eq_getElem h2, Option.getD_some] at hl ⊢
     exact hl) (fun j hj => ih j hj (by omega))
    rw [hr] at this; cases this
   ·rfl
 intro fuel
 induction fuel with
 | zero =>
  intro listed a w hs hc hI
  have ht : ∀ i, i < ops.size → listed.getD i false = true := by
   intro i hi
   have h2 : i < listed.size := by omega
   have h0 : listed.toList.countP (· == false) = 0 := by omega
   rw [List.countP_eq_zero] at h0
   have := h0 listed[i] (by simp)
   simp only [Array.getD_eq_getD_getElem?, Array.getElem?_eq_getElem h2, Option.getD_some]
   simpa using this
  refine ⟨?_, hend _ a w ht hI⟩
  unfold Region.ready
  rw [List.filter_eq_nil_iff]
  intro i hi
  have hi := List.mem_range.1 hi
  have h2 : i < listed.size := by omega
  have := ht i hi
  simp only [Array.getD_eq_getD_getElem?, Array.getElem?_eq_getElem h2, Option.getD_some] at this ⊢
  simp [this]
 | succ fuel ih =>
  intro listed a w hs hc hI
  refine ⟨fun hr => hend _ a w (hall listed hs hr) hI, fun i hi => ?_⟩
  unfold Region.ready at hi
  rw [List.mem_filter] at hi
  obtain ⟨hi, hrd⟩ := hi
  have hi := List.mem_range.1 hi
  have h2 : i < listed.size := by omega
  have ho : ops[i]? = some ops[i] := Array.getElem?_eq_getElem hi
  rw [ho] at hrd
  simp only [Option.map_some, Option.getD_some, Bool.and_eq_true, Bool.not_eq_true'] at hrd
  obtain ⟨hl, he⟩ := hrd
  have hl' : listed[i] = false := by simpa [Array.getD_eq_getD_getElem?, Array.getElem?_eq_getElem h2] using hl
  rw [Array.all_eq_true] at he
  have hk : ∀ a' w', I (upd (fun i => listed.getD i false) i) a' w' → wpAny P md ops Q fuel (listed.setIfInBounds i true) a' w' := by
   intro a' w' h
   refine ih _ a' w' (by simpa using hs) ?_ (hcong _ _ _ _ (fun j hj => ?_) h)
   ·have h3 : listed.toList.countP (· == false) = (listed.setIfInBounds i true).toList.countP (· == false) + 1 := by
     rw [Array.toList_setIfInBounds, List.countP_set (by simpa using h2)]
     have hp : 0 < listed.toList.countP (· == false) := List.countP_pos_iff.2 ⟨listed[i], by simp, by simp [hl']⟩
     rw [Array.getElem_toList, hl']
     simp only [beq_self_eq_true, if_true, Bool.true_eq_false, beq_iff_eq, if_false]
     omega
    omega
   ·unfold upd
    by_cases e : j = i
    ·subst e; simp [Array.getD_eq_getD_getElem?, h2]
    ·have e' : i ≠ j := fun h => e h.symm
     simp [e, Array.getD_eq_getD_getElem?, Array.getElem?_setIfInBounds_ne e']
  have hs2 := hstep (fun i => listed.getD i false) a w i hi (by simp [Array.getD_eq_getD_getElem?, Array.getElem?_eq_getElem h2, hl']) (fun e hm hbd => by
   obtain ⟨k, hk, rfl⟩ := Array.getElem_of_mem hm
   have := he k hk
   simpa [hbd] using this) hI
  unfold wpOp
  rw [ho]
  simp only []
  by_cases hw : Region.wanted ops[i] (yielded ops a.tmps) = true
  ·rw [if_pos hw] at hs2 ⊢
   exact .inl (Oper.wp_mono hk hs2)
  ·rw [if_neg hw] at hs2 ⊢
   exact hk _ _ hs2

theorem wp_region_inv {P : Program} {id : Nat} {ops : Array Oper} {Q : Exit → Act → World → Prop} {a : Act} {w : World} (hm : P.follows .mixedOrders = true) (hb : edgesBack .any ops = true) (I : (Nat → Bool) → Act → World → Prop)
  (hcong : ∀ S S' a w, (∀ i, i < ops.size → S i = S' i) → I S a w → I S' a w)
  (h0 : I (fun _ => false) a w.drew)
  (hstep : ∀ S a w i (hi : i < ops.size), S i = false → (∀ e ∈ ops[i].after, Region.binds .any e = true → S e.on = true) → I S a w →
   if Region.wanted ops[i] (yielded ops a.tmps) = true then (ops[i]).wp P a w (I (upd S i)) Q else I (upd S i) (a.put ops[i].dst undef) w)
  (hend : ∀ S a w, (∀ i, i < ops.size → S i = true) → I S a w → Q .normal a w) : (Code.region id ops true).wp P Q a w := by
 refine wp_region_any hm (wpAny_inv hb I hcong hstep hend _ _ _ _ (by simp) ?_ (hcong _ _ _ _ (fun i hi => by simp [Array.getD_eq_getD_getElem?, hi]) h0))
 simp [List.countP_replicate]

theorem wp_region_ag {P : Program} {id : Nat} {ops : Array Oper} {Q : Exit → Act → World → Prop} {a : Act} {w : World} (hm : P.follows .mixedOrders = true) (hb : edgesBack .any ops = true)
  (fr : (Nat → Value) → Act) (f0 : Nat → Value) (ha : a = fr f0) (hfr : ∀ i (hi : i < ops.size) f u, (fr f).put ops[i].dst u = fr (fun j => if j = i then u else f j))
  (C : World → Prop) (Le : World → World → Prop) (W : Nat → Value → World → Prop) (hstab : ∀ i v w w', C w → Le w w' → W i v w → W i v w')
  (h0 : C w.drew)
  (hstep : ∀ i o f w, ops[i]? = some o → i < ops.size → C w → (∀ e ∈ o.after, Region.binds .any e = true → W e.on (f e.on) w) → ∀ K : Act → World → Prop, (∀ u w', C w' → Le w w' → W i u w' → K ((fr f).put o.dst u) w') →
   if Region.wanted o (yielded ops (fr f).tmps) = true then o.wp P (fr f) w K Q else K ((fr f).put o.dst undef) w)
  (hend : ∀ f w, C w → (∀ i, i < ops.size → W i (f i) w) → Q .normal (fr f) w) : (Code.region id ops true).wp P Q a w := by
 refine wp_region_inv hm hb (fun S a w => ∃ f, a = fr f ∧ C w ∧ ∀ i, i < ops.size → S i = true → W i (f i) w) ?_ ⟨f0, ha, h0, fun i _ h => by cases h⟩ ?_ ?_
 ·rintro S S' a w hS ⟨f, h1, h2, h3⟩
  exact ⟨f, h1, h2, fun i hi h => h3 i hi (by rw [hS i hi]; exact h)⟩
 ·rintro S a w i hi hSi hpre ⟨f, rfl, hC, hW⟩
  have hback : ∀ e ∈ ops[i].after, Region.binds .any e = true → e.on < ops.size := by
   intro e he hbd
   have hb' := hb
   unfold edgesBack at hb'
   rw [List.all_eq_true] at hb'
   have h := hb' i (List.mem_range.2 hi)
   have ho : ops[i]? = some ops[i] := Array.getElem?_eq_getElem hi
   rw [ho] at h
   simp only [Option.map_some, Option.getD_some] at h
   rw [Array.all_eq_true] at h
   obtain ⟨k, hk, rfl⟩ := Array.getElem_of_mem he
   have := h k hk
   rw [hbd] at this
   simp only [Bool.not_true, Bool.false_or, decide_eq_true_eq] at this
   omega
  refine hstep i _ f w (Array.getElem?_eq_getElem hi) hi hC (fun e he hbd => hW _ (hback e he hbd) (hpre e he hbd)) _ ?_
  intro u w' hC' hle hWi
  refine ⟨_, hfr i hi f u, hC', fun j hj hSj => ?_⟩
  by_cases e : j = i
  ·subst e; simpa using hWi
  ·simp only [e, if_false]
   refine hstab j _ _ _ hC hle (hW j hj ?_)
   simpa [upd, e] using hSj
 ·rintro S a w hS ⟨f, rfl, hC, hW⟩
  exact hend f w hC (fun i hi => hW i hi (hS i hi))
structure Alt (lo hi : Nat) (w w' : World) : Prop where
 os : w'.os = w.os
 tape : w'.tape = w.tape
 output : w'.output = w.output
 size : w.heap.size ≤ w'.heap.size
 block : ∀ k, k < w.heap.size → (k < lo ∨ hi ≤ k) → w'.heap[k]? = w.heap[k]?
section
variable {lo hi q B : Nat} {w w' w2 : World} {o : Obj}
theorem Alt.refl (lo hi : Nat) (w : World) : Alt lo hi w w := ⟨rfl, rfl, rfl, Nat.le_refl _, fun _ _ _ => rfl⟩
theorem Alt.trans (h : Alt lo hi w w') (k : Alt lo hi w' w2) : Alt lo hi w w2 :=
 ⟨k.os.trans h.os, k.tape.trans h.tape, k.output.trans h.output, Nat.le_trans h.size k.size, fun i hi hr => (k.block i (Nat.lt_of_lt_of_le hi h.size) hr).trans (h.block i hi hr)⟩
theorem Alt.hasO (h : Alt lo hi w w') (hq : HasO w q o) (hr : q < lo ∨ hi ≤ q) : HasO w' q o := (h.block q hq.lt hr).trans hq
theorem Alt.below (h : Alt lo hi w w') {w0 : World} (hb : Below B w0 w) (hB : B ≤ lo) (hB2 : B ≤ w.heap.size) : Below B w0 w' :=
 hb.trans ⟨h.os, h.tape, h.output, h.size, fun k hk => h.block k (by omega) (.inl (by omega))⟩
theorem Alt.own (h : Alt lo hi w w') {base : Nat} {e : TypeId} {size n : Nat} {v : Value} {xs : List Value} (ho : w.ownsRow base e size v n xs) (hr : ∀ g, v.ownBlock = some g → g < lo ∨ hi ≤ g) : w'.ownsRow base e size v n xs := by
 refine ⟨ho.1, ?_⟩
 rcases ho.2 with h2 | ⟨g, cap, cur, hv, hg, hh, r⟩
 ·exact .inl h2
 ·refine .inr ⟨g, cap, cur, hv, hg, ?_, r⟩
  have := HasO.lt (w := w) (q := g) (o := .cells cur e (0, 0)) hh
  rw [h.block g this (hr g (by rw [hv]; rfl))]; exact hh
theorem Alt.putObj (hq : lo ≤ q ∧ q < hi) : Alt lo hi w (w.putObj q o) :=
 ⟨rfl, rfl, rfl, by simp, fun k _ hr => World.putObj_heap_other (by omega)⟩
theorem Alt.mono {lo' hi' : Nat} (h : Alt lo hi w w') (h1 : lo' ≤ lo) (h2 : hi ≤ hi') : Alt lo' hi' w w' := ⟨h.os, h.tape, h.output, h.size, fun k hk hr => h.block k hk (by omega)⟩
theorem Alt.setCell {p : Addr} {u : Value} (hq : lo ≤ p.block ∧ p.block < hi) : Alt lo hi w (w.setCell p u) :=
 ⟨rfl, rfl, rfl, by simp [World.setCell], fun k _ hr => Below.heap_setCell _ _ _ _ (by omega)⟩
theorem Alt.drewN (n : Nat) : Alt lo hi w (w.drewN n) := ⟨rfl, rfl, rfl, Nat.le_refl _, fun _ _ _ => rfl⟩
theorem Alt.call (h : Below w.heap.size w w') : Alt lo hi w w' := ⟨h.os, h.tape, h.output, h.size, fun k hk _ => h.block k hk⟩
theorem Alt.alloc (o : Obj) : Alt lo hi w (w.alloc o) := Alt.call (below_box w o)
end

theorem roundIn_any {n m : Nat} {P : Program} {l : Nat} {f : FuncId} {tmps : Array Value} {assign body : Code} {w : World} {R : Ending → World → Prop} (h : RoundIn Fence.wide n P l f tmps assign body w R) : RoundIn Fence.wide m P l f tmps assign body w R :=
 ⟨h.1, fun c cs _ => h.2 c cs (room_wide _)⟩

def OwnT (T : TypeId → Prop) (lo c : Nat) (W : World) : Prop := ∀ q, lo ≤ q → q < c → ∃ o, HasO W q o ∧ ∀ cs t fr, o = .cells cs t fr → T t
def SeqI (P : Program) (gf : Nat) (lb : Array Value) (N : Nat) (encs : Nat → Array Value) (Rd : World → Prop) (Pn : Nat → List PanicEntry → Prop) (T : TypeId → Prop) : Prop :=
 ∀ (n l : Nat) (J : Nat → Nat → World → Prop) (Jx : Nat → Nat → World → Prop) (W0 : World),
  (∀ c k W W', W0.heap.size ≤ c → J c k W → Alt W0.heap.size c W W' → J c k W') →
  (∀ c k W W', W0.heap.size ≤ c → Jx c k W → Alt W0.heap.size c W W' → Jx c k W') →
  (∀ c k W, J c k W → Rd W) → (∀ c k W, J c k W → c ≤ W.heap.size) → (∀ c k W, Jx c k W → c ≤ W.heap.size) →
  (∀ c W, Below W0.heap.size W0 W → W0.heap.size ≤ c → W.heap.size = c → J c 0 W) →
  (∀ c k W, W0.heap.size ≤ c → k < N → J c k W → OwnT T W0.heap.size c W → YieldAt Fence.wide n P l (encs k) W fun e W' => (e = .returned (.bool true) ∧ J c (k + 1) W' ∧ (∀ q o, W0.heap.size ≤ q → q < c → HasO W q o → HasO W' q o)) ∨ (e = .returned (.bool false) ∧ Jx c k W')) →
  CallsIn Fence.wide n P gf (#[.func (.yield l) #[] #[]] ++ lb) W0 fun e W' => ∃ c, W0.heap.size ≤ c ∧ (((∃ v, e = .returned v) ∧ (J c N W' ∨ ∃ k, k < N ∧ Jx c k W')) ∨ (∃ ch k, e = .panicked ch ∧ Pn k ch ∧ J c k W'))

def bodyI (l D : Nat) (I : Nat → World → Prop) (Ix : Code → World → Prop) (k : Nat) (own : Nat → Nat → Prop) (W : World) : Exit → Act → World → Prop
 | .normal, _, W' => (∀ q o, (q = l ∨ q = D ∨ own D q) → HasO W q o → HasO W' q o) ∧ I (k + 1) W'
 | .ret, _, W' => (∀ q o, (q = l ∨ q = D) → HasO W q o → HasO W' q o) ∧ Ix .ret W'
 | .exit id, _, W' => (∀ q o, (q = l ∨ q = D) → HasO W q o → HasO W' q o) ∧ Ix (.exit id) W'
 | .goto t, _, W' => (∀ q o, (q = l ∨ q = D) → HasO W q o → HasO W' q o) ∧ Ix (.goto t) W'
 | .panic _, _, _ => False
 | .outgrown, _, _ => False

theorem rangeFunc_law {n : Nat} {P : Program} {g : Operand} {ps : Array Tmp} {assign body : Code} {Q : Exit → Act → World → Prop} {a : Act} {w : World}
  {gf : Nat} {lb : Array Value} {N : Nat} {encs : Nat → Array Value} {Rd : World → Prop} {Pn : Nat → List PanicEntry → Prop} {T : TypeId → Prop}
  (hg : a.eval g = .func (.func gf) #[] lb) (eg : ∀ args w, (callFunc gf args).run P w = .ok (.enter gf args) w)
  (hseq : SeqI P gf lb N encs Rd Pn T) (hps : ∀ k, k < N → (encs k).size = ps.size)
  (I : Nat → Nat → World → Prop) (Ix : Nat → Code → Nat → World → Prop)
  (hst : ∀ c k W W', w.heap.size + 2 ≤ c → I c k W → Alt w.heap.size c W W' → I c k W')
  (hstx : ∀ c j k W W', w.heap.size + 2 ≤ c → Ix c j k W → Alt w.heap.size c W W' → Ix c j k W')
  (hRd : ∀ c k W, w.heap.size + 2 ≤ c → I c k W → Rd W) (hsz : ∀ c k W, w.heap.size + 2 ≤ c → I c k W → c ≤ W.heap.size) (hszx : ∀ c j k W, w.heap.size + 2 ≤ c → Ix c j k W → c ≤ W.heap.size)
  (h0 : ∀ c W, Below w.heap.size w W → w.heap.size + 2 ≤ c → W.heap.size = c → I c 0 W)
  (hbody : ∀ c k W, w.heap.size + 2 ≤ c → k < N → I c k W → OwnT T w.heap.size c W →
   assign.wpIn (Fence.wide.inRound (w.heap.size + 1)) n P (Exit.then (fun a₁ W₁ => (∀ q o, (w.heap.size ≤ q ∧ q < c) → HasO W q o → HasO W₁ q o) ∧
     ∀ W₂, Alt (w.heap.size + 1) (w.heap.size + 2) W₁ W₂ → W₂.heap.size = W₁.heap.size → (∃ r, HasO W₂ (w.heap.size + 1) (.loop r)) →
      body.wpIn (Fence.wide.inRound (w.heap.size + 1)) n P (bodyI (w.heap.size + 1) w.heap.size (I c) (fun j => Ix c j k) k (fun D q => D + 2 ≤ q ∧ q < c) W₂) a₁ W₂) (fun _ _ _ => False))
    { tmps := (ps.zip (encs k)).foldl (fun t (p, v) => t.setIfInBounds p v) a.tmps, defers := [] } W)
  (hdone : ∀ c W, w.heap.size + 2 ≤ c → I c N W → HasO W w.heap.size (.deferred (some [])) → Q .normal { a with defers := { target := .collected w.heap.size, args := #[] } :: a.defers } W)
  (hstop : ∀ c j k W, w.heap.size + 2 ≤ c → k < N → Ix c j k W → HasO W w.heap.size (.deferred (some [])) → j.wpIn Fence.wide n P Q { a with defers := { target := .collected w.heap.size, args := #[] } :: a.defers } W)
  (hpanic : ∀ c k ch W, w.heap.size + 2 ≤ c → Pn k ch → I c k W → HasO W w.heap.size (.deferred (some [])) → Q (.panic ch) { a with defers := { target := .collected w.heap.size, args := #[] } :: a.defers } W) :
  (Code.rangeFunc g ps assign body).wpIn Fence.wide n P Q a w := by
 refine wpIn_rangeFunc ?_
 intro fn hfn
 obtain ⟨rec, hrec⟩ : ∃ rec : LoopState → Option Code → Loop, rec = fun st pe => { state := st, pending := pe, fn, tmps := a.tmps, params := ps, assign, body, defers := w.heap.size } := ⟨_, rfl⟩
 obtain ⟨W1, hW1⟩ : ∃ W1, (w.alloc (.deferred (some []))).alloc (.loop (rec .ready none)) = W1 := ⟨_, rfl⟩
 have hL1 : HasO W1 (w.heap.size + 1) (.loop (rec .ready none)) := by rw [← hW1]; exact HasO.new' _ _ (by simp)
 have hK1 : HasO W1 w.heap.size (.deferred (some [])) := by rw [← hW1]; exact (HasO.new _ _).alloc _
 have hb1 : Below w.heap.size w W1 := by rw [← hW1]; exact (below_box _ _).alloc (by simp) _
 have hz1 : W1.heap.size = w.heap.size + 2 := by rw [← hW1]; simp
 refine ⟨w.heap.size + 1, [{ target := .collected w.heap.size, args := #[] }], W1, { target := .fn (.func gf) lb, args := #[.func (.yield (w.heap.size + 1)) #[] #[]] }, W1, gf,
  #[.func (.yield (w.heap.size + 1)) #[] #[]] ++ lb, W1, ?_, ?_, ?_, ?_, fun h => by simp [Fence.wide] at h, ?_⟩
 ·rw [← hW1, hrec]; exact run_enterLoop_outer _ _ _ _ _
 ·simp only [resolve, hg]
  simp [go_sem]
 ·intro f' _; trivial
 ·simp [invoke, go_sem, eg]
 ·refine (callsIn_wide.2 (callsIn_wide.1 (hseq n (w.heap.size + 1)
   (fun c k W => I c k W ∧ w.heap.size + 2 ≤ c ∧ HasO W (w.heap.size + 1) (.loop (rec .ready none)) ∧ HasO W w.heap.size (.deferred (some [])))
   (fun c k W => ∃ j, Ix c j k W ∧ w.heap.size + 2 ≤ c ∧ HasO W (w.heap.size + 1) (.loop (rec .done (some j))) ∧ HasO W w.heap.size (.deferred (some [])))
   W1 ?_ ?_ ?_ ?_ ?_ ?_ ?_))).mono ?_
  ·rintro c k W W' hc ⟨hi, h2, hl, hd⟩ ha
   rw [hz1] at ha
   exact ⟨hst c k W W' h2 hi (ha.mono (by omega) (Nat.le_refl _)), h2, ha.hasO hl (by omega), ha.hasO hd (by omega)⟩
  ·rintro c k W W' hc ⟨j, hi, h2, hl, hd⟩ ha
   rw [hz1] at ha
   exact ⟨j, hstx c j k W W' h2 hi (ha.mono (by omega) (Nat.le_refl _)), h2, ha.hasO hl (by omega), ha.hasO hd (by omega)⟩
  ·rintro c k W ⟨hi, h2, _⟩; exact hRd c k W h2 hi
  ·rintro c k W ⟨hi, h2, _⟩; exact hsz c k W h2 hi
  ·rintro c k W ⟨j, hi, h2, _⟩; exact hszx c j k W h2 hi
  ·intro c W hb hc hs
   rw [hz1] at hc
   exact ⟨h0 c W (hb1.trans (hb.mono (by omega))) hc hs, hc, hL1.call hb, hK1.call hb⟩
  ·rintro c k W hc hk ⟨hi, h2, hl, hd⟩ hT
   have hy := run_yield (P := P) (args := encs k) hl (by rw [hrec]; exact hps k hk)
   rw [hrec] at hy
   have hT2 : OwnT T w.heap.size c W := by
    intro q hq1 hq2
    rcases (by omega : q = w.heap.size ∨ q = w.heap.size + 1 ∨ w.heap.size + 2 ≤ q) with rfl | rfl | h3
    ·exact ⟨_, hd, by simp⟩
    ·exact ⟨_, hl, by simp⟩
    ·exact hT q (by omega) hq2
   refine ⟨fn, _, assign, body, hy, roundIn_of_wpIn hfn (wpIn_mono (hbody c k W h2 hk hi hT2) ?_)⟩
   intro e a₁ W₁ he
   cases e with
   | normal =>
    obtain ⟨hkeep, hgo⟩ := he
    have hl1 := hkeep _ _ (by omega) hl
    have hd1 := hkeep _ _ (by omega) hd
    refine ⟨_, run_beginRound (P := P) hl1 (by rw [hrec]), ?_⟩
    have hl2 : HasO (W₁.putObj (w.heap.size + 1) (.loop { rec .ready none with state := .busy })) (w.heap.size + 1) (.loop { rec .ready none with state := .busy }) := World.putObj_heap_same hl1.lt
    have hd2 : HasO (W₁.putObj (w.heap.size + 1) (.loop { rec .ready none with state := .busy })) w.heap.size (.deferred (some [])) := (World.putObj_heap_other (by omega)).trans hd1
    refine wpIn_mono (hgo _ (Alt.putObj ⟨Nat.le_refl _, by omega⟩) (by simp) ⟨_, hl2⟩) ?_
    have fin : ∀ (jump : Option Code) (W3 : World), (∀ q o, (q = w.heap.size + 1 ∨ q = w.heap.size) → HasO (W₁.putObj (w.heap.size + 1) (.loop { rec .ready none with state := .busy })) q o → HasO W3 q o) →
      (Instr.endRound (w.heap.size + 1) jump).run P W3 = .ok (.bool jump.isNone) (W3.putObj (w.heap.size + 1) (.loop (rec (if jump.isNone then .ready else .done) jump))) ∧
      HasO (W3.putObj (w.heap.size + 1) (.loop (rec (if jump.isNone then .ready else .done) jump))) (w.heap.size + 1) (.loop (rec (if jump.isNone then .ready else .done) jump)) ∧
      HasO (W3.putObj (w.heap.size + 1) (.loop (rec (if jump.isNone then .ready else .done) jump))) w.heap.size (.deferred (some [])) := fun jump W3 hk3 => by
     have hl3 := hk3 _ _ (.inl rfl) hl2
     have hd3 := hk3 _ _ (.inr rfl) hd2
     have := run_endRound (P := P) jump hl3
     rw [hrec] at this ⊢
     exact ⟨this, World.putObj_heap_same hl3.lt, (World.putObj_heap_other (by omega)).trans hd3⟩
    rintro e a3 W3 hp
    cases e with
    | normal =>
     obtain ⟨hk3, hi3⟩ := hp
     obtain ⟨hr, hl4, hd4⟩ := fin none W3 (fun q o hq => hk3 q o (by rcases hq with h | h <;> simp [h]))
     refine ⟨_, _, hr, .inl ⟨rfl, ⟨hst c _ _ _ h2 hi3 (Alt.putObj (by omega)), h2, hl4, hd4⟩, fun q o hq1 hq2 hq => ?_⟩⟩
     rw [hz1] at hq1
     refine (World.putObj_heap_other (by omega)).trans (hk3 q o (.inr (.inr ⟨hq1, hq2⟩)) ?_)
     exact (World.putObj_heap_other (by omega)).trans (hkeep q o ⟨by omega, hq2⟩ hq)
    | ret =>
     obtain ⟨hk3, hi3⟩ := hp
     obtain ⟨hr, hl4, hd4⟩ := fin (some .ret) W3 hk3
     exact ⟨_, _, hr, .inr ⟨rfl, .ret, hstx c _ _ _ _ h2 hi3 (Alt.putObj (by omega)), h2, hl4, hd4⟩⟩
    | exit id =>
     obtain ⟨hk3, hi3⟩ := hp
     obtain ⟨hr, hl4, hd4⟩ := fin (some (.exit id)) W3 hk3
     exact ⟨_, _, hr, .inr ⟨rfl, .exit id, hstx c _ _ _ _ h2 hi3 (Alt.putObj (by omega)), h2, hl4, hd4⟩⟩
    | goto t =>
     obtain ⟨hk3, hi3⟩ := hp
     obtain ⟨hr, hl4, hd4⟩ := fin (some (.goto t)) W3 hk3
     exact ⟨_, _, hr, .inr ⟨rfl, .goto t, hstx c _ _ _ _ h2 hi3 (Alt.putObj (by omega)), h2, hl4, hd4⟩⟩
    | panic ch => exact hp.elim
    | outgrown => exact hp.elim
   | ret => exact he.elim
   | exit id => exact he.elim
   | goto t => exact he.elim
   | panic ch => exact he.elim
   | outgrown => exact he.elim
  ·rintro e W2 ⟨c, hc, (⟨⟨v, rfl⟩, (⟨hi, h2, hl, hd⟩ | ⟨k, hk, j, hi, h2, hl, hd⟩)⟩ | ⟨ch, k, rfl, hp, hi, h2, hl, hd⟩)⟩
   ·exact ⟨none, _, by have := run_endLoop (P := P) hl (by rw [hrec]; simp); rw [hrec] at this; exact this, hdone c _ h2 (hst c _ _ _ h2 hi (Alt.putObj (by omega))) ((World.putObj_heap_other (by omega)).trans hd)⟩
   ·exact ⟨some j, _, by have := run_endLoop (P := P) hl (by rw [hrec]; simp); rw [hrec] at this; exact this, hstop c j k _ h2 hk (hstx c _ _ _ _ h2 hi (Alt.putObj (by omega))) ((World.putObj_heap_other (by omega)).trans hd)⟩
   ·exact hpanic c k ch _ h2 hp hi hd
theorem below_putObj {B q : Nat} {w W : World} {o : Obj} (h : Below B w W) (hq : B ≤ q) (hB : B ≤ W.heap.size) : Below B w (W.putObj q o) :=
 (Alt.putObj (lo := q) (hi := q + 1) ⟨Nat.le_refl _, Nat.lt_succ_self _⟩).below h hq hB

theorem setRow_hasO {w : World} {g : Nat} {t : TypeId} {old cells : Array Value} (hg : HasO w g (.cells old t (0, 0))) : HasO (w.setRow g cells) g (.cells cells t (0, 0)) := by
 unfold HasO at hg ⊢
 simp [World.setRow, Array.getElem?_modify, hg]
theorem setRow_alt (w : World) (g : Nat) (cells : Array Value) : Alt g (g + 1) w (w.setRow g cells) := by
 refine ⟨rfl, rfl, rfl, by simp [World.setRow], fun k _ hr => ?_⟩
 simp [World.setRow, Array.getElem?_modify, show ¬ g = k by omega]
theorem setRow_size (w : World) (g : Nat) (cells : Array Value) : (w.setRow g cells).heap.size = w.heap.size := by simp [World.setRow]
theorem setRow_below {w : World} {g B : Nat} {w0 : World} {cells : Array Value} (h : Below B w0 w) (hq : B ≤ g) (hB : B ≤ w.heap.size) : Below B w0 (w.setRow g cells) := (setRow_alt w g cells).below h hq hB
theorem HasO.setRow_far {w : World} {q g : Nat} {o : Obj} {cells : Array Value} (h : HasO w q o) (hq : q ≠ g) : HasO (w.setRow g cells) q o := (setRow_alt w g cells).hasO h (by omega)

theorem wpList_storeAgg {P : Program} {ops : Array Oper} {rest : List Oper} {o : Oper} {a : Act} {w : World} {Q : Exit → Act → World → Prop} (hgd : o.guard = none) (ty : TypeId) (x y : Operand) (ho : o.op = .store ty x y)
  (g : Nat) (cells : Array Value) (hx : a.eval x = .pointer (some ⟨g, 0, none⟩)) (hy : a.eval y = .agg cells)
  (t : TypeId) (old : Array Value) (hg : HasO w g (.cells old t (0, 0))) (hi : (P.info? ty).map (·.size) = some cells.size)
  (hold : old.size = cells.size) (h1 : cells.all (·.oneCell') = true)
  (h : ∀ w', w' = w.setRow g cells → wpList P ops Q rest (a.put o.dst undef) w') : wpList P ops Q (o :: rest) a w :=
 wpList_store_row hgd ty x y ho g cells hx hy t old hg hi hold h1 (h _ rfl)

theorem results_ct {P : Program} {fn : Func} {p u : Tmp} {ty : TypeId} (h : fn.results = #[.cell p ty, .tmp u]) {tmps : Array Value} {w : World} {g : Nat} {t : TypeId} {cs : Array Value}
  (hp : tmps.getD p undef = .pointer (some ⟨g, 0, none⟩)) (hg : HasO w g (.cells cs t (0, 0)))
  (hd : (match P.underlying ty with | some (.struct _) | some (.array _ _) => true | _ => false) = true) (hi : (P.info? ty).map (·.size) = some cs.size) {v : Value} (hv : v = .tuple #[.agg cs, tmps.getD u undef]) :
  (results fn tmps).run P w = .ok v w := by
 subst hv
 cases hu : P.underlying ty with
 | none => rw [hu] at hd; cases hd
 | some d =>
  rw [hu] at hd
  rw [results_cell_tmp h, hp]
  simp only [asAddr, Sem.run_pure, Result.andThen]
  rw [run_loadVar_row w g t ty cs (0, 0) d hg hu (by cases d <;> simp_all) hi]
end Go.Proofs.YtefmplccbkmalaaGreatDoor
