import Derived.Test.YtnpomigmeieofaaGreatDoorS12
import Derived.Test.YtnpomigmeieofaaGreatDoorS41
import Derived.OrdersIn
import Derived.TacticsIn
set_option maxHeartbeats 12800000
namespace Go.Proofs.YtnpomigmeieofaaGreatDoor
open Go.RowKit

theorem wpAnyIn_inv {F : Fence} {n : Nat} {P : Program} {md : Region.Mode} {ops : Array Oper} {Q : Exit → Act → World → Prop} (hb : edgesBack md ops = true) (I : (Nat → Bool) → Act → World → Prop)
  (hcong : ∀ S S' a w, (∀ i, i < ops.size → S i = S' i) → I S a w → I S' a w)
  (hstep : ∀ S a w i (hi : i < ops.size), S i = false → (∀ e ∈ ops[i].after, Region.binds md e = true → S e.on = true) → I S a w →
   if Region.wanted ops[i] (yielded ops a.tmps) = true then (ops[i]).wpIn F n P a w (I (upd S i)) Q else False)
  (hend : ∀ S a w, (∀ i, i < ops.size → S i = true) → I S a w → Q .normal a w) :
  ∀ (fuel : Nat) (listed : Array Bool) (a : Act) (w : World), listed.size = ops.size → listed.toList.countP (· == false) ≤ fuel → I (fun i => listed.getD i false) a w → wpAnyIn F n P md ops Q fuel listed a w := by
 have hall : ∀ (listed : Array Bool), listed.size = ops.size → Region.ready md ops listed = [] → ∀ i, i < ops.size → listed.getD i false = true := by
  intro listed hs hr i
  induction i using Nat.strongRecOn with
  | _ i ih =>
   intro hi
   rcases hl : listed.getD i false with _ | _
   ·exfalso
    have : i ∈ Region.ready md ops listed := ready_of_least hb hi (by
     have h2 : i < listed.size := by omega
     simp only [Array.getD_eq_getD_getElem?, Array.getElem?_eq_getElem h2, Option.getD_some] at hl ⊢
     exact hl) (fun j hj => ih j hj (by omega))
    rw [hr] at this; cases this
   ·rfl
 intro fuel
 induction fuel with
 | zero =>
  intro listed a w hs hc hI
  have ht : ∀ i, i < ops.size → listed.getD i false = true := by
   intro i hi
   have h2 : i < listed.size := by omega
   have h0 : listed.toList.countP (· == false) = 0 := by omega
   rw [List.countP_eq_zero] at h0
   have := h0 listed[i] (by simp)
   simp only [Array.getD_eq_getD_getElem?, Array.getElem?_eq_getElem h2, Option.getD_some]
   simpa using this
  refine ⟨?_, hend _ a w ht hI⟩
  unfold Region.ready
  rw [List.filter_eq_nil_iff]
  intro i hi
  have hi := List.mem_range.1 hi
  have h2 : i < listed.size := by omega
  have := ht i hi
  simp only [Array.getD_eq_getD_getElem?, Array.getElem?_eq_getElem h2, Option.getD_some] at this ⊢
  simp [this]
 | succ fuel ih =>
  intro listed a w hs hc hI
  refine ⟨fun hr => hend _ a w (hall listed hs hr) hI, fun i hi => ?_⟩
  unfold Region.ready at hi
  rw [List.mem_filter] at hi
  obtain ⟨hi, hrd⟩ := hi
  have hi := List.mem_range.1 hi
  have h2 : i < listed.size := by omega
  have ho : ops[i]? = some ops[i] := Array.getElem?_eq_getElem hi
  rw [ho] at hrd
  simp only [Option.map_some, Option.getD_some, Bool.and_eq_true, Bool.not_eq_true'] at hrd
  obtain ⟨hl, he⟩ := hrd
  have hl' : listed[i] = false := by simpa [Array.getD_eq_getD_getElem?, Array.getElem?_eq_getElem h2] using hl
  rw [Array.all_eq_true] at he
  have hk : ∀ a' w', I (upd (fun i => listed.getD i false) i) a' w' → wpAnyIn F n P md ops Q fuel (listed.setIfInBounds i true) a' w' := by
   intro a' w' h
   refine ih _ a' w' (by simpa using hs) ?_ (hcong _ _ _ _ (fun j hj => ?_) h)
   ·have h3 : listed.toList.countP (· == false) = (listed.setIfInBounds i true).toList.countP (· == false) + 1 := by
     rw [Array.toList_setIfInBounds, List.countP_set (by simpa using h2)]
     have hp : 0 < listed.toList.countP (· == false) := List.countP_pos_iff.2 ⟨listed[i], by simp, by simp [hl']⟩
     rw [Array.getElem_toList, hl']
     simp only [beq_self_eq_true, if_true, Bool.true_eq_false, beq_iff_eq, if_false]
     omega
    omega
   ·unfold upd
    by_cases e : j = i
    ·subst e; simp [Array.getD_eq_getD_getElem?, h2]
    ·have e' : i ≠ j := fun h => e h.symm
     simp [e, Array.getD_eq_getD_getElem?, Array.getElem?_setIfInBounds_ne e']
  have hs2 := hstep (fun i => listed.getD i false) a w i hi (by simp [Array.getD_eq_getD_getElem?, Array.getElem?_eq_getElem h2, hl']) (fun e hm hbd => by
   obtain ⟨k, hk, rfl⟩ := Array.getElem_of_mem hm
   have := he k hk
   simpa [hbd] using this) hI
  unfold wpOpIn
  rw [ho]
  simp only []
  by_cases hw : Region.wanted ops[i] (yielded ops a.tmps) = true
  ·rw [if_pos hw] at hs2 ⊢
   exact Oper.wpIn_mono hk hs2
  ·rw [if_neg hw] at hs2
   exact hs2.elim

theorem wpIn_region_inv {F : Fence} {n : Nat} {P : Program} {id : Nat} {ops : Array Oper} {Q : Exit → Act → World → Prop} {a : Act} {w : World} (hm : P.follows .mixedOrders = true) (hb : edgesBack .any ops = true) (I : (Nat → Bool) → Act → World → Prop)
  (hcong : ∀ S S' a w, (∀ i, i < ops.size → S i = S' i) → I S a w → I S' a w)
  (h0 : I (fun _ => false) a w.drew)
  (hstep : ∀ S a w i (hi : i < ops.size), S i = false → (∀ e ∈ ops[i].after, Region.binds .any e = true → S e.on = true) → I S a w →
   if Region.wanted ops[i] (yielded ops a.tmps) = true then (ops[i]).wpIn F n P a w (I (upd S i)) Q else False)
  (hend : ∀ S a w, (∀ i, i < ops.size → S i = true) → I S a w → Q .normal a w) : (Code.region id ops true).wpIn F n P Q a w := by
 refine wpIn_region_any hm (wpAnyIn_inv hb I hcong hstep hend _ _ _ _ (by simp) ?_ (hcong _ _ _ _ (fun i hi => by simp [Array.getD_eq_getD_getElem?, hi]) h0))
 simp [List.countP_replicate]

theorem wpIn_region_relL {F : Fence} {n : Nat} {P : Program} {id : Nat} {ops : Array Oper} {Q : Exit → Act → World → Prop} {a : Act} {w : World} (hm : P.follows .mixedOrders = true) (hb : edgesBack .any ops = true)
  (ds : List (Option Tmp)) (hds : ops.toList.map (·.dst) = ds) (hok : dstsOk ds = true)
  (R : (Nat → Bool) → (Nat → Value) → World → Prop) (hcong : ∀ S S' f w, (∀ i, i < ops.size → S i = S' i) → R S f w → R S' f w) (h0 : ∀ f, R (fun _ => false) f w.drew)
  (hstep : ∀ S i o f w, ops[i]? = some o → i < ops.size → S i = false → (∀ e ∈ o.after, Region.binds .any e = true → S e.on = true) →
   (∀ j o', S j = true → ops[j]? = some o' → ∀ e ∈ o'.after, Region.binds .any e = true → S e.on = true) → R S f w →
   ∀ K : Act → World → Prop, (∀ u w', R (upd S i) (fun j => if j = i then u else f j) w' → K ((putL ds f 0 a).put o.dst u) w') →
   if Region.wanted o (yielded ops (putL ds f 0 a).tmps) = true then o.wpIn F n P (putL ds f 0 a) w K Q else False)
  (hend : ∀ S f w, (∀ i, i < ops.size → S i = true) → R S f w → Q .normal (putL ds f 0 a) w) : (Code.region id ops true).wpIn F n P Q a w := by
 refine wpIn_region_inv hm hb (fun S a' w => ∃ f, a' = putL ds f 0 a ∧ R S f w ∧
  (∀ j o', S j = true → ops[j]? = some o' → ∀ e ∈ o'.after, Region.binds .any e = true → S e.on = true)) ?_ ⟨tmps0 ds a, (putL_self _ _ _ _ (fun i t h => by simp [tmps0, h]) hok).symm, h0 _, fun j o' h => (by cases h)⟩ ?_ ?_
 ·rintro S S' a' w hS ⟨f, h1, h2, h4⟩
  refine ⟨f, h1, hcong _ _ _ _ hS h2, fun j o' hj ho e he hbd => ?_⟩
  have hj2 : j < ops.size := (Array.getElem?_eq_some_iff.1 ho).1
  have hb' := hb
  unfold edgesBack at hb'
  rw [List.all_eq_true] at hb'
  have h := hb' j (List.mem_range.2 hj2)
  rw [ho] at h
  simp only [Option.map_some, Option.getD_some] at h
  rw [Array.all_eq_true] at h
  obtain ⟨k, hk, rfl⟩ := Array.getElem_of_mem he
  have h5 := h k hk
  rw [hbd] at h5
  simp only [Bool.not_true, Bool.false_or, decide_eq_true_eq] at h5
  rw [← hS _ (by omega)]
  exact h4 j o' (by rw [hS _ hj2]; exact hj) ho _ he hbd
 ·rintro S a' w i hi hSi hpre ⟨f, rfl, hR, hcl⟩
  refine hstep S i _ f w (Array.getElem?_eq_getElem hi) hi hSi hpre hcl hR _ ?_
  intro u w' hR'
  refine ⟨_, by have := putL_at ds hok f 0 a i _ (dst_at hds hi) u; rw [Nat.zero_add] at this; exact this, hR', fun j o' hj ho e he hbd => ?_⟩
  unfold upd at hj ⊢
  by_cases e2 : e.on = i
  ·simp [e2]
  ·simp only [e2, if_false]
   by_cases e3 : j = i
   ·subst e3
    have : o' = ops[j] := by rw [Array.getElem?_eq_getElem hi] at ho; exact (Option.some.inj ho).symm
    subst this
    exact hpre e he hbd
   ·simp only [e3, if_false] at hj
    exact hcl j o' hj ho e he hbd
 ·rintro S a' w hS ⟨f, rfl, hR, _⟩
  exact hend S f w hS hR
theorem wpIn_region_last {F : Fence} {n : Nat} {P : Program} {id : Nat} {ops : Array Oper} {Q : Exit → Act → World → Prop} {a : Act} {w : World} (hm : P.follows .mixedOrders = true) (hb : edgesBack .any ops = true)
  (ds : List (Option Tmp)) (hds : ops.toList.map (·.dst) = ds) (hok : dstsOk ds = true) (z : Nat) (hz : ops.size = z + 1) (hall : allInto ops z = true)
  (vals : Nat → Value) (C C' : World → Prop) (h0 : C w.drew)
  (hstep : ∀ i o f W, ops[i]? = some o → i < ops.size → i ≠ z → C W → (∀ e ∈ o.after, Region.binds .any e = true → f e.on = vals e.on) → ∀ K : Act → World → Prop, (∀ W', C W' → K ((putL ds f 0 a).put o.dst (vals i)) W') →
   if Region.wanted o (yielded ops (putL ds f 0 a).tmps) = true then o.wpIn F n P (putL ds f 0 a) W K Q else False)
  (hturn : ∀ o f W, ops[z]? = some o → C W → (∀ e ∈ o.after, Region.binds .any e = true → f e.on = vals e.on) → ∀ K : Act → World → Prop, (∀ W', C' W' → K ((putL ds f 0 a).put o.dst (vals z)) W') →
   if Region.wanted o (yielded ops (putL ds f 0 a).tmps) = true then o.wpIn F n P (putL ds f 0 a) W K Q else False)
  (hend : ∀ f W, C' W → (∀ i, i < ops.size → f i = vals i) → Q .normal (putL ds f 0 a) W) : (Code.region id ops true).wpIn F n P Q a w := by
 have hlt : ∀ (i : Nat) (o : Oper), ops[i]? = some o → ∀ e ∈ o.after, Region.binds .any e = true → e.on < ops.size := by
  intro i o ho e he hbd
  have hi : i < ops.size := (Array.getElem?_eq_some_iff.1 ho).1
  have hb' := hb
  unfold edgesBack at hb'
  rw [List.all_eq_true] at hb'
  have h := hb' i (List.mem_range.2 hi)
  rw [ho] at h
  simp only [Option.map_some, Option.getD_some, Array.all_eq_true', Bool.or_eq_true, Bool.not_eq_true', decide_eq_true_eq] at h
  rcases h e he with h | h
  ·rw [hbd] at h; cases h
  ·omega
 refine wpIn_region_relL hm hb ds hds hok (fun S f W => (∀ i, i < ops.size → S i = true → f i = vals i) ∧ (S z = false → C W) ∧ (S z = true → C' W)) ?_ ?_ ?_ ?_
 ·rintro S S' f W hS ⟨h1, h2, h3⟩
  refine ⟨fun i hi h => h1 i hi (by rw [hS i hi]; exact h), fun h => h2 (by rw [hS z (by omega)]; exact h), fun h => h3 (by rw [hS z (by omega)]; exact h)⟩
 ·intro f
  exact ⟨fun i _ h => (by cases h), fun _ => h0, fun h => (by cases h)⟩
 ·rintro S i o f W ho hi hSi hpre hcl ⟨h1, h2, h3⟩ K hK
  by_cases hiz : i = z
  ·subst hiz
   refine hturn o f W ho (h2 hSi) (fun e he hbd => h1 e.on (hlt i o ho e he hbd) (hpre e he hbd)) K (fun W' hC' => hK _ _ ⟨fun j hj h => ?_, fun h => ?_, fun _ => hC'⟩)
   ·by_cases e : j = i
    ·simp [e]
    ·simp only [upd, if_neg e] at h
     simp only [if_neg e]; exact h1 j hj h
   ·simp [upd] at h
  ·have hSz : S z = false := by
    rcases hs : S z with _ | _
    ·rfl
    ·rw [allInto_up hall hs hcl (z - i) i (by omega)] at hSi; cases hSi
   refine hstep i o f W ho hi hiz (h2 hSz) (fun e he hbd => h1 e.on (hlt i o ho e he hbd) (hpre e he hbd)) K (fun W' hC' => hK _ _ ⟨fun j hj h => ?_, fun _ => hC', fun h => ?_⟩)
   ·by_cases e : j = i
    ·simp [e]
    ·simp only [upd, if_neg e] at h
     simp only [if_neg e]; exact h1 j hj h
   ·have : upd S i z = S z := by simp only [upd, if_neg (fun e : z = i => hiz e.symm)]
    rw [this, hSz] at h; cases h
 ·rintro S f W hall2 ⟨h1, h2, h3⟩
  exact hend f W (h3 (hall2 z (by omega))) (fun i hi => h1 i hi (hall2 i hi))


section
variable {F : Fence} {n : Nat} {P : Program} {o : Oper} {a : Act} {w : World} {K : Act → World → Prop} {Q : Exit → Act → World → Prop}
theorem wpIn_v (s : Sem Value) (hx : execOp a.eval o = (do pure (.value (← s)))) (hab : o.about P w a.eval = none) (hs : o.semAt F.round a.eval = execOp a.eval o) (h : o.wp P a w K Q) : o.wpIn F n P a w K Q := by
 unfold Oper.wp at h
 unfold Oper.wpIn
 rw [hs, hx]
 rw [hx] at h
 refine ⟨fun f hf => (by rw [hab] at hf; cases hf), ?_⟩
 simp only [Sem.run_bind] at h ⊢
 cases hr : s.run P w with
 | ok v w' => rw [hr] at h; simp only [Result.andThen_ok, Sem.run_pure] at h ⊢; exact h
 | halt x w' => rw [hr] at h; cases x <;> exact h
theorem wpIn_u (s : Sem Unit) (hx : execOp a.eval o = (do s; pure .skip)) (hab : o.about P w a.eval = none) (hs : o.semAt F.round a.eval = execOp a.eval o) (h : o.wp P a w K Q) : o.wpIn F n P a w K Q := by
 unfold Oper.wp at h
 unfold Oper.wpIn
 rw [hs, hx]
 rw [hx] at h
 refine ⟨fun f hf => (by rw [hab] at hf; cases hf), ?_⟩
 simp only [Sem.run_bind] at h ⊢
 cases hr : s.run P w with
 | ok v w' => rw [hr] at h; simp only [Result.andThen_ok, Sem.run_pure] at h ⊢; exact h
 | halt x w' => rw [hr] at h; cases x <;> exact h
def plainB : Op → Bool
 | .move _ | .assign _ | .load .. | .store .. | .fieldAddr .. | .indexAddr .. | .binOp .. => true
 | _ => false
theorem wpIn_plain (hp : plainB o.op = true) (h : o.wp P a w K Q) : o.wpIn F n P a w K Q := by
 have hs : ∀ ro, o.semAt ro a.eval = execOp a.eval o := fun ro => Oper.semAt_eq ro a.eval o (fun c e => by rw [e] at hp; cases hp)
 cases ho : o.op
 case move x => exact wpIn_v (pure (a.eval x)) (by unfold execOp; rw [ho]; rfl) (by unfold Oper.about; rw [ho]) (hs _) h
 case assign x => exact wpIn_v (pure (a.eval x)) (by unfold execOp; rw [ho]; rfl) (by unfold Oper.about; rw [ho]) (hs _) h
 case load t x => exact wpIn_v (Instr.loadAt t (a.eval x)) (by unfold execOp; rw [ho]) (by unfold Oper.about; rw [ho]) (hs _) h
 case store t x y => exact wpIn_u (Instr.storeAt t (a.eval x) (a.eval y)) (by unfold execOp; rw [ho]) (by unfold Oper.about; rw [ho]) (hs _) h
 case fieldAddr t x f => exact wpIn_v (Instr.fieldAt t (a.eval x) f) (by unfold execOp; rw [ho]) (by unfold Oper.about; rw [ho]) (hs _) h
 case indexAddr t x y => exact wpIn_v (Instr.indexAt t (a.eval x) (a.eval y)) (by unfold execOp; rw [ho]) (by unfold Oper.about; rw [ho]) (hs _) h
 case binOp b t x y t2 => exact wpIn_v (do eqGuard b t x y (a.eval x) (a.eval y); binOp b t (a.eval x) (a.eval y)) (by unfold execOp; rw [ho]) (by unfold Oper.about; rw [ho]) (hs _) h
 all_goals (rw [ho] at hp; cases hp)
theorem wanted_none {t : Nat → Option Bool} (hg : o.guard = none) : Region.wanted o t = true := by
 unfold Region.wanted; rw [hg]
theorem st_in {t : Nat → Option Bool} {X Y : Prop} (hg : o.guard = none) (hp : plainB o.op = true) (h : if Region.wanted o t = true then o.wp P a w K Q else X) : if Region.wanted o t = true then o.wpIn F n P a w K Q else Y := by
 rw [if_pos (wanted_none hg)] at h ⊢
 exact wpIn_plain hp h
theorem st_nilIn {t : Nat → Option Bool} {Y : Prop} (hg : o.guard = none) (x : Operand) (ho : o.op = .nilCheck x) {p : Addr} (hx : a.eval x = .pointer (some p)) (h : K (a.put o.dst (.pointer (some p))) w) : if Region.wanted o t = true then o.wpIn F n P a w K Q else Y := by
 rw [if_pos (wanted_none hg)]
 have hs : ∀ ro, o.semAt ro a.eval = execOp a.eval o := fun ro => Oper.semAt_eq ro a.eval o (fun c e => by rw [e] at ho; cases ho)
 refine wpIn_v (pure (.pointer (some p))) (by unfold execOp; simp only [ho, hx]; rfl) (by unfold Oper.about; rw [ho]) (hs _) ?_
 unfold Oper.wp execOp
 simp only [ho, hx, Sem.run_pure]
 exact h
end
end Go.Proofs.YtnpomigmeieofaaGreatDoor
namespace Go.Proofs.YtnpomigmeieofaaGreatDoor
open Go.RowKit
attribute [local go_sem] Oper.semAt_some

def firstLoop : Code → Option Code
 | .loop c => some (.loop c)
 | .seq a b => match firstLoop a with | some c => some c | none => firstLoop b
 | .block _ c => firstLoop c
 | .cond _ a b => match firstLoop a with | some c => some c | none => firstLoop b
 | .scope c => firstLoop c
 | _ => none
def firstRange : Code → Option (Code × Code)
 | .rangeFunc _ _ a b => some (a, b)
 | .loop c => firstRange c
 | .seq a b => match firstRange a with | some c => some c | none => firstRange b
 | .block _ c => firstRange c
 | .cond _ a b => match firstRange a with | some c => some c | none => firstRange b
 | .scope c => firstRange c
 | _ => none
def ofA (T : Array Value) : Nat → Value := fun i => T.getD i undef
theorem list_lit (l : List Value) : l = (List.range l.length).map (fun i => l.getD i undef) := by
 apply List.ext_getElem
 ·simp
 ·intro i h1 h2
  simp [h1]
theorem arr_lit (T : Array Value) : T = ((List.range T.size).map (ofA T)).toArray := by
 have h := list_lit T.toList
 apply Array.ext'
 simp only [Array.length_toList] at h
 conv => lhs; rw [h]
 simp only
 apply List.map_congr_left
 intro i _
 simp [ofA, Array.getD_eq_getD_getElem?]
theorem litB (T : Array Value) (h : T.size = 110) : T = #[ofA T 0, ofA T 1, ofA T 2, ofA T 3, ofA T 4, ofA T 5, ofA T 6, ofA T 7, ofA T 8, ofA T 9, ofA T 10, ofA T 11, ofA T 12, ofA T 13, ofA T 14, ofA T 15, ofA T 16, ofA T 17, ofA T 18, ofA T 19, ofA T 20, ofA T 21, ofA T 22, ofA T 23, ofA T 24, ofA T 25, ofA T 26, ofA T 27, ofA T 28, ofA T 29, ofA T 30, ofA T 31, ofA T 32, ofA T 33, ofA T 34, ofA T 35, ofA T 36, ofA T 37, ofA T 38, ofA T 39, ofA T 40, ofA T 41, ofA T 42, ofA T 43, ofA T 44, ofA T 45, ofA T 46, ofA T 47, ofA T 48, ofA T 49, ofA T 50, ofA T 51, ofA T 52, ofA T 53, ofA T 54, ofA T 55, ofA T 56, ofA T 57, ofA T 58, ofA T 59, ofA T 60, ofA T 61, ofA T 62, ofA T 63, ofA T 64, ofA T 65, ofA T 66, ofA T 67, ofA T 68, ofA T 69, ofA T 70, ofA T 71, ofA T 72, ofA T 73, ofA T 74, ofA T 75, ofA T 76, ofA T 77, ofA T 78, ofA T 79, ofA T 80, ofA T 81, ofA T 82, ofA T 83, ofA T 84, ofA T 85, ofA T 86, ofA T 87, ofA T 88, ofA T 89, ofA T 90, ofA T 91, ofA T 92, ofA T 93, ofA T 94, ofA T 95, ofA T 96, ofA T 97, ofA T 98, ofA T 99, ofA T 100, ofA T 101, ofA T 102, ofA T 103, ofA T 104, ofA T 105, ofA T 106, ofA T 107, ofA T 108, ofA T 109] := by
 have := arr_lit T
 rw [h] at this
 exact this
def fr28 (b0 ln q8 q9 gg cap k : Nat) (X : Nat → Value) : Array Value := #[X 0, .pointer (some ⟨b0, 0, none⟩), X 2, X 3, X 4, X 5, X 6, .int .i64 (ln : Int), .pointer (some ⟨q8, 0, none⟩), .pointer (some ⟨q9, 0, none⟩), X 10, X 11, X 12, X 13, X 14, X 15, X 16, X 17, X 18, X 19, X 20, X 21, X 22, X 23, X 24, X 25, X 26, X 27, X 28, X 29, X 30, X 31, X 32, X 33, X 34, X 35, X 36, X 37, X 38, X 39, X 40, X 41, X 42, X 43, X 44, X 45, X 46, X 47, X 48, X 49, X 50, X 51, X 52, X 53, X 54, X 55, X 56, X 57, X 58, X 59, X 60, X 61, X 62, X 63, X 64, X 65, X 66, X 67, X 68, X 69, X 70, X 71, X 72, X 73, X 74, X 75, .slice (some ⟨gg, 0, none⟩) 10 cap, .int .i64 10, .int .i64 (k : Nat), X 79, X 80, X 81, X 82, X 83, X 84, X 85, X 86, X 87, X 88, X 89, X 90, X 91, X 92, X 93, X 94, X 95, X 96, X 97, X 98, X 99, X 100, X 101, X 102, X 103, X 104, X 105, X 106, X 107, X 108, X 109]
def R28 (w : World) (cs : List Value) (ln q8 q9 g gg cap : Nat) (m : Men) (num : Nat → Nat) (k : Nat) (a : Act) (W : World) : Prop :=
 ∃ (E : List Nat) (X : Nat → Value), a = { tmps := fr28 w.heap.size ln q8 q9 gg cap k X, defers := cds E } ∧ E.Nodup ∧ NumW w cs q8 q9 g gg m E (num k) W
theorem R28.mk {w : World} {cs : List Value} {ln q8 q9 g gg cap : Nat} {m : Men} {num : Nat → Nat} {k : Nat} {W : World} (T : Array Value) (E : List Nat) (hs : T.size = 110)
  (h1 : ofA T 1 = .pointer (some ⟨w.heap.size, 0, none⟩)) (h7 : ofA T 7 = .int .i64 (ln : Int)) (h8 : ofA T 8 = .pointer (some ⟨q8, 0, none⟩)) (h9 : ofA T 9 = .pointer (some ⟨q9, 0, none⟩))
  (h76 : ofA T 76 = .slice (some ⟨gg, 0, none⟩) 10 cap) (h77 : ofA T 77 = .int .i64 10) (h78 : ofA T 78 = .int .i64 (k : Nat)) (hn : E.Nodup) (hI : NumW w cs q8 q9 g gg m E (num k) W) :
  R28 w cs ln q8 q9 g gg cap m num k { tmps := T, defers := cds E } W := by
 have h := litB T hs
 rw [h1, h7, h8, h9, h76, h77, h78] at h
 exact ⟨E, ofA T, by unfold fr28; rw [← h], hn, hI⟩
def I28 (w : World) (cs : List Value) (q8 q9 g gg : Nat) (m : Men) (E : List Nat) (n3 : Nat) (L : List Nat) (q1 : Nat) (gp : Int) (cc j : Nat) (W : World) : Prop :=
 NumW w cs q8 q9 g gg m E (n3 + smS L j) W ∧ HasO W q1 (.cells cs.toArray 40 (0, 0)) ∧ HasO W (q1 + 1) (.cells #[.int .i8 gp] 81 (0, 0)) ∧ cc ≤ W.heap.size
theorem smS_le {L : List Nat} : ∀ k, k ≤ 4 → (∀ i, i < k → L[i]?.getD 0 < 64) → smS L k ≤ k * 635376 := by
 intro k
 induction k with
 | zero => intro _ _; exact Nat.le_refl _
 | succ k ih =>
  intro hk h
  have h1 := ih (by omega) (fun i hi => h i (by omega))
  have h2 := h k (by omega)
  have h3 := ch_le (n := L[k]?.getD 0) (k := k + 1) (by omega) hk
  simp only [smS]
  omega
theorem ix170 (W : World) (g k : Nat) (hk : k < 65) : (Instr.indexAt 139 (.pointer (some ⟨g, 0, none⟩)) (.int .i64 k)).run Tryz.prog W = .ok (.pointer (some ⟨g, k * 5, none⟩)) W := by
 have h0 : (0 : Int) ≤ k := by omega
 simp [go_sem, Instr.indexAt, h0]
 intro h; omega
theorem ix39 (W : World) (g b k : Nat) (hk : k < 5) : (Instr.indexAt 24 (.pointer (some ⟨g, b, none⟩)) (.int .i64 k)).run Tryz.prog W = .ok (.pointer (some ⟨g, b + k, none⟩)) W := by
 have h0 : (0 : Int) ≤ k := by omega
 simp [go_sem, Instr.indexAt, h0]
 intro h; omega
set_option maxRecDepth 100000 in
theorem body28 (w : World) (cs : List Value) (q8 q9 g gg : Nat) (m : Men) (E : List Nat) (n3 : Nat) (L : List Nat) (q1 : Nat) (gp : Int) (D cc j : Nat) (W : World) (T : Array Value) (hT : T.size = 110)
  (h8 : ofA T 8 = .pointer (some ⟨q8, 0, none⟩)) (h9 : ofA T 9 = .pointer (some ⟨q9, 0, none⟩)) (h96 : ofA T 96 = .int .i64 (j : Nat)) (h97 : ofA T 97 = .int .i64 (L[j]?.getD 0 : Nat))
  (h09 : w.heap.size < q9) (h89 : q8 ≠ q9) (hg9 : gg ≠ q9) (hE9 : ∀ p ∈ E, p ≠ q9) (hlt : w.heap.size < D ∧ q8 < D ∧ q9 < D ∧ g < D ∧ gg < D ∧ q1 + 1 < D ∧ q9 < q1) (hltE : ∀ p ∈ E, p < D)
  (hn3 : n3 ≤ 100000000000000000) (hj : j + 1 ≤ 4) (hL : ∀ i, i < j + 1 → L[i]?.getD 0 < 64) (hI : I28 w cs q8 q9 g gg m E n3 L q1 gp cc j W) (_hcc : D + 2 ≤ cc)
  (ab : Code × Code) (hab : Tryz.f15.body.bind firstRange = some ab) :
  ab.1.wpIn (Fence.wide.inRound (D + 1)) 3 Tryz.prog (Exit.then (fun a₁ W₁ => (∀ q o, (D ≤ q ∧ q < cc) → HasO W q o → HasO W₁ q o) ∧
     ∀ W₂, Alt (D + 1) (D + 2) W₁ W₂ → W₂.heap.size = W₁.heap.size → (∃ r, HasO W₂ (D + 1) (.loop r)) →
      ab.2.wpIn (Fence.wide.inRound (D + 1)) 3 Tryz.prog (bodyI (D + 1) D (I28 w cs q8 q9 g gg m E n3 L q1 gp cc) (fun _ _ => False) j (fun D q => D + 2 ≤ q ∧ q < cc) W₂) a₁ W₂) (fun _ _ _ => False))
    { tmps := T, defers := [] } W := by
 obtain rfl := Option.some.inj ((show Tryz.f15.body.bind firstRange = some _ from rfl).symm.trans hab)
 obtain ⟨k0, k8, k9, kg, kgg, kq1, k91⟩ := hlt
 have hTl := litB T hT
 rw [h8, h9, h96, h97] at hTl
 rw [hTl]
 generalize ofA T = Y
 clear hTl h8 h9 h96 h97 hT hab
 obtain ⟨h1, h2, h3, h4⟩ := hI
 have hsmb := smS_le (L := L) j (by omega) (fun i hi => hL i (by omega))
 have hsqj := hL j (by omega)
 obtain ⟨at_, hat⟩ : ∃ x, x = L[j]?.getD 0 := ⟨_, rfl⟩
 have hsm1 : n3 + smS L (j + 1) = n3 + smS L j + ch at_ (j + 1) := by rw [hat, Nat.add_assoc]; rfl
 rw [← hat] at hsqj ⊢
 have hchj := ch_le (n := at_) (k := j + 1) (by omega) hj
 obtain ⟨n4, hn4⟩ : ∃ x, x = n3 + smS L j := ⟨_, rfl⟩
 have hn4b : n4 ≤ 100000000010000000 := by have := Nat.mul_le_mul_right 635376 (show j ≤ 4 by omega); omega
 rw [← hn4] at h1 hsm1
 have hjb : j + 1 ≤ 4 := hj
 have e4 : Hid (wrap64 ((n4 : Int) + ((ch at_ (j + 1) : Nat) : Int)) = ((n4 + ch at_ (j + 1) : Nat) : Int)) := Lib.hid (by rw [← Int.natCast_add]; exact IntWalk.wrap64_in _ (by omega))
 have e4' : Hid (IntKind.i64.wrap ((n4 : Int) + ((ch at_ (j + 1) : Nat) : Int)) = ((n4 + ch at_ (j + 1) : Nat) : Int)) := Lib.hid (by rw [← Int.natCast_add]; exact IntWalk.i64_in _ (by omega))
 have e5 : Hid (wrap64 ((j : Int) + 1) = ((j + 1 : Nat) : Int)) := Lib.hid (IntWalk.wrap64_in ((j : Int) + 1) (by omega))
 have e5' : Hid (IntKind.i64.wrap ((j : Int) + 1) = ((j + 1 : Nat) : Int)) := Lib.hid (IntWalk.i64_in ((j : Int) + 1) (by omega))
 obtain ⟨n5, hn5⟩ : ∃ x, x = n4 + ch at_ (j + 1) := ⟨_, rfl⟩
 rw [← hn5] at e4 e4' hsm1
 have ba : (at_ : Int) < 64 := by omega
 replace hsm1 := Lib.hid hsm1
 clear hn4 hn5 hat hsmb hL hchj hn4b hn3
 gi_wp2_with fail
 refine ⟨fun q o _ h => h, fun W2 ha hz hrec => ?_⟩
 have h1' := h1.alt ha (by omega) (by omega) (by omega) (by omega) (by omega) (fun p hp => by have := hltE p hp; omega)
 have h2' := ha.hasO h2 (by omega)
 have h3' := ha.hasO h3 (by omega)
 have h4' := Nat.le_trans h4 ha.size
 have d9 := h1'.2.2.2.1.cells 0
 have f9 := h1'.2.2.2.1.frozen 0
 have d8 := h1'.2.2.1.cells 0
 have dt := h1'.2.2.2.2.1.2 at_ (j + 1) (by omega) hj
 have l9 := h1'.2.2.2.1.lt
 have l8 := h1'.2.2.1.lt
 have lg := h1'.2.2.2.2.1.1
 have hS := h1'.set (n' := n5) h09 h89 hg9 hE9
 have hAl : Alt q9 (q9 + 1) W2 (W2.setCell ⟨q9, 0, none⟩ (.int .i64 (n5 : Nat))).drew := by
  have h0 : Alt q9 (q9 + 1) W2 (W2.setCell ⟨q9, 0, none⟩ (.int .i64 (n5 : Nat))) := Alt.setCell ⟨Nat.le_refl _, Nat.lt_succ_self _⟩
  exact h0.trans (Alt.drewN 1)
 have hS2' := hAl.hasO h2' (by omega)
 have hS3' := hAl.hasO h3' (by omega)
 have hS4' : NumW w cs q8 q9 g gg m E n5 (W2.setCell ⟨q9, 0, none⟩ (.int .i64 (n5 : Nat))).drew := hS.alt (Alt.drewN (lo := D) (hi := D) 1) k0 k8 k9 kg kgg hltE
 have hs9 := Nat.le_trans h4' hAl.size
 have hfin : bodyI (D + 1) D (I28 w cs q8 q9 g gg m E n3 L q1 gp cc) (fun _ _ => False) j (fun D q => D + 2 ≤ q ∧ q < cc) W2 .normal { tmps := #[], defers := [] } (W2.setCell ⟨q9, 0, none⟩ (.int .i64 (n5 : Nat))).drew := by
  refine ⟨fun q o hq ho => hAl.hasO ho (.inr (by rcases hq with h | h | h <;> omega)), ?_, hS2', hS3', hs9⟩
  rw [hsm1.out]
  exact hS4'
 obtain ⟨jj, hjj⟩ : ∃ jj, jj = j + 1 := ⟨_, rfl⟩
 rw [← hjj] at e5 e5' e4 e4' dt hjb
 have bj : (jj : Int) ≤ 4 := Int.ofNat_le.2 hjb
 have bj5 : (jj : Int) < 5 := Int.lt_of_le_of_lt bj (by decide)
 replace hjj := Lib.hid hjj
 replace hj := Lib.hid hj
 clear h1 h2 h3 h4 hS h1' h2' h3' hS2' hS3' hS4' hs9 hAl hltE hE9 hrec hz ha h4' k0 k8 k9 kg kgg kq1 k91 h09 h89 hg9
 replace hfin := Lib.hid hfin
 have hsq65 : at_ < 65 := by omega
 have hjb5 : jj < 5 := by omega
 replace e4' := e4'.out
 replace e5' := e5'.out
 clear e4 e5
 gi_wp2_with fail
 refine wpIn_region_last (by kernel_rfl) (by kernel_rfl) [some 98, some 99, some 100, some 101, some 102, some 103, some 104, some 105, some 106, some 107, none] (by rfl) (by rfl) 10 (by rfl) (by kernel_rfl) (fun i8 => match i8 with | 0 => .int .i64 (n4 : Nat) | 1 => .pointer (some ⟨g, 0, none⟩) | 2 => .int .i64 (at_ : Nat) | 3 => .int .i64 (j : Nat) | 4 => .int .i64 (jj : Nat) | 5 => .pointer (some ⟨g, 0, none⟩) | 6 => .pointer (some ⟨g, at_ * 5, none⟩) | 7 => .pointer (some ⟨g, at_ * 5 + jj, none⟩) | 8 => .int .i64 (ch at_ jj : Nat) | 9 => .int .i64 (n5 : Nat) | _ => undef) (fun W => W = W2.drew) (fun W => W = (W2.setCell ⟨q9, 0, none⟩ (.int .i64 (n5 : Nat))).drew) rfl ?hstep ?hturn ?hend
 case hstep =>
  intro i9 o9 fv W ho hi hne hC hf K hK
  have hi : i9 < 11 := hi
  subst hC
  rcases i9 with _ | _ | _ | _ | _ | _ | _ | _ | _ | _ | i9
  ·exact st_in (X := False) (og ho) (by injection ho with h; rw [← h]; rfl) (st_loadS (og ho) 3 (.tmp 9) (oo ho) (rd_out rfl rfl) (by kernel_rfl) d9 (hK _ rfl))
  ·exact st_in (X := False) (og ho) (by injection ho with h; rw [← h]; rfl) (st_loadS (og ho) 77 (.tmp 8) (oo ho) (rd_out rfl rfl) (by kernel_rfl) d8 (hK _ rfl))
  ·exact st_in (X := False) (og ho) (by injection ho with h; rw [← h]; rfl) (st_move (og ho) (.tmp 13) (oo ho) (rd_out rfl rfl) (hK _ rfl))
  ·exact st_in (X := False) (og ho) (by injection ho with h; rw [← h]; rfl) (st_move (og ho) (.tmp 12) (oo ho) (rd_out rfl rfl) (hK _ rfl))
  ·exact st_in (X := False) (og ho) (by injection ho with h; rw [← h]; rfl) (st_bin (og ho) .add 3 3 (.tmp 101) (.const (.int .i64 1)) (oo ho) (ri 3 (da ho hf 3)) rfl (gu_i _ _ _ _ _ _ _ _) (bin_addE e5') (hK _ rfl))
  ·exact st_nilIn (og ho) (.tmp 99) (oo ho) (ri 1 (da ho hf 1)) (hK _ rfl)
  ·exact st_in (X := False) (og ho) (by injection ho with h; rw [← h]; rfl) (st_index (og ho) 139 (.tmp 103) (.tmp 100) (oo ho) (ri 5 (da ho hf 5)) (ri 2 (da ho hf 2)) (ix170 W2.drew g at_ hsq65) (hK _ rfl))
  ·exact st_in (X := False) (og ho) (by injection ho with h; rw [← h]; rfl) (st_index (og ho) 24 (.tmp 104) (.tmp 102) (oo ho) (ri 6 (da ho hf 6)) (ri 4 (da ho hf 4)) (ix39 W2.drew g (at_ * 5) jj hjb5) (hK _ rfl))
  ·exact st_in (X := False) (og ho) (by injection ho with h; rw [← h]; rfl) (st_loadS (og ho) 3 (.tmp 105) (oo ho) (ri 7 (da ho hf 7)) (by kernel_rfl) dt (hK _ rfl))
  ·exact st_in (X := False) (og ho) (by injection ho with h; rw [← h]; rfl) (st_bin (og ho) .add 3 3 (.tmp 98) (.tmp 106) (oo ho) (ri 0 (da ho hf 0)) (ri 8 (da ho hf 8)) (gu_i _ _ _ _ _ _ _ _) (bin_addE e4') (hK _ rfl))
  ·omega
 case hturn =>
  intro o9 fv W ho hC hf K hK
  subst hC
  exact st_in (X := False) (og ho) (by injection ho with h; rw [← h]; rfl) (st_storeS (og ho) 3 (.tmp 9) (.tmp 107) (oo ho) (rd_out rfl rfl) (ri 9 (da ho hf 9)) (by kernel_rfl) (by rfl) d9 (f9) (hK _ rfl))
 case hend =>
  rintro fv W rfl hfv
  exact hfin.out
end Go.Proofs.YtnpomigmeieofaaGreatDoor
