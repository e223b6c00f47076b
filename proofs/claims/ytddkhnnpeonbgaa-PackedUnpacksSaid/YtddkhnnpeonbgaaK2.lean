/- A region that draws its order, by an invariant over the set of operations that have come up: one obligation an operation, whatever the order. -/
import Derived.Test.YtddkhnnpeonbgaaK1
import Derived.Orders
namespace Go.Proofs.Ytddkhnnpeonbgaa
open Go.RowKit

def upd (S : Nat → Bool) (i : Nat) : Nat → Bool := fun j => if j = i then true else S j
def edgesBack (md : Region.Mode) (ops : Array Oper) : Bool := (List.range ops.size).all fun i => ((ops[i]?).map (·.after.all fun e => !Region.binds md e || decide (e.on < i))).getD false

theorem ready_of_least {md : Region.Mode} {ops : Array Oper} (hb : edgesBack md ops = true) {listed : Array Bool} {i : Nat} (hi : i < ops.size) (hl : listed.getD i true = false) (hlow : ∀ j, j < i → listed.getD j false = true) :
    i ∈ Region.ready md ops listed := by
  unfold edgesBack at hb
  rw [List.all_eq_true] at hb
  have h := hb i (List.mem_range.2 hi)
  unfold Region.ready
  rw [List.mem_filter]
  refine ⟨List.mem_range.2 hi, ?_⟩
  have ho : ops[i]? = some ops[i] := Array.getElem?_eq_getElem hi
  rw [ho] at h ⊢
  simp only [Option.map_some, Option.getD_some] at h ⊢
  rw [hl]
  simp only [Bool.not_false, Bool.true_and]
  rw [Array.all_eq_true] at h ⊢
  intro k hk
  have := h k hk
  rcases hbd : Region.binds md ops[i].after[k] with _ | _
  · simp
  · rw [hbd] at this
    simp only [Bool.not_true, Bool.false_or, decide_eq_true_eq] at this
    simp [hlow _ this]

theorem wpAny_inv {P : Program} {md : Region.Mode} {ops : Array Oper} {Q : Exit → Act → World → Prop} (hb : edgesBack md ops = true) (I : (Nat → Bool) → Act → World → Prop)
    (hcong : ∀ S S' a w, (∀ i, i < ops.size → S i = S' i) → I S a w → I S' a w)
    (hstep : ∀ S a w i (hi : i < ops.size), S i = false → (∀ e ∈ ops[i].after, Region.binds md e = true → S e.on = true) → I S a w →
      if Region.wanted ops[i] (yielded ops a.tmps) = true then (ops[i]).wp P a w (I (upd S i)) Q else I (upd S i) (a.put ops[i].dst undef) w)
    (hend : ∀ S a w, (∀ i, i < ops.size → S i = true) → I S a w → Q .normal a w) :
    ∀ (fuel : Nat) (listed : Array Bool) (a : Act) (w : World), listed.size = ops.size → listed.toList.countP (· == false) ≤ fuel → I (fun i => listed.getD i false) a w → wpAny P md ops Q fuel listed a w := by
  have hall : ∀ (listed : Array Bool), listed.size = ops.size → Region.ready md ops listed = [] → ∀ i, i < ops.size → listed.getD i false = true := by
    intro listed hs hr i
    induction i using Nat.strongRecOn with
    | _ i ih =>
      intro hi
      rcases hl : listed.getD i false with _ | _
      · exfalso
        have : i ∈ Region.ready md ops listed := ready_of_least hb hi (by
          have h2 : i < listed.size := by omega
          simp only [Array.getD_eq_getD_getElem?, Array.getElem?_eq_getElem h2, Option.getD_some] at hl ⊢
          exact hl) (fun j hj => ih j hj (by omega))
        rw [hr] at this; cases this
      · rfl
  intro fuel
  induction fuel with
  | zero =>
    intro listed a w hs hc hI
    have ht : ∀ i, i < ops.size → listed.getD i false = true := by
      intro i hi
      have h2 : i < listed.size := by omega
      have h0 : listed.toList.countP (· == false) = 0 := by omega
      rw [List.countP_eq_zero] at h0
      have := h0 listed[i] (by simp)
      simp only [Array.getD_eq_getD_getElem?, Array.getElem?_eq_getElem h2, Option.getD_some]
      simpa using this
    refine ⟨?_, hend _ a w ht hI⟩
    unfold Region.ready
    rw [List.filter_eq_nil_iff]
    intro i hi
    have hi := List.mem_range.1 hi
    have h2 : i < listed.size := by omega
    have := ht i hi
    simp only [Array.getD_eq_getD_getElem?, Array.getElem?_eq_getElem h2, Option.getD_some] at this ⊢
    simp [this]
  | succ fuel ih =>
    intro listed a w hs hc hI
    refine ⟨fun hr => hend _ a w (hall listed hs hr) hI, fun i hi => ?_⟩
    unfold Region.ready at hi
    rw [List.mem_filter] at hi
    obtain ⟨hi, hrd⟩ := hi
    have hi := List.mem_range.1 hi
    have h2 : i < listed.size := by omega
    have ho : ops[i]? = some ops[i] := Array.getElem?_eq_getElem hi
    rw [ho] at hrd
    simp only [Option.map_some, Option.getD_some, Bool.and_eq_true, Bool.not_eq_true'] at hrd
    obtain ⟨hl, he⟩ := hrd
    have hl' : listed[i] = false := by simpa [Array.getD_eq_getD_getElem?, Array.getElem?_eq_getElem h2] using hl
    rw [Array.all_eq_true] at he
    have hk : ∀ a' w', I (upd (fun i => listed.getD i false) i) a' w' → wpAny P md ops Q fuel (listed.setIfInBounds i true) a' w' := by
      intro a' w' h
      refine ih _ a' w' (by simpa using hs) ?_ (hcong _ _ _ _ (fun j hj => ?_) h)
      · have h3 : listed.toList.countP (· == false) = (listed.setIfInBounds i true).toList.countP (· == false) + 1 := by
          rw [Array.toList_setIfInBounds, List.countP_set (by simpa using h2)]
          have hp : 0 < listed.toList.countP (· == false) := List.countP_pos_iff.2 ⟨listed[i], by simp, by simp [hl']⟩
          rw [Array.getElem_toList, hl']
          simp only [beq_self_eq_true, if_true, Bool.true_eq_false, beq_iff_eq, if_false]
          omega
        omega
      · unfold upd
        by_cases e : j = i
        · subst e; simp [Array.getD_eq_getD_getElem?, h2]
        · have e' : i ≠ j := fun h => e h.symm
          simp [e, Array.getD_eq_getD_getElem?, Array.getElem?_setIfInBounds_ne e']
    have hs2 := hstep (fun i => listed.getD i false) a w i hi (by simp [Array.getD_eq_getD_getElem?, Array.getElem?_eq_getElem h2, hl']) (fun e hm hbd => by
      obtain ⟨k, hk, rfl⟩ := Array.getElem_of_mem hm
      have := he k hk
      simpa [hbd] using this) hI
    unfold wpOp
    rw [ho]
    simp only []
    by_cases hw : Region.wanted ops[i] (yielded ops a.tmps) = true
    · rw [if_pos hw] at hs2 ⊢
      exact .inl (Oper.wp_mono hk hs2)
    · rw [if_neg hw] at hs2 ⊢
      exact hk _ _ hs2

theorem wp_region_inv {P : Program} {id : Nat} {ops : Array Oper} {Q : Exit → Act → World → Prop} {a : Act} {w : World} (hm : P.follows .mixedOrders = true) (hb : edgesBack .any ops = true) (I : (Nat → Bool) → Act → World → Prop)
    (hcong : ∀ S S' a w, (∀ i, i < ops.size → S i = S' i) → I S a w → I S' a w)
    (h0 : I (fun _ => false) a w.drew)
    (hstep : ∀ S a w i (hi : i < ops.size), S i = false → (∀ e ∈ ops[i].after, Region.binds .any e = true → S e.on = true) → I S a w →
      if Region.wanted ops[i] (yielded ops a.tmps) = true then (ops[i]).wp P a w (I (upd S i)) Q else I (upd S i) (a.put ops[i].dst undef) w)
    (hend : ∀ S a w, (∀ i, i < ops.size → S i = true) → I S a w → Q .normal a w) : (Code.region id ops true).wp P Q a w := by
  refine wp_region_any hm (wpAny_inv hb I hcong hstep hend _ _ _ _ (by simp) ?_ (hcong _ _ _ _ (fun i hi => by simp [Array.getD_eq_getD_getElem?, hi]) h0))
  simp [List.countP_replicate]

/-- one obligation an operation: what its value is good for ('W'), out of what the values are good for that it waits for -/
theorem wp_region_ag {P : Program} {id : Nat} {ops : Array Oper} {Q : Exit → Act → World → Prop} {a : Act} {w : World} (hm : P.follows .mixedOrders = true) (hb : edgesBack .any ops = true)
    (fr : (Nat → Value) → Act) (f0 : Nat → Value) (ha : a = fr f0) (hfr : ∀ i (hi : i < ops.size) f u, (fr f).put ops[i].dst u = fr (fun j => if j = i then u else f j))
    (C : World → Prop) (Le : World → World → Prop) (W : Nat → Value → World → Prop) (hstab : ∀ i v w w', C w → Le w w' → W i v w → W i v w')
    (h0 : C w.drew)
    (hstep : ∀ i o f w, ops[i]? = some o → i < ops.size → C w → (∀ e ∈ o.after, Region.binds .any e = true → W e.on (f e.on) w) → ∀ K : Act → World → Prop, (∀ u w', C w' → Le w w' → W i u w' → K ((fr f).put o.dst u) w') →
      if Region.wanted o (yielded ops (fr f).tmps) = true then o.wp P (fr f) w K Q else K ((fr f).put o.dst undef) w)
    (hend : ∀ f w, C w → (∀ i, i < ops.size → W i (f i) w) → Q .normal (fr f) w) : (Code.region id ops true).wp P Q a w := by
  refine wp_region_inv hm hb (fun S a w => ∃ f, a = fr f ∧ C w ∧ ∀ i, i < ops.size → S i = true → W i (f i) w) ?_ ⟨f0, ha, h0, fun i _ h => by cases h⟩ ?_ ?_
  · rintro S S' a w hS ⟨f, h1, h2, h3⟩
    exact ⟨f, h1, h2, fun i hi h => h3 i hi (by rw [hS i hi]; exact h)⟩
  · rintro S a w i hi hSi hpre ⟨f, rfl, hC, hW⟩
    have hback : ∀ e ∈ ops[i].after, Region.binds .any e = true → e.on < ops.size := by
      intro e he hbd
      have hb' := hb
      unfold edgesBack at hb'
      rw [List.all_eq_true] at hb'
      have h := hb' i (List.mem_range.2 hi)
      have ho : ops[i]? = some ops[i] := Array.getElem?_eq_getElem hi
      rw [ho] at h
      simp only [Option.map_some, Option.getD_some] at h
      rw [Array.all_eq_true] at h
      obtain ⟨k, hk, rfl⟩ := Array.getElem_of_mem he
      have := h k hk
      rw [hbd] at this
      simp only [Bool.not_true, Bool.false_or, decide_eq_true_eq] at this
      omega
    refine hstep i _ f w (Array.getElem?_eq_getElem hi) hi hC (fun e he hbd => hW _ (hback e he hbd) (hpre e he hbd)) _ ?_
    intro u w' hC' hle hWi
    refine ⟨_, hfr i hi f u, hC', fun j hj hSj => ?_⟩
    by_cases e : j = i
    · subst e; simpa using hWi
    · simp only [e, if_false]
      refine hstab j _ _ _ hC hle (hW j hj ?_)
      simpa [upd, e] using hSj
  · rintro S a w hS ⟨f, rfl, hC, hW⟩
    exact hend f w hC (fun i hi => hW i hi (hS i hi))
end Go.Proofs.Ytddkhnnpeonbgaa
