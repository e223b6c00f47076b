import Derived.Test.YtefmplccbkmalaaGreatDoorF01
import Derived.Test.YtefmplccbkmalaaGreatDoorF02
namespace Go.Proofs.YtefmplccbkmalaaGreatDoor
open Go.RowKit

theorem wp_region_det {P : Program} {id : Nat} {ops : Array Oper} {Q : Exit → Act → World → Prop} {a : Act} {w : World} (hm : P.follows .mixedOrders = true) (hb : edgesBack .any ops = true)
  (fr : (Nat → Value) → Act) (f0 : Nat → Value) (ha : a = fr f0) (hfr : ∀ i (hi : i < ops.size) f u, (fr f).put ops[i].dst u = fr (fun j => if j = i then u else f j))
  (vals : Nat → Value) (Wd : (Nat → Bool) → World) (hcongr : ∀ S S', (∀ i, i < ops.size → S i = S' i) → Wd S = Wd S') (h0 : Wd (fun _ => false) = w.drew)
  (hstep : ∀ S i o f, ops[i]? = some o → i < ops.size → S i = false → (∀ e ∈ o.after, Region.binds .any e = true → S e.on = true) →
   (∀ j o', S j = true → ops[j]? = some o' → ∀ e ∈ o'.after, Region.binds .any e = true → S e.on = true) →
   (∀ e ∈ o.after, Region.binds .any e = true → f e.on = vals e.on) → ∀ K : Act → World → Prop, K ((fr f).put o.dst (vals i)) (Wd (upd S i)) →
   if Region.wanted o (yielded ops (fr f).tmps) = true then o.wp P (fr f) (Wd S) K Q else K ((fr f).put o.dst undef) (Wd S))
  (hend : ∀ f S, (∀ i, i < ops.size → S i = true) → (∀ i, i < ops.size → f i = vals i) → Q .normal (fr f) (Wd S)) : (Code.region id ops true).wp P Q a w := by
 refine wp_region_inv hm hb (fun S a w => ∃ f, a = fr f ∧ w = Wd S ∧ (∀ i, i < ops.size → S i = true → f i = vals i) ∧
  (∀ j o', S j = true → ops[j]? = some o' → ∀ e ∈ o'.after, Region.binds .any e = true → S e.on = true)) ?_ ⟨f0, ha, h0.symm, fun i _ h => (by cases h), fun j o' h => (by cases h)⟩ ?_ ?_
 ·rintro S S' a w hS ⟨f, h1, h2, h3, h4⟩
  have hback : ∀ j o', ops[j]? = some o' → j < ops.size ∧ ∀ e ∈ o'.after, Region.binds .any e = true → e.on < ops.size := by
   intro j o' ho
   have hj : j < ops.size := (Array.getElem?_eq_some_iff.1 ho).1
   refine ⟨hj, fun e he hbd => ?_⟩
   have hb' := hb
   unfold edgesBack at hb'
   rw [List.all_eq_true] at hb'
   have h := hb' j (List.mem_range.2 hj)
   rw [ho] at h
   simp only [Option.map_some, Option.getD_some] at h
   rw [Array.all_eq_true] at h
   obtain ⟨k, hk, rfl⟩ := Array.getElem_of_mem he
   have := h k hk
   rw [hbd] at this
   simp only [Bool.not_true, Bool.false_or, decide_eq_true_eq] at this
   omega
  refine ⟨f, h1, h2.trans (hcongr _ _ hS), fun i hi h => h3 i hi (by rw [hS i hi]; exact h), fun j o' hj ho e he hbd => ?_⟩
  have hb2 := hback j o' ho
  rw [← hS _ (hb2.2 e he hbd)]
  exact h4 j o' (by rw [hS _ hb2.1]; exact hj) ho e he hbd
 ·rintro S a w i hi hSi hpre ⟨f, rfl, rfl, hW, hcl⟩
  have hback : ∀ e ∈ ops[i].after, Region.binds .any e = true → e.on < i := by
   intro e he hbd
   have hb' := hb
   unfold edgesBack at hb'
   rw [List.all_eq_true] at hb'
   have h := hb' i (List.mem_range.2 hi)
   have ho : ops[i]? = some ops[i] := Array.getElem?_eq_getElem hi
   rw [ho] at h
   simp only [Option.map_some, Option.getD_some] at h
   rw [Array.all_eq_true] at h
   obtain ⟨k, hk, rfl⟩ := Array.getElem_of_mem he
   have := h k hk
   rw [hbd] at this
   simp only [Bool.not_true, Bool.false_or, decide_eq_true_eq] at this
   omega
  have hs := hstep S i ops[i] f (Array.getElem?_eq_getElem hi) hi hSi hpre hcl (fun e he hbd => hW _ (by have := hback e he hbd; omega) (hpre e he hbd))
  have key : ∀ u, (u = vals i) → (∃ f', (fr f).put ops[i].dst u = fr f' ∧ Wd (upd S i) = Wd (upd S i) ∧ (∀ j, j < ops.size → upd S i j = true → f' j = vals j) ∧
    (∀ j o', upd S i j = true → ops[j]? = some o' → ∀ e ∈ o'.after, Region.binds .any e = true → upd S i e.on = true)) := by
   intro u hu
   refine ⟨_, hfr i hi f u, rfl, fun j hj hSj => ?_, fun j o' hj ho e he hbd => ?_⟩
   ·by_cases e : j = i
    ·subst e; simpa using hu
    ·simp only [e, if_false]
     exact hW j hj (by simpa [upd, e] using hSj)
   ·unfold upd at hj ⊢
    by_cases e2 : e.on = i
    ·simp [e2]
    ·simp only [e2, if_false]
     by_cases e3 : j = i
     ·subst e3
      have : o' = ops[j] := by rw [Array.getElem?_eq_getElem hi] at ho; exact (Option.some.inj ho).symm
      subst this
      exact hpre e he hbd
     ·simp only [e3, if_false] at hj
      exact hcl j o' hj ho e he hbd
  by_cases hw : Region.wanted ops[i] (yielded ops (fr f).tmps) = true
  ·rw [if_pos hw]
   have h2 := hs (fun a' w' => ∃ f', a' = fr f' ∧ w' = Wd (upd S i) ∧ (∀ j, j < ops.size → upd S i j = true → f' j = vals j) ∧
    (∀ j o', upd S i j = true → ops[j]? = some o' → ∀ e ∈ o'.after, Region.binds .any e = true → upd S i e.on = true)) (key _ rfl)
   rw [if_pos hw] at h2
   exact h2
  ·rw [if_neg hw]
   have h2 := hs (fun a' w' => ∃ f', a' = fr f' ∧ w' = Wd (upd S i) ∧ (∀ j, j < ops.size → upd S i j = true → f' j = vals j) ∧
    (∀ j o', upd S i j = true → ops[j]? = some o' → ∀ e ∈ o'.after, Region.binds .any e = true → upd S i e.on = true)) (key _ rfl)
   rw [if_neg hw] at h2
   exact h2
 ·rintro S a w hS ⟨f, rfl, rfl, hW, _⟩
  exact hend f S hS (fun i hi => hW i hi (hS i hi))
theorem arr_comm {t : Array Value} {i j : Nat} (h : i ≠ j) (u v : Value) : (t.setIfInBounds i u).setIfInBounds j v = (t.setIfInBounds j v).setIfInBounds i u := by
 apply Array.ext_getElem?
 intro k
 simp only [Array.getElem?_setIfInBounds, Array.size_setIfInBounds]
 by_cases h1 : i = k <;> by_cases h2 : j = k <;> simp_all
theorem arr_twice {t : Array Value} {i : Nat} (u v : Value) : (t.setIfInBounds i u).setIfInBounds i v = t.setIfInBounds i v := by
 apply Array.ext_getElem?
 intro k
 simp only [Array.getElem?_setIfInBounds, Array.size_setIfInBounds]
 by_cases h1 : i = k <;> simp_all
theorem arr_same {t : Array Value} {i : Nat} : t.setIfInBounds i (t.getD i undef) = t := by
 apply Array.ext_getElem?
 intro k
 simp only [Array.getElem?_setIfInBounds]
 by_cases h1 : i = k
 ·subst h1
  by_cases h2 : i < t.size <;> simp [h2, Array.getD_eq_getD_getElem?]
 ·simp [h1]
theorem put_comm (a : Act) {d d' : Option Tmp} (h : d = none ∨ d ≠ d') (u v : Value) : (a.put d u).put d' v = (a.put d' v).put d u := by
 rcases d with _ | i <;> rcases d' with _ | j
 ·rfl
 ·rfl
 ·rfl
 ·have : i ≠ j := by rintro rfl; rcases h with h | h; cases h; exact h rfl
  simp only [Act.put, arr_comm this]
theorem put_twice (a : Act) (d : Option Tmp) (u v : Value) : (a.put d u).put d v = a.put d v := by
 rcases d with _ | i
 ·rfl
 ·simp only [Act.put, arr_twice]

def putL : List (Option Tmp) → (Nat → Value) → Nat → Act → Act
 | [], _, _, a => a
 | d :: ds, f, i, a => putL ds f (i + 1) (a.put d (f i))
def dstsOk : List (Option Tmp) → Bool
 | [] => true
 | none :: ds => dstsOk ds
 | some t :: ds => !ds.contains (some t) && dstsOk ds
theorem putL_congr (ds : List (Option Tmp)) {f g : Nat → Value} {k : Nat} (h : ∀ j, k ≤ j → f j = g j) (a : Act) : putL ds f k a = putL ds g k a := by
 induction ds generalizing k a with
 | nil => rfl
 | cons d ds ih =>
  simp only [putL]
  rw [h k (Nat.le_refl _)]
  exact ih (fun j hj => h j (by omega)) _
theorem putL_put (ds : List (Option Tmp)) (f : Nat → Value) (k : Nat) (a : Act) {d : Option Tmp} (h : d = none ∨ d ∉ ds) (u : Value) : (putL ds f k a).put d u = putL ds f k (a.put d u) := by
 induction ds generalizing k a with
 | nil => rfl
 | cons d' ds ih =>
  simp only [putL]
  rw [ih (k + 1) _ (by rcases h with h | h; exact .inl h; exact .inr (fun hm => h (List.mem_cons_of_mem _ hm)))]
  rw [put_comm a (d := d) (d' := d') (by rcases h with h | h; exact .inl h; exact .inr (fun e => h (by rw [e]; exact List.mem_cons_self))) u (f k)]
theorem putL_at (ds : List (Option Tmp)) (hd : dstsOk ds = true) (f : Nat → Value) (k : Nat) (a : Act) (i : Nat) (d : Option Tmp) (hi : ds[i]? = some d) (u : Value) :
  (putL ds f k a).put d u = putL ds (fun j => if j = k + i then u else f j) k a := by
 induction ds generalizing k a i with
 | nil => simp at hi
 | cons d' ds ih =>
  rcases i with _ | i
  ·simp only [List.getElem?_cons_zero, Option.some.injEq] at hi
   subst hi
   simp only [putL, Nat.add_zero, if_true]
   rw [putL_put _ _ _ _ (by
    rcases d' with _ | t
    ·exact .inl rfl
    ·refine .inr (fun hm => ?_)
     simp only [dstsOk, Bool.and_eq_true, Bool.not_eq_true', List.contains_eq_mem, decide_eq_false_iff_not] at hd
     exact hd.1 hm), put_twice]
   exact putL_congr _ (fun j hj => by rw [if_neg (by omega)]) _
  ·simp only [List.getElem?_cons_succ] at hi
   simp only [putL]
   rw [ih (by rcases d' with _ | t <;> simp only [dstsOk, Bool.and_eq_true] at hd; exact hd; exact hd.2) (k + 1) _ i hi, if_neg (by omega)]
   exact putL_congr _ (fun j hj => by simp only [show k + 1 + i = k + (i + 1) by omega]) _
theorem putL_self (ds : List (Option Tmp)) (f : Nat → Value) (k : Nat) (a : Act) (hf : ∀ i t, ds[i]? = some (some t) → f (k + i) = a.tmps.getD t undef) (hd : dstsOk ds = true) : putL ds f k a = a := by
 induction ds generalizing k a with
 | nil => rfl
 | cons d ds ih =>
  simp only [putL]
  have e : a.put d (f k) = a := by
   rcases d with _ | t
   ·rfl
   ·have := hf 0 t rfl
    simp only [Nat.add_zero] at this
    rw [this]
    simp only [Act.put, arr_same]
  rw [e]
  refine ih (k + 1) a (fun i t hi => ?_) (by rcases d with _ | t <;> simp only [dstsOk, Bool.and_eq_true] at hd; exact hd; exact hd.2)
  have := hf (i + 1) t hi
  rw [show k + 1 + i = k + (i + 1) by omega]; exact this

theorem dst_at {ops : Array Oper} {ds : List (Option Tmp)} (hds : ops.toList.map (·.dst) = ds) {i : Nat} (hi : i < ops.size) : ds[i]? = some ops[i].dst := by
 subst hds
 simp [hi]
def tmps0 (ds : List (Option Tmp)) (a : Act) (i : Nat) : Value := match ds[i]? with | some (some t) => a.tmps.getD t undef | _ => undef

theorem wp_region_agL {P : Program} {id : Nat} {ops : Array Oper} {Q : Exit → Act → World → Prop} {a : Act} {w : World} (hm : P.follows .mixedOrders = true) (hb : edgesBack .any ops = true)
  (ds : List (Option Tmp)) (hds : ops.toList.map (·.dst) = ds) (hok : dstsOk ds = true)
  (C : World → Prop) (Le : World → World → Prop) (W : Nat → Value → World → Prop) (hstab : ∀ i v w w', C w → Le w w' → W i v w → W i v w')
  (h0 : C w.drew)
  (hstep : ∀ i o f w, ops[i]? = some o → i < ops.size → C w → (∀ e ∈ o.after, Region.binds .any e = true → W e.on (f e.on) w) → ∀ K : Act → World → Prop, (∀ u w', C w' → Le w w' → W i u w' → K ((putL ds f 0 a).put o.dst u) w') →
   if Region.wanted o (yielded ops (putL ds f 0 a).tmps) = true then o.wp P (putL ds f 0 a) w K Q else K ((putL ds f 0 a).put o.dst undef) w)
  (hend : ∀ f w, C w → (∀ i, i < ops.size → W i (f i) w) → Q .normal (putL ds f 0 a) w) : (Code.region id ops true).wp P Q a w :=
 wp_region_ag hm hb (fun f => putL ds f 0 a) (tmps0 ds a) (putL_self _ _ _ _ (fun i t h => by simp [tmps0, h]) hok).symm
  (fun i hi f u => by
   have := putL_at ds hok f 0 a i _ (dst_at hds hi) u
   rw [this]; simp only [Nat.zero_add]) C Le W hstab h0 hstep hend

theorem wp_region_detL {P : Program} {id : Nat} {ops : Array Oper} {Q : Exit → Act → World → Prop} {a : Act} {w : World} (hm : P.follows .mixedOrders = true) (hb : edgesBack .any ops = true)
  (ds : List (Option Tmp)) (hds : ops.toList.map (·.dst) = ds) (hok : dstsOk ds = true)
  (vals : Nat → Value) (Wd : (Nat → Bool) → World) (hcongr : ∀ S S', (∀ i, i < ops.size → S i = S' i) → Wd S = Wd S') (h0 : Wd (fun _ => false) = w.drew)
  (hstep : ∀ S i o f, ops[i]? = some o → i < ops.size → S i = false → (∀ e ∈ o.after, Region.binds .any e = true → S e.on = true) →
   (∀ j o', S j = true → ops[j]? = some o' → ∀ e ∈ o'.after, Region.binds .any e = true → S e.on = true) →
   (∀ e ∈ o.after, Region.binds .any e = true → f e.on = vals e.on) → ∀ K : Act → World → Prop, K ((putL ds f 0 a).put o.dst (vals i)) (Wd (upd S i)) →
   if Region.wanted o (yielded ops (putL ds f 0 a).tmps) = true then o.wp P (putL ds f 0 a) (Wd S) K Q else K ((putL ds f 0 a).put o.dst undef) (Wd S))
  (hend : ∀ S, (∀ i, i < ops.size → S i = true) → Q .normal (putL ds vals 0 a) (Wd S)) : (Code.region id ops true).wp P Q a w := by
 refine wp_region_det hm hb (fun f => putL ds f 0 a) (tmps0 ds a) (putL_self _ _ _ _ (fun i t h => by simp [tmps0, h]) hok).symm
  (fun i hi f u => by
   have := putL_at ds hok f 0 a i _ (dst_at hds hi) u
   rw [this]; simp only [Nat.zero_add]) vals Wd hcongr h0 hstep ?_
 intro f S hS hf
 have e : putL ds f 0 a = putL ds vals 0 a := by
  have hl : ds.length = ops.size := by rw [← hds]; simp
  have key : ∀ (l : List (Option Tmp)) (k : Nat) (b : Act), (∀ j, j < l.length → f (k + j) = vals (k + j)) → putL l f k b = putL l vals k b := by
   intro l
   induction l with
   | nil => intro k b _; rfl
   | cons d l ih =>
    intro k b h
    simp only [putL]
    have h0 := h 0 (by simp)
    simp only [Nat.add_zero] at h0
    rw [h0]
    exact ih (k + 1) _ (fun j hj => by have := h (j + 1) (by simp; omega); rw [show k + 1 + j = k + (j + 1) by omega]; exact this)
  exact key ds 0 a (fun j hj => by rw [Nat.zero_add]; exact hf j (by omega))
 rw [e]
 exact hend S hS
theorem toList_loop (bs : ByteArray) : ∀ (n i : Nat) (r : List UInt8), bs.size - i = n → ByteArray.toList.loop bs i r = r.reverse ++ bs.data.toList.drop i := by
 intro n
 induction n with
 | zero =>
  intro i r h
  unfold ByteArray.toList.loop
  have : ¬ i < bs.size := by omega
  have h2 : bs.data.toList.length ≤ i := by simp only [Array.length_toList]; show bs.size ≤ i; omega
  simp [this, List.drop_eq_nil_of_le h2]
 | succ n ih =>
  intro i r h
  unfold ByteArray.toList.loop
  have hi : i < bs.size := by omega
  have hi2 : i < bs.data.toList.length := by simpa using hi
  simp only [hi, if_true]
  rw [ih (i + 1) _ (by omega), List.drop_eq_getElem_cons hi2]
  have : bs.get! i = bs.data.toList[i] := by
   simp only [ByteArray.get!, Array.getElem_toList]
   exact getElem!_pos bs.data i hi
  simp [this]
theorem toList_bs (bs : ByteArray) : bs.toList = bs.data.toList := by
 unfold ByteArray.toList
 rw [toList_loop bs _ 0 [] rfl]; simp
theorem str_toList (l : List UInt8) : (str l).toList = l := toList_bs _
theorem str_beq (a b : List UInt8) : ((str a).toList == (str b).toList) = decide (a = b) := by
 rw [str_toList, str_toList]
 by_cases h : a = b <;> simp [h]
theorem wp_region_valsL {P : Program} {id : Nat} {ops : Array Oper} {Q : Exit → Act → World → Prop} {a : Act} {w : World} (hm : P.follows .mixedOrders = true) (hb : edgesBack .any ops = true)
  (ds : List (Option Tmp)) (hds : ops.toList.map (·.dst) = ds) (hok : dstsOk ds = true)
  (vals : Nat → Value) (C : World → Prop) (h0 : C w.drew)
  (hstep : ∀ i o f w, ops[i]? = some o → i < ops.size → C w → (∀ e ∈ o.after, Region.binds .any e = true → f e.on = vals e.on) → ∀ K : Act → World → Prop, (∀ w', C w' → K ((putL ds f 0 a).put o.dst (vals i)) w') →
   if Region.wanted o (yielded ops (putL ds f 0 a).tmps) = true then o.wp P (putL ds f 0 a) w K Q else K ((putL ds f 0 a).put o.dst undef) w)
  (hend : ∀ w, C w → Q .normal (putL ds vals 0 a) w) : (Code.region id ops true).wp P Q a w := by
 refine wp_region_agL hm hb ds hds hok C (fun _ _ => True) (fun i v _ => v = vals i) (fun _ _ _ _ _ _ h => h) h0 ?_ ?_
 ·intro i o f w ho hi hC hf K hK
  exact hstep i o f w ho hi hC hf K (fun w' hC' => hK _ _ hC' trivial rfl)
 ·intro f w hC hf
  have hl : ds.length = ops.size := by rw [← hds]; simp
  have key : ∀ (l : List (Option Tmp)) (k : Nat) (b : Act), (∀ j, j < l.length → f (k + j) = vals (k + j)) → putL l f k b = putL l vals k b := by
   intro l
   induction l with
   | nil => intro k b _; rfl
   | cons d l ih =>
    intro k b h
    simp only [putL]
    have h0 := h 0 (by simp)
    simp only [Nat.add_zero] at h0
    rw [h0]
    exact ih (k + 1) _ (fun j hj => by have := h (j + 1) (by simp; omega); rw [show k + 1 + j = k + (j + 1) by omega]; exact this)
  rw [key ds 0 a (fun j hj => by rw [Nat.zero_add]; exact hf j (by omega))]
  exact hend w hC
def pOk (x : Int) : Bool := decide (-15 ≤ x) && decide (x ≤ 15)
def oOk (x : Int) : Bool := !decide (x = 0) && (decide (-6 ≤ x) && decide (x ≤ 6))
def kindI (x : Int) : Int := if x < 0 then -x else x
def sgnI (x : Int) : Int := if x < 0 then -1 else if 0 < x then 1 else 0
def sdI (b : Bool) : Int := if b then -1 else 1
def pcI (k : Int) (b : Bool) : Int := if b then -k else k
theorem i8_in {x : Int} (h1 : -128 ≤ x) (h2 : x ≤ 127) : IntKind.i8.wrap x = x := by
 unfold IntKind.wrap; simp only [IntKind.signed, IntKind.bits]; simp; omega

theorem refPValid_any (x : Int) (w : World) : Calls Tryz.prog 157 #[.int .i8 x] w fun e w' => e = .returned (.bool (pOk x)) ∧ w = w' := by
 go_enter Tryz.func157, Tryz.ntmps157
 go_wp2
 all_goals (go_ret; refine ⟨?_, rfl⟩; simp [pOk, *] <;> omega)
theorem pValid_any (x : Int) (w : World) : Calls Tryz.prog 135 #[.int .i8 x] w fun e w' => e = .returned (.bool (pOk x)) ∧ w = w' := by
 go_enter Tryz.func135, Tryz.ntmps135
 go_wp2
 all_goals (go_ret; refine ⟨?_, rfl⟩; simp [pOk, *] <;> omega)
theorem refOrth_any (x : Int) (w : World) : Calls Tryz.prog 97 #[.int .i8 x] w fun e w' => e = .returned (.bool (oOk x)) ∧ w = w' := by
 go_enter Tryz.func97, Tryz.ntmps97
 go_wp2
 all_goals (go_ret; refine ⟨?_, rfl⟩; simp [oOk, *] <;> omega)
theorem orth_any (x : Int) (w : World) : Calls Tryz.prog 174 #[.int .i8 x] w fun e w' => e = .returned (.bool (oOk x)) ∧ w = w' := by
 go_enter Tryz.func174, Tryz.ntmps174
 go_wp2
 all_goals (go_ret; refine ⟨?_, rfl⟩; simp [oOk, *] <;> omega)
theorem refKind_any (x : Int) (hx : -128 < x ∧ x ≤ 127) (w : World) : Calls Tryz.prog 39 #[.int .i8 x] w fun e w' => e = .returned (.int .i8 (kindI x)) ∧ w = w' := by
 go_enter Tryz.func39, Tryz.ntmps39
 have e1 : IntKind.i8.wrap (-x) = -x := i8_in (by omega) (by omega)
 go_wp2
 all_goals (go_ret; refine ⟨?_, rfl⟩; simp [kindI, *] <;> omega)
theorem refSide_any (x : Int) (w : World) : Calls Tryz.prog 168 #[.int .i8 x] w fun e w' => e = .returned (.int .i64 (sgnI x)) ∧ w = w' := by
 go_enter Tryz.func168, Tryz.ntmps168
 go_wp2
 all_goals (go_ret; refine ⟨?_, rfl⟩; simp [sgnI, *] <;> omega)
theorem refSd_any (b : Bool) (w : World) : Calls Tryz.prog 99 #[.bool b] w fun e w' => e = .returned (.int .i64 (sdI b)) ∧ w = w' := by
 go_enter Tryz.func99, Tryz.ntmps99
 go_wp2
 all_goals (go_ret; refine ⟨?_, rfl⟩; simp [sdI, *])
theorem refForward_any (b : Bool) (w : World) : Calls Tryz.prog 205 #[.bool b] w fun e w' => e = .returned (.int .i64 (sdI b)) ∧ w = w' := by
 go_enter Tryz.func205, Tryz.ntmps205
 go_wp2
 all_goals (go_ret; refine ⟨?_, rfl⟩; simp [sdI, *])
theorem forward_any (b : Bool) (w : World) : Calls Tryz.prog 172 #[.bool b] w fun e w' => e = .returned (.int .i64 (sdI b)) ∧ w = w' := by
 go_enter Tryz.func172, Tryz.ntmps172
 go_wp2
 all_goals (go_ret; refine ⟨?_, rfl⟩; simp [sdI, *])
theorem refPiece_any (x : Int) (b : Bool) (hx : -128 < x ∧ x ≤ 127) (w : World) : Calls Tryz.prog 103 #[.int .i8 x, .bool b] w fun e w' => e = .returned (.int .i8 (pcI x b)) ∧ w = w' := by
 go_enter Tryz.func103, Tryz.ntmps103
 have e1 : IntKind.i8.wrap (-x) = -x := i8_in (by omega) (by omega)
 go_wp2
 all_goals (go_ret; refine ⟨?_, rfl⟩; simp [pcI, *])
theorem piece_any (x : Int) (b : Bool) (hx : -128 < x ∧ x ≤ 127) (w : World) : Calls Tryz.prog 139 #[.int .i8 x, .bool b] w fun e w' => e = .returned (.int .i8 (pcI x b)) ∧ w = w' := by
 go_enter Tryz.func139, Tryz.ntmps139
 have e1 : IntKind.i8.wrap (-x) = -x := i8_in (by omega) (by omega)
 go_wp2
 all_goals (go_ret; refine ⟨?_, rfl⟩; simp [pcI, *])
theorem is_any (x : Int) (b : Bool) (w : World) : Calls Tryz.prog 176 #[.int .i8 x, .bool b] w fun e w' => e = .returned (.bool (decide (sgnI x = sdI b))) ∧ w = w' := by
 go_enter Tryz.func176, Tryz.ntmps176
 rcases b with _ | _
 all_goals go_wp2
 all_goals (go_ret; refine ⟨?_, rfl⟩; simp [sgnI, sdI, *] <;> omega)
theorem refAbs_any (x : Int) (hx : -9223372036854775808 < x ∧ x ≤ 9223372036854775807) (w : World) : Calls Tryz.prog 208 #[.int .i64 x] w fun e w' => e = .returned (.int .i64 (kindI x)) ∧ w = w' := by
 go_enter Tryz.func208, Tryz.ntmps208
 have e1 : IntKind.i64.wrap (-x) = -x := IntWalk.i64_in _ (by omega)
 go_wp2
 all_goals (go_ret; refine ⟨?_, rfl⟩; simp [kindI, *] <;> omega)
theorem refSign_any (x : Int) (w : World) : Calls Tryz.prog 209 #[.int .i64 x] w fun e w' => e = .returned (.int .i64 (sgnI x)) ∧ w = w' := by
 go_enter Tryz.func209, Tryz.ntmps209
 go_wp2
 all_goals (go_ret; refine ⟨?_, rfl⟩; simp [sgnI, *] <;> omega)
end Go.Proofs.YtefmplccbkmalaaGreatDoor
