import Derived.Test.YtefmplccbkmalaaGreatDoorF01
import Derived.Test.YtefmplccbkmalaaGreatDoorF02
import Derived.Test.YtefmplccbkmalaaGreatDoorF03
import Derived.Maps.AppendAt
import Derived.RegionTactic
import Derived.BigRegion
import Derived.Deep.RegionHeld3
namespace Go.Proofs.YtefmplccbkmalaaGreatDoor
open Go.RowKit

def cntT (S : Nat → Bool) : List Nat → Nat | [] => 0 | s :: r => if S s = true then 1 + cntT S r else 0
def chainB (ops : Array Oper) : List Nat → Bool
 | s :: t :: r => ((ops[t]?).map (·.after.any fun e => Region.binds .any e && e.on == s)).getD false && chainB ops (t :: r)
 | _ => true
theorem cntT_le (S : Nat → Bool) (st : List Nat) : cntT S st ≤ st.length := by
 induction st with
 | nil => simp [cntT]
 | cons s r ih => simp only [cntT, List.length_cons]; split <;> omega
theorem cntT_congr {S S' : Nat → Bool} {st : List Nat} (h : ∀ s ∈ st, S s = S' s) : cntT S st = cntT S' st := by
 induction st with
 | nil => rfl
 | cons s r ih => simp only [cntT]; rw [h s List.mem_cons_self, ih (fun x hx => h x (List.mem_cons_of_mem _ hx))]
theorem cntT_off {S : Nat → Bool} {st : List Nat} {i : Nat} (h : i ∉ st) : cntT (upd S i) st = cntT S st :=
 cntT_congr (fun s hs => by unfold upd; rw [if_neg (fun e : s = i => h (by rw [← e]; exact hs))])
theorem cntT_zero {S : Nat → Bool} {st : List Nat} (h : ∀ s ∈ st, S s = false) : cntT S st = 0 := by
 cases st with
 | nil => rfl
 | cons s r => simp [cntT, h s List.mem_cons_self]
theorem cntT_all {S : Nat → Bool} {st : List Nat} (h : ∀ s ∈ st, S s = true) : cntT S st = st.length := by
 induction st with
 | nil => rfl
 | cons s r ih => simp only [cntT, h s List.mem_cons_self, if_true, List.length_cons, ih (fun x hx => h x (List.mem_cons_of_mem _ hx))]; omega

theorem chain_down {ops : Array Oper} {S : Nat → Bool} (hcl : ∀ j o', S j = true → ops[j]? = some o' → ∀ e ∈ o'.after, Region.binds .any e = true → S e.on = true) {s t : Nat} {r : List Nat} (hc : chainB ops (s :: t :: r) = true) (h : S s = false) : S t = false := by
 rcases hS : S t with _ | _
 ·rfl
 ·exfalso
  simp only [chainB, Bool.and_eq_true] at hc
  rcases ho : ops[t]? with _ | o
  ·rw [ho] at hc; simp at hc
  ·rw [ho] at hc
   simp only [Option.map_some, Option.getD_some] at hc
   obtain ⟨k, hk, hk2⟩ := Array.any_eq_true.1 hc.1
   simp only [Bool.and_eq_true, beq_iff_eq] at hk2
   have := hcl t o hS ho _ (Array.getElem_mem hk) hk2.1
   rw [hk2.2, h] at this; cases this
theorem chain_false {ops : Array Oper} {S : Nat → Bool} (hcl : ∀ j o', S j = true → ops[j]? = some o' → ∀ e ∈ o'.after, Region.binds .any e = true → S e.on = true) : ∀ (r : List Nat) (s : Nat), chainB ops (s :: r) = true → S s = false → ∀ t ∈ r, S t = false := by
 intro r
 induction r with
 | nil => intro s _ _ t ht; cases ht
 | cons x r ih =>
  intro s hc h t ht
  have hx := chain_down hcl hc h
  simp only [chainB, Bool.and_eq_true] at hc
  rcases List.mem_cons.1 ht with rfl | ht
  ·exact hx
  ·exact ih x hc.2 hx t ht
theorem cntT_at {ops : Array Oper} {S : Nat → Bool} (hcl : ∀ j o', S j = true → ops[j]? = some o' → ∀ e ∈ o'.after, Region.binds .any e = true → S e.on = true) :
  ∀ (st : List Nat) (j i : Nat), chainB ops st = true → st.Nodup → st[j]? = some i → S i = false →
   (∀ p q : Nat, st[p]? = some q → p + 1 = j → S q = true) → (cntT S st = j ∧ cntT (upd S i) st = j + 1) := by
 intro st
 induction st with
 | nil => intro j i _ _ h; simp at h
 | cons s r ih =>
  intro j i hc hn hj hi hp
  rw [List.nodup_cons] at hn
  rcases j with _ | j
  ·simp only [List.getElem?_cons_zero, Option.some.injEq] at hj
   subst hj
   have hf := chain_false hcl r s hc hi
   refine ⟨by simp [cntT, hi], ?_⟩
   have : cntT (upd S s) r = 0 := by rw [cntT_off hn.1]; exact cntT_zero hf
   simp only [cntT, this]
   simp [upd]
  ·simp only [List.getElem?_cons_succ] at hj
   have hir : i ∈ r := List.mem_of_getElem? hj
   have hne : ¬ s = i := fun e => hn.1 (e ▸ hir)
   have hc2 : chainB ops r = true := by
    cases r with
    | nil => rfl
    | cons x r => simp only [chainB, Bool.and_eq_true] at hc; exact hc.2
   have hS : S s = true := by
    rcases hs : S s with _ | _
    ·exfalso
     have hf := chain_false hcl r s hc hs
     rcases j with _ | j
     ·have := hp 0 s rfl rfl
      rw [hs] at this; cases this
     ·have hjl : j + 1 < r.length := (List.getElem?_eq_some_iff.1 hj).1
      have hq : r[j]? = some r[j] := List.getElem?_eq_getElem (by omega)
      have := hp (j + 1) r[j] (by simp [hq]) rfl
      rw [hf _ (List.getElem_mem _)] at this; cases this
    ·rfl
   obtain ⟨e1, e2⟩ := ih j i hc2 hn.2 hj hi (fun p q hq hpj => hp (p + 1) q (by simpa using hq) (by omega))
   refine ⟨by simp only [cntT, hS, if_true, e1]; omega, ?_⟩
   have e3 : upd S i s = true := by simp [upd, hne, hS]
   simp only [cntT, e3, if_true, e2]; omega

theorem wp_region_chain {P : Program} {id : Nat} {ops : Array Oper} {Q : Exit → Act → World → Prop} {a : Act} {w : World} (hm : P.follows .mixedOrders = true) (hb : edgesBack .any ops = true)
  (ds : List (Option Tmp)) (hds : ops.toList.map (·.dst) = ds) (hok : dstsOk ds = true)
  (st : List Nat) (hst : chainB ops st = true) (hnd : st.Nodup) (hlt : ∀ s ∈ st, s < ops.size)
  (vals : List Value) (Ws : Nat → World) (h0 : Ws 0 = w.drew)
  (hstep : ∀ i o f k, ops[i]? = some o → i < ops.size → i ∉ st → k ≤ st.length → (∀ e ∈ o.after, Region.binds .any e = true → f e.on = vals.getD e.on undef) → ∀ K : Act → World → Prop, K ((putL ds f 0 a).put o.dst (vals.getD i undef)) (Ws k) →
   if Region.wanted o (yielded ops (putL ds f 0 a).tmps) = true then o.wp P (putL ds f 0 a) (Ws k) K Q else K ((putL ds f 0 a).put o.dst undef) (Ws k))
  (hturn : ∀ i o f k, ops[i]? = some o → st[k]? = some i → (∀ e ∈ o.after, Region.binds .any e = true → f e.on = vals.getD e.on undef) → ∀ K : Act → World → Prop, K ((putL ds f 0 a).put o.dst (vals.getD i undef)) (Ws (k + 1)) →
   if Region.wanted o (yielded ops (putL ds f 0 a).tmps) = true then o.wp P (putL ds f 0 a) (Ws k) K Q else K ((putL ds f 0 a).put o.dst undef) (Ws k))
  (hend : Q .normal (putL ds (fun i => vals.getD i undef) 0 a) (Ws st.length)) : (Code.region id ops true).wp P Q a w := by
 refine wp_region_detL hm hb ds hds hok (fun i => vals.getD i undef) (fun S => Ws (cntT S st)) (fun S S' h => by simp only [cntT_congr (fun s hs => h s (hlt s hs))]) (by
  show Ws (cntT (fun _ => false) st) = w.drew
  rw [cntT_zero (fun _ _ => rfl)]; exact h0) ?_ ?_
 ·intro S i o f ho hi hSi hpre hcl hf K hK
  by_cases hmem : i ∈ st
  ·obtain ⟨j, hj, hji⟩ := List.getElem_of_mem hmem
   have hj2 : st[j]? = some i := by rw [List.getElem?_eq_getElem hj, hji]
   have hprev : ∀ p q : Nat, st[p]? = some q → p + 1 = j → S q = true := by
    rintro p q hq rfl
    have key : ∀ (st : List Nat) (p i q : Nat) (o : Oper), chainB ops st = true → st[p]? = some q → st[p + 1]? = some i → ops[i]? = some o → ∃ e ∈ o.after, Region.binds .any e = true ∧ e.on = q := by
     intro st
     induction st with
     | nil => intro p i q o _ h; simp at h
     | cons s r ih =>
      intro p i q o hc h1 h2 ho
      rcases p with _ | p
      ·simp only [List.getElem?_cons_zero, Option.some.injEq] at h1
       subst h1
       cases r with
       | nil => simp at h2
       | cons t r =>
        simp only [List.getElem?_cons_succ, List.getElem?_cons_zero, Option.some.injEq] at h2
        subst h2
        simp only [chainB, Bool.and_eq_true] at hc
        rw [ho] at hc
        simp only [Option.map_some, Option.getD_some] at hc
        obtain ⟨k, hk, hk2⟩ := Array.any_eq_true.1 hc.1
        simp only [Bool.and_eq_true, beq_iff_eq] at hk2
        exact ⟨_, Array.getElem_mem hk, hk2.1, hk2.2⟩
      ·have hc2 : chainB ops r = true := by
        cases r with
        | nil => rfl
        | cons x r => simp only [chainB, Bool.and_eq_true] at hc; exact hc.2
       exact ih p i q o hc2 (by simpa using h1) (by simpa using h2) ho
    obtain ⟨e, he, hbd, hon⟩ := key st p i q o hst hq hj2 ho
    rw [← hon]; exact hpre e he hbd
   obtain ⟨e1, e2⟩ := cntT_at hcl st j i hst hnd hj2 hSi hprev
   rw [e2] at hK
   rw [e1]
   have hw0 := hturn i o f j ho hj2 hf K hK
   exact hw0
  ·rw [cntT_off hmem] at hK
   exact hstep i o f _ ho hi hmem (cntT_le _ _) hf K hK
 ·intro S hS
  rw [cntT_all (fun s hs => hS s (hlt s hs))]
  exact hend

def isRow (P : Program) (ty : TypeId) (n : Nat) : Bool := (match P.underlying ty with | some (.struct _) | some (.array _ _) => true | _ => false) && ((P.info? ty).map (·.size) == some n)
theorem wp_loadO {P : Program} {o : Oper} {a : Act} {w : World} {K : Act → World → Prop} {Q : Exit → Act → World → Prop} (ty : TypeId) (x : Operand) (ho : o.op = .load ty x)
  (g : Nat) (cs : Array Value) (t : TypeId) (hx : a.eval x = .pointer (some ⟨g, 0, none⟩)) (hg : HasO w g (.cells cs t (0, 0))) (hr : isRow P ty cs.size = true) (h : K (a.put o.dst (.agg cs)) w) : o.wp P a w K Q := by
 unfold isRow at hr
 simp only [Bool.and_eq_true, beq_iff_eq] at hr
 cases hu : P.underlying ty with
 | none => rw [hu] at hr; cases hr.1
 | some d =>
  rw [hu] at hr
  exact wp_load_row ty x ho g hx t cs (0, 0) d hg hu (by cases d <;> simp_all) hr.2 h
/-! ### one operation of a region, by its kind -/
theorem getD_set_ne {t : Array Value} {i j : Nat} (h : i ≠ j) (u : Value) : (t.setIfInBounds i u).getD j undef = t.getD j undef := by
 simp [Array.getD_eq_getD_getElem?, h]
theorem getD_set_eq {t : Array Value} {i : Nat} (h : i < t.size) (u : Value) : (t.setIfInBounds i u).getD i undef = u := by
 simp [Array.getD_eq_getD_getElem?, h]
theorem putL_out (ds : List (Option Tmp)) (f : Nat → Value) (k : Nat) (a : Act) {t : Tmp} (h : ds.contains (some t) = false) : (putL ds f k a).tmps.getD t undef = a.tmps.getD t undef := by
 induction ds generalizing k a with
 | nil => rfl
 | cons d ds ih =>
  simp only [List.contains_cons, Bool.or_eq_false_iff, beq_eq_false_iff_ne] at h
  simp only [putL]
  rw [ih _ _ h.2]
  cases d with
  | none => rfl
  | some d => exact getD_set_ne (fun e => h.1 (by rw [e])) _
theorem putL_in (ds : List (Option Tmp)) (hd : dstsOk ds = true) (f : Nat → Value) (k : Nat) (a : Act) {t : Tmp} (hs : t < a.tmps.size) {i : Nat} (hi : ds[i]? = some (some t)) : (putL ds f k a).tmps.getD t undef = f (k + i) := by
 induction ds generalizing k a i with
 | nil => simp at hi
 | cons d ds ih =>
  rcases i with _ | i
  ·simp only [List.getElem?_cons_zero, Option.some.injEq] at hi
   subst hi
   simp only [dstsOk, Bool.and_eq_true, Bool.not_eq_true'] at hd
   simp only [putL, Nat.add_zero]
   rw [putL_out _ _ _ _ hd.1]
   exact getD_set_eq hs _
  ·simp only [List.getElem?_cons_succ] at hi
   simp only [putL]
   rw [ih (by rcases d with _ | t <;> simp only [dstsOk, Bool.and_eq_true] at hd; exact hd; exact hd.2) (k + 1) _ (by cases d <;> simp [Act.put, hs]) hi]
   congr 1; omega
theorem putL_defers (ds : List (Option Tmp)) (f : Nat → Value) (k : Nat) (a : Act) : (putL ds f k a).defers = a.defers := by
 induction ds generalizing k a with
 | nil => rfl
 | cons d ds ih =>
  simp only [putL]
  rw [ih]
  cases d <;> rfl
theorem rd_out {ds : List (Option Tmp)} {f : Nat → Value} {a : Act} {t : Tmp} {v : Value} (h : ds.contains (some t) = false) (hv : a.tmps.getD t undef = v) : (putL ds f 0 a).eval (.tmp t) = v := by
 show (putL ds f 0 a).tmps.getD t undef = v
 rw [putL_out _ _ _ _ h, hv]
theorem rd_in {ds : List (Option Tmp)} (hd : dstsOk ds = true) {f : Nat → Value} {a : Act} {t : Tmp} (i : Nat) (hi : ds[i]? = some (some t)) (hs : t < a.tmps.size) {v : Value} (hf : f i = v) : (putL ds f 0 a).eval (.tmp t) = v := by
 show (putL ds f 0 a).tmps.getD t undef = v
 rw [putL_in _ hd _ _ _ hs hi, Nat.zero_add, hf]

/-- an operation of a region, read off its place -/
theorem og {ops : Array Oper} {i : Nat} {o : Oper} (ho : ops[i]? = some o) {g : Option (Nat × Bool)} (h : (ops[i]?).map (·.guard) = some g := by rfl) : o.guard = g := by rw [ho] at h; injection h
theorem oo {ops : Array Oper} {i : Nat} {o : Oper} (ho : ops[i]? = some o) {p : Op} (h : (ops[i]?).map (·.op) = some p := by rfl) : o.op = p := by rw [ho] at h; injection h
theorem oa {ops : Array Oper} {i : Nat} {o : Oper} (ho : ops[i]? = some o) {e : Edge} (h : ((ops[i]?).map fun o => o.after.toList.any fun x => x.on == e.on && decide (x.ground = e.ground)) = some true := by rfl) : e ∈ o.after := by
 rw [ho] at h
 simp only [Option.map_some, Option.some.injEq, List.any_eq_true, Bool.and_eq_true, beq_iff_eq, decide_eq_true_eq] at h
 obtain ⟨x, hx, h1, h2⟩ := h
 obtain ⟨xo, xg⟩ := x
 obtain ⟨eo, eg⟩ := e
 simp only at h1 h2
 subst h1 h2
 simpa using hx
theorem ri {ds : List (Option Tmp)} {f : Nat → Value} {a : Act} {t : Tmp} (i : Nat) {v : Value} (hf : f i = v) (hd : dstsOk ds = true := by rfl) (hi : ds[i]? = some (some t) := by rfl) (hs : t < a.tmps.size := by simp) : (putL ds f 0 a).eval (.tmp t) = v := rd_in hd i hi hs hf
theorem da {ops : Array Oper} {i : Nat} {o : Oper} (ho : ops[i]? = some o) {C : Edge → Prop} (hf : ∀ e ∈ o.after, Region.binds .any e = true → C e) (j : Nat) (h : ((ops[i]?).map fun o => o.after.toList.any fun x => x.on == j && decide (x.ground = .data)) = some true := by rfl) : C ⟨j, .data⟩ := hf ⟨j, .data⟩ (oa ho h) rfl
theorem dg {ops : Array Oper} {i : Nat} {o : Oper} (ho : ops[i]? = some o) {C : Edge → Prop} (hf : ∀ e ∈ o.after, Region.binds .any e = true → C e) (j : Nat) (h : ((ops[i]?).map fun o => o.after.toList.any fun x => x.on == j && decide (x.ground = .guard)) = some true := by rfl) : C ⟨j, .guard⟩ := hf ⟨j, .guard⟩ (oa ho h) rfl
theorem kk {W : World} {R T : Value → World → Prop} (hK : ∀ u W', Below W.heap.size W W' → R u W' → T u W') {u : Value} (h : R u W := by exact rfl) : T u W := hK u W (Below.refl _ _) h
section ops
variable {P : Program} {o : Oper} {a : Act} {w : World} {K : Act → World → Prop} {Q : Exit → Act → World → Prop} {t : Nat → Option Bool} {X : Prop}
theorem st_wp (hg : o.guard = none) (h : o.wp P a w K Q) : if Region.wanted o t = true then o.wp P a w K Q else X := by
 have : Region.wanted o t = true := by simp [Region.wanted, hg]
 rw [if_pos this]; exact h
theorem st_assign (hg : o.guard = none) (x : Operand) (ho : o.op = .assign x) {v : Value} (hx : a.eval x = v) (h : K (a.put o.dst v) w) : if Region.wanted o t = true then o.wp P a w K Q else X := by
 refine st_wp hg ?_
 unfold Oper.wp execOp
 simp only [ho, hx]
 exact h
theorem st_move (hg : o.guard = none) (x : Operand) (ho : o.op = .move x) {v : Value} (hx : a.eval x = v) (h : K (a.put o.dst v) w) : if Region.wanted o t = true then o.wp P a w K Q else X := by
 refine st_wp hg ?_
 unfold Oper.wp execOp
 simp only [ho, hx]
 exact h
def isScal (P : Program) (ty : TypeId) : Bool := match P.underlying ty with | none => false | some (.struct _) => false | some (.array _ _) => false | some _ => true
theorem run_isAgg_row {ty : TypeId} {n : Nat} (h : isRow P ty n = true) : (isAgg ty).run P w = .ok true w := by
 unfold isRow at h
 simp only [Bool.and_eq_true, beq_iff_eq] at h
 cases hu : P.underlying ty with
 | none => rw [hu] at h; cases h.1
 | some d =>
  rw [hu] at h
  unfold isAgg
  rw [Sem.run_bind, run_underlying hu w]
  cases d <;> simp_all
theorem run_loadA {ty : TypeId} {g b : Nat} (vs : List Value) (hr : isRow P ty vs.length = true) (hc : ∀ j v, vs[j]? = some v → w.cell? ⟨g, b + j, none⟩ = some v) : (loadVar ty ⟨g, b, none⟩).run P w = .ok (.agg vs.toArray) w := by
 have hl : (loadCells ⟨g, b, none⟩ vs.length).run P w = .ok vs.toArray w := run_loadCells_list (P := P) w ⟨g, b, none⟩ vs (fun j v hv => by rw [Addr.add_lit]; exact hc j v hv)
 have hagg := run_isAgg_row (w := w) hr
 unfold isRow at hr
 simp only [Bool.and_eq_true, beq_iff_eq] at hr
 cases hq : P.info? ty with
 | none => rw [hq] at hr; simp at hr
 | some i =>
  have hs : i.size = vs.length := by have := hr.2; simpa [hq] using this
  simp [loadVar, Sem.run_bind, hagg, sizeOf, typeInfo, hq, hs, hl]
theorem run_loadS {ty : TypeId} {p : Addr} {v : Value} (hr : isScal P ty = true) (hc : w.cell? p = some v) : (loadVar ty p).run P w = .ok v w := by
 have hagg : (isAgg ty).run P w = .ok false w := by
  unfold isScal at hr
  cases hu : P.underlying ty with
  | none => rw [hu] at hr; cases hr
  | some d =>
   rw [hu] at hr
   unfold isAgg
   rw [Sem.run_bind, run_underlying hu w]
   cases d <;> simp_all
 simp [loadVar, Sem.run_bind, hagg, hc]
theorem st_loadA (hg : o.guard = none) (ty : TypeId) (x : Operand) (ho : o.op = .load ty x) {g b : Nat} (hx : a.eval x = .pointer (some ⟨g, b, none⟩)) (vs : List Value) (hr : isRow P ty vs.length = true)
  (hc : ∀ j v, vs[j]? = some v → w.cell? ⟨g, b + j, none⟩ = some v) (h : K (a.put o.dst (.agg vs.toArray)) w) : if Region.wanted o t = true then o.wp P a w K Q else X := by
 refine st_wp hg ?_
 unfold Oper.wp execOp
 simp only [ho, hx, Instr.loadAt, Instr.sureAddr, Sem.run_bind, Sem.run_pure, Result.andThen_ok, run_loadA vs hr hc]
 exact h
theorem st_loadS (hg : o.guard = none) (ty : TypeId) (x : Operand) (ho : o.op = .load ty x) {p : Addr} (hx : a.eval x = .pointer (some p)) (hr : isScal P ty = true) {v : Value} (hc : w.cell? p = some v) (h : K (a.put o.dst v) w) : if Region.wanted o t = true then o.wp P a w K Q else X := by
 refine st_wp hg ?_
 unfold Oper.wp execOp
 simp only [ho, hx, Instr.loadAt, Instr.sureAddr, Sem.run_bind, Sem.run_pure, Result.andThen_ok, run_loadS hr hc]
 exact h
theorem st_storeO (hg : o.guard = none) (ty : TypeId) (x y : Operand) (ho : o.op = .store ty x y) {g : Nat} (hx : a.eval x = .pointer (some ⟨g, 0, none⟩)) (cs old : Array Value) (e : TypeId) (hy : a.eval y = .agg cs)
  (hq : HasO w g (.cells old e (0, 0))) (hi : (P.info? ty).map (·.size) = some cs.size) (hold : old.size = cs.size) (h1 : cs.all (·.oneCell') = true) (h : K (a.put o.dst undef) (w.setRow g cs)) : if Region.wanted o t = true then o.wp P a w K Q else X :=
 st_wp hg (wp_store_row ty x y ho g cs hx hy e old hq hi hold h1 h)
theorem st_storeS (hg : o.guard = none) (ty : TypeId) (x y : Operand) (ho : o.op = .store ty x y) {g b : Nat} (hx : a.eval x = .pointer (some ⟨g, b, none⟩)) {v u : Value} (hy : a.eval y = v) (hi : (P.info? ty).map (·.size) = some 1) (h1 : v.oneCell' = true)
  (hc : w.cell? ⟨g, b, none⟩ = some u) (hf : w.frozen? ⟨g, b, none⟩ = false) (h : K (a.put o.dst undef) (w.setCell ⟨g, b, none⟩ v)) : if Region.wanted o t = true then o.wp P a w K Q else X := by
 refine st_wp hg ?_
 have hv : v.cells = #[v] := by cases v <;> simp_all [Value.cells, Value.oneCell']
 cases hq : P.info? ty with
 | none => simp [hq] at hi
 | some i =>
  have hs : i.size = 1 := by simpa [hq] using hi
  unfold Oper.wp execOp
  have hrun : (storeVar ty ⟨g, b, none⟩ v).run P w = .ok () (w.setCell ⟨g, b, none⟩ v) := by
   simp only [storeVar, sizeOf, typeInfo, Sem.run_bind]
   simp [hq, hs, hv, storeCells, Addr.add_lit, run_store P w _ v _ h1, hc, hf]
  simp only [ho, hx, hy, Instr.storeAt, Instr.sureAddr, Sem.run_bind, Sem.run_pure, Result.andThen_ok, hrun]
  exact h
def fOff (P : Program) (s f : Nat) : Option Nat := match P.underlying s with
 | some (.struct fs) => match fs[f]? with
  | some fl => match P.info? fl.type with
   | some i => if i.size = 0 then none else some fl.offset
   | none => none
  | none => none
 | _ => none
theorem run_field {s f n : Nat} (h : fOff P s f = some n) (g b : Nat) : (Instr.fieldAt s (.pointer (some ⟨g, b, none⟩)) f).run P w = .ok (.pointer (some ⟨g, b + n, none⟩)) w := by
 unfold fOff at h
 cases hu : P.underlying s with
 | none => rw [hu] at h; cases h
 | some d =>
  rw [hu] at h
  cases d with
  | struct fs =>
   simp only at h
   cases hf : fs[f]? with
   | none => rw [hf] at h; cases h
   | some fl =>
    rw [hf] at h
    simp only at h
    cases hi : P.info? fl.type with
    | none => rw [hi] at h; cases h
    | some i =>
     rw [hi] at h
     simp only at h
     by_cases h0 : i.size = 0
     ·rw [if_pos h0] at h; cases h
     ·rw [if_neg h0] at h
      injection h with h
      subst h
      unfold Instr.fieldAt
      rw [Sem.run_bind, run_underlying hu w]
      simp only [Result.andThen_ok, hf, Sem.run_bind, Instr.sureAddr, Sem.run_pure, fieldPlace, sizeOf, typeInfo]
      simp [hi, h0, Addr.add_lit]
  | _ => cases h
theorem st_field (hg : o.guard = none) (s : TypeId) (x : Operand) (f : Nat) (ho : o.op = .fieldAddr s x f) {g b n : Nat} (hx : a.eval x = .pointer (some ⟨g, b, none⟩)) (hn : fOff P s f = some n) (h : K (a.put o.dst (.pointer (some ⟨g, b + n, none⟩))) w) : if Region.wanted o t = true then o.wp P a w K Q else X := by
 refine st_wp hg ?_
 unfold Oper.wp execOp
 simp only [ho, hx, Sem.run_bind, run_field hn, Result.andThen_ok, Sem.run_pure]
 exact h
theorem st_call1 (hg : o.guard = none) (fid : Nat) (x : Operand) (ts : Array TypeId) (ho : o.op = .call { callee := .value (.func fid), args := #[x], argTypes := ts }) {v : Value} (hx : a.eval x = v)
  (he : ∀ args w, (callFunc fid args).run P w = .ok (.enter fid args) w) {R : Ending → World → Prop} (hc : Calls P fid #[v] w R) (hret : ∀ u w', R (.returned u) w' → K (a.put o.dst u) w') (hpan : ∀ ch w', R (.panicked ch) w' → Q (.panic ch) a w') (hout : ∀ w', ¬ R .outgrown w') :
  if Region.wanted o t = true then o.wp P a w K Q else X := by
 refine st_wp hg ?_
 have hr : (execOp a.eval o).run P w = .ok (.enter fid #[v]) w := by
  have hf : a.eval (.func fid) = .func (.func fid) #[] #[] := rfl
  unfold execOp
  simp [ho, resolve, hf, hx, Deferred.ofValue, invoke, he]
 unfold Oper.wp
 rw [hr, Oper.upon_enter]
 refine hc.mono ?_
 intro e w' h
 cases e with
 | returned u => exact hret u w' h
 | panicked ch => exact hpan ch w' h
 | outgrown => exact absurd h (hout w')
theorem st_call2 (hg : o.guard = none) (fid : Nat) (x y : Operand) (ts : Array TypeId) (ho : o.op = .call { callee := .value (.func fid), args := #[x, y], argTypes := ts }) {v u : Value} (hx : a.eval x = v) (hy : a.eval y = u)
  (he : ∀ args w, (callFunc fid args).run P w = .ok (.enter fid args) w) {R : Ending → World → Prop} (hc : Calls P fid #[v, u] w R) (hret : ∀ u w', R (.returned u) w' → K (a.put o.dst u) w') (hpan : ∀ ch w', R (.panicked ch) w' → Q (.panic ch) a w') (hout : ∀ w', ¬ R .outgrown w') :
  if Region.wanted o t = true then o.wp P a w K Q else X := by
 refine st_wp hg ?_
 have hr : (execOp a.eval o).run P w = .ok (.enter fid #[v, u]) w := by
  have hf : a.eval (.func fid) = .func (.func fid) #[] #[] := rfl
  unfold execOp
  simp [ho, resolve, hf, hx, hy, Deferred.ofValue, invoke, he]
 unfold Oper.wp
 rw [hr, Oper.upon_enter]
 refine hc.mono ?_
 intro e w' h
 cases e with
 | returned u => exact hret u w' h
 | panicked ch => exact hpan ch w' h
 | outgrown => exact absurd h (hout w')
theorem st_buildSlice1 (hg : o.guard = none) (ty : TypeId) (x : Operand) (ho : o.op = .buildSlice ty 1 #[(0, x)]) {v u : Value} {w' : World} (hx : a.eval x = v) (hr : (Instr.buildSlice ty 1 #[(0, v)]).run P w = .ok u w') (h : K (a.put o.dst u) w') : if Region.wanted o t = true then o.wp P a w K Q else X := by
 refine st_wp hg ?_
 unfold Oper.wp execOp
 simp only [ho, List.map_toArray, List.map_cons, List.map_nil, hx, Sem.run_bind, hr, Result.andThen_ok, Sem.run_pure]
 exact h
theorem st_append (hg : o.guard = none) (s x : Operand) (ty : TypeId) (ho : o.op = .call { callee := .builtin .append, args := #[s, x], argTypes := #[ty, ty] })
  (base : Nat) (e : TypeId) (i : TypeInfo) (z : Value) (size bytes : Nat) (ht : P.underlying ty = some (.slice e)) (hi : P.info? e = some i) (hz : i.zero = some z)
  (hsize : i.size = size) (hby : i.bytes = bytes) (hzs : z.cells.size = size) (hsz : 0 < size)
  (v : Value) (n : Nat) (xs : List Value) (hs : a.eval s = v) (hown : w.ownsRow base e size v n xs)
  (ad : Addr) (m c : Nat) (news : List Value) (hx : a.eval x = .slice (some ad) m c) (hl : news.length = m * size) (hnews : ∀ j u, news[j]? = some u → w.cell? (ad.add j) = some u) (h1 : ∀ u ∈ news, u.oneCell' = true)
  (hbytes : (n + m) * (bytes + 1) ≤ 140737488355328) (hbase : base ≤ w.heap.size)
  (h : ∀ v' w', w'.ownsRow base e size v' (n + m) (xs ++ news) → w.grownBy w' v.ownBlock → (v'.ownBlock = v.ownBlock ∨ v'.ownBlock = some w.heap.size) → K (a.put o.dst v') w') : if Region.wanted o t = true then o.wp P a w K Q else X := by
 refine st_wp hg ?_
 have hb1 : (n + m) * bytes ≤ 140737488355328 := Nat.le_trans (Nat.mul_le_mul_left _ (by omega)) hbytes
 have hb2 : n + m ≤ maxLen := by
  have : (n + m) * 1 ≤ (n + m) * (bytes + 1) := Nat.mul_le_mul_left _ (by omega)
  unfold maxLen; omega
 obtain ⟨v', w', hr, h2, h3, _, h5⟩ := run_append_own_at (P := P) w base ty o.type e i z size bytes ht hi hz hsize hby hzs hsz v n xs hown ad m c news hl hnews h1 hb2 hb1 hbase
 unfold Oper.wp execOp
 simp only [ho, resolve, invoke, builtin, Sem.run_bind, Sem.run_pure, Result.andThen_ok, List.map_toArray, List.map_cons, List.map_nil, hs, hx, hr]
 exact h v' w' h2 h3 h5
end ops
theorem slot_in {ds : List (Option Tmp)} (hd : dstsOk ds = true) {f : Nat → Value} {a : Act} {t : Tmp} (i : Nat) (hi : ds[i]? = some (some t)) (hs : t < a.tmps.size) {v : Value} (hf : f i = v) : (putL ds f 0 a).tmps.getD t undef = v := by
 rw [putL_in _ hd _ _ _ hs hi, Nat.zero_add, hf]
theorem wpList_loadO {P : Program} {ops : Array Oper} {rest : List Oper} {o : Oper} {a : Act} {w : World} {Q : Exit → Act → World → Prop} (hgd : o.guard = none) (ty : TypeId) (x : Operand) (ho : o.op = .load ty x)
  (g : Nat) (cs : Array Value) (t : TypeId) (hx : a.eval x = .pointer (some ⟨g, 0, none⟩)) (hg : HasO w g (.cells cs t (0, 0))) (hr : isRow P ty cs.size = true)
  (h : wpList P ops Q rest (a.put o.dst (.agg cs)) w) : wpList P ops Q (o :: rest) a w :=
 wpList_plain hgd fun _ hK => wp_loadO ty x ho g cs t hx hg hr (hK _ _ h)
theorem results_cell {P : Program} {fn : Func} {p : Tmp} {ty : TypeId} (h : fn.results = #[.cell p ty]) {tmps : Array Value} {w : World} {g : Nat} {t : TypeId} {cs : Array Value}
  (hp : tmps.getD p undef = .pointer (some ⟨g, 0, none⟩)) (hg : HasO w g (.cells cs t (0, 0))) (hr : isRow P ty cs.size = true) : (results fn tmps).run P w = .ok (.agg cs) w := by
 have e1 : (loadVar ty ⟨g, 0, none⟩).run P w = .ok (.agg cs) w := by
  have := run_loadA (P := P) (w := w) (ty := ty) (g := g) (b := 0) cs.toList (by simpa using hr) (fun j v hv => by rw [Nat.zero_add, hg.cells j]; simpa using hv)
  simpa using this
 have hp' : tmps[p]?.getD undef = .pointer (some ⟨g, 0, none⟩) := by simpa using hp
 simp [results, h, hp', asAddr, e1]
theorem refPlace_any (F R a : Nat) (hF : 3 ≤ F ∧ F ≤ 8) (ha : a < 1000) (w : World) : Calls Tryz.prog 40 #[.agg #[.int .i64 F, .int .i64 R], .int .i64 a] w fun e w' => e = .returned (.agg #[.int .i64 (a % F : Nat), .int .i64 (a / F : Nat)]) ∧ Below w.heap.size w w' := by
 have hF0 : (F : Int) ≠ 0 := by omega
 go_enter Tryz.func40, Tryz.ntmps40
 have hA := HasO.new w (.cells #[.int .i64 (F : Int), .int .i64 (R : Int)] 23)
 have hB := hA.alloc (.cells #[.int .i64 0, .int .i64 0] 85)
 have hC := HasO.new (w.alloc (.cells #[.int .i64 (F : Int), .int .i64 (R : Int)] 23)) (.cells #[.int .i64 0, .int .i64 0] 85)
 have hc0 := hB.cells 0
 have hlB := hB.lt
 have hlC := hC.lt
 go_wp2_with fail
 go_region
 have e1 : (a : Int) / (F : Int) = ((a / F : Nat) : Int) := rfl
 have e2 : ((a / F : Nat) : Int) ≤ a := by have := Nat.div_le_self a F; omega
 have e3 : (a : Int) % (F : Int) = ((a % F : Nat) : Int) := rfl
 have e4 : (0 : Int) ≤ ((a / F : Nat) : Int) := Int.natCast_nonneg _
 rw [e1, e3, IntWalk.wrap64_in _ (by omega)]
 go_wp2_with fail
 refine bodyPost_ret (results_cell (fn := Tryz.f40) Tryz.results40 rfl (HasO.new' (w.alloc (.cells #[.int .i64 (F : Int), .int .i64 (R : Int)] 23)) (.cells #[.int .i64 ((a % F : Nat) : Int), .int .i64 ((a / F : Nat) : Int)] 85) (by simp)).drew (by kernel_rfl)) rfl ?_
 exact ⟨rfl, ((below_box _ _).alloc (by simp) _).drew⟩
theorem refNumber_any (f r a b : Int) (w : World) (h1 : -1000 < f ∧ f < 1000) (h3 : -1000 < a ∧ a < 1000) (h4 : -1000 < b ∧ b < 1000) : Calls Tryz.prog 46 #[.agg #[.int .i64 f, .int .i64 r], .int .i64 a, .int .i64 b] w fun e w' => e = .returned (.int .i64 (if a < 0 ∨ f ≤ a ∨ b < 0 ∨ r ≤ b then -1 else b * f + a)) ∧ Below w.heap.size w w' := by
 have hp : b * f < 1000000 ∧ -1000000 < b * f := by
  have h5 : (b * f).natAbs = b.natAbs * f.natAbs := Int.natAbs_mul b f
  have h6 : b.natAbs * f.natAbs ≤ 999 * 999 := Nat.mul_le_mul (by omega) (by omega)
  omega
 go_enter Tryz.func46, Tryz.ntmps46
 have e1 : wrap64 (b * f + a) = b * f + a := IntWalk.wrap64_in _ (by omega)
 have e2 : wrap64 (b * f) = b * f := IntWalk.wrap64_in _ (by omega)
 go_wp2
 all_goals (go_ret; refine ⟨?_, below_box _ _⟩; first | (rw [if_pos (by omega)]; rfl) | (rw [if_neg (by omega)]; rfl) | rfl)
def sqB (f r a : Int) : Bool := sizeB f r && (decide (0 ≤ a) && decide (a < f * r))
theorem size_bd {f r : Int} (h : sizeB f r = true) : 3 ≤ f ∧ f ≤ 8 ∧ 3 ≤ r ∧ r ≤ 8 := by
 simp [sizeB, sideB] at h; omega
theorem mul_bd {f r : Int} (h1 : 3 ≤ f) (h2 : f ≤ 8) (h3 : 3 ≤ r) (h4 : r ≤ 8) : 9 ≤ f * r ∧ f * r ≤ 64 := by
 have h5 := Int.mul_le_mul h1 h3 (by omega) (by omega)
 have h6 := Int.mul_le_mul h2 h4 (by omega) (by omega)
 omega
theorem size_mul {f r : Int} (h : sizeB f r = true) : 9 ≤ f * r ∧ f * r ≤ 64 := by
 obtain ⟨h1, h2, h3, h4⟩ := size_bd h
 exact mul_bd h1 h2 h3 h4

theorem refSqValid_any (f r a : Int) (w : World) : Calls Tryz.prog 56 #[.agg #[.int .i64 f, .int .i64 r], .int .i64 a] w fun e w' => e = .returned (.bool (sqB f r a)) ∧ Below w.heap.size w w' := by
 have hb := below_box w (.cells #[.int .i64 f, .int .i64 r] 23)
 have hA := HasO.new w (.cells #[.int .i64 f, .int .i64 r] 23)
 go_enter Tryz.func56, Tryz.ntmps56
 go_wp2_with fail
 refine (size_any f r _).mono ?_
 rintro e w1 ⟨rfl, hb1⟩
 have hb' := below_call hb hb.size hb1
 have hc := (hA.call hb1).cells
 have hl := (hA.call hb1).lt
 rcases hs : sizeB f r with _ | _
 ·go_wp2_with fail
  go_ret
  exact ⟨by simp [sqB, hs], hb'⟩
 ·have hm := size_mul hs
  have e1 : wrap64 (f * r) = f * r := IntWalk.wrap64_in _ (by omega)
  replace hs := Lib.hid hs
  clear hb1 hA hb
  go_wp2
  all_goals (go_ret; exact ⟨by simp [sqB, hs.out, *] <;> omega, hb'⟩)
theorem sqValid_any (f r a : Int) (w : World) : Calls Tryz.prog 109 #[.agg #[.int .i64 f, .int .i64 r], .int .i64 a] w fun e w' => e = .returned (.bool (sqB f r a)) ∧ Below w.heap.size w w' := by
 have hb := below_box w (.cells #[.int .i64 f, .int .i64 r] 23)
 have hA := HasO.new w (.cells #[.int .i64 f, .int .i64 r] 23)
 go_enter Tryz.func109, Tryz.ntmps109
 go_wp2_with fail
 refine (validSize_any f r _).mono ?_
 rintro e w1 ⟨rfl, hb1⟩
 have hb' := below_call hb hb.size hb1
 have hc := (hA.call hb1).cells
 have hl := (hA.call hb1).lt
 rcases hs : sizeB f r with _ | _
 ·go_wp2_with fail
  go_ret
  exact ⟨by simp [sqB, hs], hb'⟩
 ·have hm := size_mul hs
  have e1 : wrap64 (f * r) = f * r := IntWalk.wrap64_in _ (by omega)
  replace hs := Lib.hid hs
  clear hb1 hA hb
  go_wp2
  all_goals (go_ret; exact ⟨by simp [sqB, hs.out, *] <;> omega, hb'⟩)
def sqCntE (f r : Int) : Int × Int := if sizeB f r then (f * r, 0) else (0, 2)
theorem sqCount_any (f r : Int) (w : World) : Calls Tryz.prog 132 #[.agg #[.int .i64 f, .int .i64 r]] w fun e w' => e = .returned (.tuple #[.int .i64 (sqCntE f r).1, .int .i64 (sqCntE f r).2]) ∧ Below w.heap.size w w' := by
 have hb := below_box w (.cells #[.int .i64 f, .int .i64 r] 23)
 have hA := HasO.new w (.cells #[.int .i64 f, .int .i64 r] 23)
 go_enter Tryz.func132, Tryz.ntmps132
 go_wp2_with fail
 refine (validSize_any f r _).mono ?_
 rintro e w1 ⟨rfl, hb1⟩
 have hb' := below_call hb hb.size hb1
 have hc := (hA.call hb1).cells
 have hl := (hA.call hb1).lt
 rcases hs : sizeB f r with _ | _
 ·go_wp2_with fail
  go_ret2
  exact ⟨by rw [show sqCntE f r = (0, 2) from by simp [sqCntE, hs]]; rfl, hb'⟩
 ·have hm := size_mul hs
  have e1 : wrap64 (f * r) = f * r := IntWalk.wrap64_in _ (by omega)
  replace hs := Lib.hid hs
  clear hb1 hA hb
  go_wp2_with fail
  go_ret2
  exact ⟨by rw [show sqCntE f r = (f * r, 0) from by simp [sqCntE, hs.out]]; rfl, hb'⟩
theorem refLast_any (f r : Int) (b : Bool) (hr : 0 ≤ r ∧ r ≤ 1000) (w : World) : Calls Tryz.prog 41 #[.agg #[.int .i64 f, .int .i64 r], .bool b] w fun e w' => e = .returned (.int .i64 (if b then 0 else r - 1)) ∧ Below w.heap.size w w' := by
 have e1 : wrap64 (r - 1) = r - 1 := IntWalk.wrap64_in _ (by omega)
 go_enter Tryz.func41, Tryz.ntmps41
 go_wp2
 all_goals (go_ret; refine ⟨?_, below_box _ _⟩; simp [*])
theorem refRank_any (f r k : Int) (b : Bool) (hr : 0 ≤ r ∧ r ≤ 1000) (hk : 0 ≤ k ∧ k ≤ 1000) (w : World) : Calls Tryz.prog 102 #[.agg #[.int .i64 f, .int .i64 r], .bool b, .int .i64 k] w fun e w' => e = .returned (.int .i64 (if b then r - k else k - 1)) ∧ Below w.heap.size w w' := by
 have e1 : wrap64 (r - k) = r - k := IntWalk.wrap64_in _ (by omega)
 have e2 : wrap64 (k - 1) = k - 1 := IntWalk.wrap64_in _ (by omega)
 go_enter Tryz.func102, Tryz.ntmps102
 go_wp2
 all_goals (go_ret; refine ⟨?_, below_box _ _⟩; simp [*])
def Loc (w0 : World) (B : Nat) (o : Obj) (W : World) : Prop := Below w0.heap.size w0 W ∧ HasO W B o
theorem Loc.call {w0 W w' : World} {B : Nat} {o : Obj} (h : Loc w0 B o W) (hb : Below W.heap.size W w') : Loc w0 B o w' := ⟨below_call h.1 h.1.size hb, h.2.call hb⟩
theorem Loc.drew {w0 W : World} {B : Nat} {o : Obj} (h : Loc w0 B o W) : Loc w0 B o W.drew := ⟨h.1.drew, h.2⟩
theorem Loc.drewN {w0 W : World} {B : Nat} {o : Obj} (h : Loc w0 B o W) (n : Nat) : Loc w0 B o (W.drewN n) := ⟨below_drewN h.1 n, h.2⟩
theorem Loc.alloc {w0 W : World} {B : Nat} {o : Obj} (h : Loc w0 B o W) (o' : Obj) : Loc w0 B o (W.alloc o') := ⟨h.1.alloc h.1.size o', h.2.alloc o'⟩
theorem Loc.new (w : World) (o : Obj) : Loc w w.heap.size o (w.alloc o) := ⟨below_box w o, HasO.new w o⟩

theorem u8_in {n : Int} (h0 : 0 ≤ n) (h1 : n < 256) : IntKind.u8.wrap n = n := by
 have e : ((2 : Int) ^ IntKind.u8.bits) = 256 := by decide
 have e2 : IntKind.u8.signed = false := rfl
 simp [IntKind.wrap, e, e2]
 omega
end Go.Proofs.YtefmplccbkmalaaGreatDoor
