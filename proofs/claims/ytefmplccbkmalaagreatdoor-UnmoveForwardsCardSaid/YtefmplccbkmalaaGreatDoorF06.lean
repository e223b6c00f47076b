import Derived.Test.YtefmplccbkmalaaGreatDoorF04
import Derived.Test.YtefmplccbkmalaaGreatDoorF05
import Derived.Laws.OwnMore
import Derived.Maps.AppendAt
import Derived.Laws.BitsAllLaws
set_option maxHeartbeats 12800000
namespace Go.Proofs.YtefmplccbkmalaaGreatDoor
open Go.RowKit

theorem own_arr {W : World} {base : Nat} {t : TypeId} {v : Value} {k : IntKind} {xs : List Int} (h : W.ownsRow base t 1 v xs.length (xs.map (.int k))) : ∃ p c, v = .slice p xs.length c ∧ xs.length ≤ c ∧ Arr k W p xs := by
 have h' := h
 rcases h.2 with ⟨rfl, h2⟩ | ⟨g, cap, cur, rfl, hg, hh, hc, _⟩
 ·have : xs = [] := List.eq_nil_of_length_eq_zero h2
  subst this
  exact ⟨none, 0, rfl, Nat.le_refl _, .inl rfl⟩
 ·refine ⟨_, cap, rfl, hc, .inr ⟨g, 0, rfl, (h'.lt g rfl).2, fun j hj => ?_⟩⟩
  rw [Nat.zero_add, h'.cellAt _ (by omega)]
  simp [hj]

theorem Tryz.info3 : (Tryz.prog.info? 3).map (fun i => (i.zero, i.size, i.bytes)) = some (some (.int .i64 0), 1, 8) := by kernel_rfl
section ops
variable {P : Program} {o : Oper} {a : Act} {w : World} {K : Act → World → Prop} {Q : Exit → Act → World → Prop} {t : Nat → Option Bool} {X : Prop}
theorem st_alloc (hg : o.guard = none) (ty : TypeId) (ho : o.op = .alloc ty) {r : Value} {w' : World} (hr : (Instr.alloc ty true (.tuple #[])).run P w = .ok r w') (h : K (a.put o.dst r) w') : if Region.wanted o t = true then o.wp P a w K Q else X := by
 refine st_wp hg ?_
 unfold Oper.wp execOp
 simp only [ho, Sem.run_bind, hr, Result.andThen_ok, Sem.run_pure]
 exact h
theorem st_build2 (hg : o.guard = none) (ty : TypeId) (i1 i2 : Nat) (x1 x2 : Operand) (ho : o.op = .build ty #[(i1, x1), (i2, x2)]) {v1 v2 : Value} (h1 : a.eval x1 = v1) (h2 : a.eval x2 = v2) {cs : Array Value}
  (hb : P.built ty [(i1, v1), (i2, v2)] = some cs) (h : K (a.put o.dst (.agg cs)) w) : if Region.wanted o t = true then o.wp P a w K Q else X := by
 refine st_wp hg ?_
 have e : (#[(i1, x1), (i2, x2)].map fun (i, x) => (i, a.eval x)).toList = [(i1, v1), (i2, v2)] := by simp [h1, h2]
 refine wp_build ty _ ho (by rw [e, hb]; rfl) ?_
 rw [e, hb]
 exact h
theorem st_appendArr (hg : o.guard = none) (s x : Operand) (ty : TypeId) (ho : o.op = .call { callee := .builtin .append, args := #[s, x], argTypes := #[ty, ty] })
  (base : Nat) (e : TypeId) (i : TypeInfo) (z : Value) (bytes : Nat) (ht : P.underlying ty = some (.slice e)) (hi : P.info? e = some i) (hz : i.zero = some z)
  (hsize : i.size = 1) (hby : i.bytes = bytes) (hzs : z.cells.size = 1) (k : IntKind) {p : Option Addr} {c : Nat} {xs : List Int}
  (hs : a.eval s = .slice none 0 0) (hx : a.eval x = .slice p xs.length c) (hp : p = none → c = 0) (hA : Arr k w p xs)
  (hbytes : xs.length * (bytes + 1) ≤ 140737488355328) (hbase : base ≤ w.heap.size)
  (h : ∀ v' w', w'.ownsRow base e 1 v' xs.length (xs.map (.int k)) → Below w.heap.size w w' → (∀ b, v'.ownBlock = some b → w.heap.size ≤ b) → K (a.put o.dst v') w') : if Region.wanted o t = true then o.wp P a w K Q else X := by
 have hown : w.ownsRow base e 1 (.slice none 0 0) 0 [] := World.ownsRow_nil _ _ _ _
 rcases p with _ | ad
 ·rcases hA with rfl | ⟨b, o', e', _⟩
  ·rw [hp rfl] at hx
   refine st_wp hg ?_
   have hr := run_append_owned_none (P := P) (w := w) base ty o.type e i 1 ht hi (.slice none 0 0) 0 [] hown
   unfold Oper.wp execOp
   have hx' : a.eval x = .slice none 0 0 := hx
   simp only [ho, resolve, invoke, builtin, Sem.run_bind, Sem.run_pure, Result.andThen_ok, List.map_toArray, List.map_cons, List.map_nil, hs, hx', hr]
   exact h _ _ hown (Below.refl _ _) (fun b e => by cases e)
  ·cases e'
 ·refine st_append hg s x ty ho base e i z 1 bytes ht hi hz hsize hby hzs (by decide) _ 0 [] hs hown ad xs.length c (xs.map (.int k)) hx (by simp) ?_ ?_ (by rw [Nat.zero_add]; exact hbytes) hbase ?_
  ·intro j u hu
   have hj : j < xs.length := by have := (List.getElem?_eq_some_iff.1 hu).1; simpa using this
   obtain ⟨b, o', e', hb, hc⟩ := hA.at (i := j) hj
   injection e' with e'
   subst e'
   rw [Addr.add_lit, hc j hj]
   simp [hj] at hu ⊢
   exact hu
  ·intro u hu
   obtain ⟨y, _, rfl⟩ := List.mem_map.1 hu
   rfl
  ·intro v' w' h1 h2 h3
   refine h v' w' (by simpa using h1) ((Below.refl w.heap.size w).grown h2 (Nat.le_refl _) (fun j e => by cases e)) (fun b e => ?_)
   rcases h3 with h3 | h3
   ·rw [h3] at e; cases e
   ·rw [h3] at e; injection e with e; omega
theorem gd (hw : Region.wanted o t = true) (h : if Region.wanted { o with guard := none } t = true then ({ o with guard := none } : Oper).wp P a w K Q else X) : if Region.wanted o t = true then o.wp P a w K Q else X := by
 rw [if_pos hw]
 rw [if_pos (show Region.wanted { o with guard := none } t = true from rfl)] at h
 exact h
theorem st_convert (hg : o.guard = none) (f1 t1 : TypeId) (x : Operand) (ho : o.op = .convert f1 t1 x) {v u : Value} (hx : a.eval x = v) (hr : (convert f1 t1 v).run P w = .ok u w) (h : K (a.put o.dst u) w) : if Region.wanted o t = true then o.wp P a w K Q else X := by
 refine st_wp hg ?_
 unfold Oper.wp execOp
 simp only [ho, hx, Sem.run_bind, hr, Result.andThen_ok, Sem.run_pure]
 exact h
theorem st_pickT (hg : o.guard = none) (c x y : Operand) (ho : o.op = .pick c x y) {v : Value} (hc : a.eval c = .bool true) (hx : a.eval x = v) (h : K (a.put o.dst v) w) : if Region.wanted o t = true then o.wp P a w K Q else X := by
 refine st_wp hg ?_
 unfold Oper.wp execOp
 simp only [ho, hc, asBool, hx, Sem.run_bind, Sem.run_pure, Result.andThen_ok, if_true]
 exact h
theorem st_bin (hg : o.guard = none) (b : BinOp) (t1 t2 : TypeId) (x y : Operand) (ho : o.op = .binOp b t1 x y t2) {v1 v2 u : Value} (hx : a.eval x = v1) (hy : a.eval y = v2) (hq : (eqGuard b t1 x y v1 v2).run P w = .ok () w) (hr : (binOp b t1 v1 v2).run P w = .ok u w) (h : K (a.put o.dst u) w) : if Region.wanted o t = true then o.wp P a w K Q else X := by
 refine st_wp hg ?_
 unfold Oper.wp execOp
 simp only [ho, hx, hy, hq, hr, Sem.run_bind, Sem.run_pure, Result.andThen_ok]
 exact h
theorem st_index (hg : o.guard = none) (ty : TypeId) (x y : Operand) (ho : o.op = .indexAddr ty x y) {v u r : Value} (hx : a.eval x = v) (hy : a.eval y = u) (hr : (Instr.indexAt ty v u).run P w = .ok r w) (h : K (a.put o.dst r) w) : if Region.wanted o t = true then o.wp P a w K Q else X := by
 refine st_wp hg ?_
 unfold Oper.wp execOp
 simp only [ho, hx, hy, Sem.run_bind, hr, Result.andThen_ok, Sem.run_pure]
 exact h
theorem st_call3 (hg : o.guard = none) (fid : Nat) (x y z : Operand) (ts : Array TypeId) (ho : o.op = .call { callee := .value (.func fid), args := #[x, y, z], argTypes := ts }) {v u r : Value} (hx : a.eval x = v) (hy : a.eval y = u) (hz : a.eval z = r)
  (he : ∀ args w, (callFunc fid args).run P w = .ok (.enter fid args) w) {R : Ending → World → Prop} (hc : Calls P fid #[v, u, r] w R) (hret : ∀ u w', R (.returned u) w' → K (a.put o.dst u) w') (hpan : ∀ ch w', R (.panicked ch) w' → Q (.panic ch) a w') (hout : ∀ w', ¬ R .outgrown w') :
  if Region.wanted o t = true then o.wp P a w K Q else X := by
 refine st_wp hg ?_
 have hr : (execOp a.eval o).run P w = .ok (.enter fid #[v, u, r]) w := by
  have hf : a.eval (.func fid) = .func (.func fid) #[] #[] := rfl
  unfold execOp
  simp [ho, resolve, hf, hx, hy, hz, Deferred.ofValue, invoke, he]
 unfold Oper.wp
 rw [hr, Oper.upon_enter]
 refine hc.mono ?_
 intro e w' h
 cases e with
 | returned u => exact hret u w' h
 | panicked ch => exact hpan ch w' h
 | outgrown => exact absurd h (hout w')
theorem st_unop (hg : o.guard = none) (p1 : UnOp) (ty : TypeId) (x : Operand) (ho : o.op = .unOp p1 ty x) {v u : Value} (hx : a.eval x = v) (hr : (Op.unary p1 v).run P w = .ok u w) (h : K (a.put o.dst u) w) : if Region.wanted o t = true then o.wp P a w K Q else X := by
 refine st_wp hg ?_
 unfold Oper.wp execOp
 simp only [ho, hx, Sem.run_bind, hr, Result.andThen_ok, Sem.run_pure]
 exact h
theorem st_pickF (hg : o.guard = none) (c x y : Operand) (ho : o.op = .pick c x y) {v : Value} (hc : a.eval c = .bool false) (hx : a.eval y = v) (h : K (a.put o.dst v) w) : if Region.wanted o t = true then o.wp P a w K Q else X := by
 refine st_wp hg ?_
 unfold Oper.wp execOp
 simp only [ho, hc, asBool, hx, Sem.run_bind, Sem.run_pure, Result.andThen_ok, Bool.false_eq_true, if_false]
 exact h
theorem skip_gd (hw : Region.wanted o t = false) (h : X) : if Region.wanted o t = true then o.wp P a w K Q else X := by
 rw [if_neg (by rw [hw]; simp)]; exact h
theorem st_len (hg : o.guard = none) (x : Operand) (ty : TypeId) (ho : o.op = .call { callee := .builtin .len, args := #[x], argTypes := #[ty] }) {e : TypeId} (ht : P.underlying ty = some (.slice e)) {p : Option Addr} {n c : Nat} (hx : a.eval x = .slice p n c) (h : K (a.put o.dst (.int .i64 n)) w) : if Region.wanted o t = true then o.wp P a w K Q else X := by
 refine st_wp hg ?_
 unfold Oper.wp execOp
 simp only [ho, resolve, invoke, builtin, Sem.run_bind, Sem.run_pure, Result.andThen_ok, List.map_toArray, List.map_cons, List.map_nil, hx, Builtin.len_, List.getElem?_toArray, List.getElem?_cons_zero, run_underlying ht, goInt]
 exact h
end ops
theorem wanted_of {o : Oper} {ops : Array Oper} {ds : List (Option Tmp)} {f : Nat → Value} {a : Act} (hok : dstsOk ds = true) (j : Nat) (want : Bool) (tm : Tmp) (hgu : o.guard = some (j, want)) (hd : (ops[j]?).bind (·.dst) = some tm) (hi : ds[j]? = some (some tm)) (hs : tm < a.tmps.size) (hf : f j = .bool want) :
  Region.wanted o (yielded ops (putL ds f 0 a).tmps) = true := by
 have h1 := slot_in (f := f) hok j hi hs hf
 have h2 : (putL ds f 0 a).tmps[tm]? = some (.bool want) := by
  rw [Array.getD_eq_getD_getElem?] at h1
  rcases h : (putL ds f 0 a).tmps[tm]? with _ | u
  ·rw [h] at h1; cases h1
  ·rw [h] at h1; exact congrArg some h1
 have hd' : (Option.bind (ops[j]?) fun x => x.dst) = some tm := hd
 have hy : yielded ops (putL ds f 0 a).tmps j = some want := by
  unfold yielded
  rw [hd', Option.bind_some, h2]
 unfold Region.wanted
 rw [hgu]
 simp only [hy, beq_self_eq_true]
theorem unwanted_of {o : Oper} {ops : Array Oper} {ds : List (Option Tmp)} {f : Nat → Value} {a : Act} (hok : dstsOk ds = true) (j : Nat) (want b : Bool) (tm : Tmp) (hgu : o.guard = some (j, want)) (hd : (ops[j]?).bind (·.dst) = some tm) (hi : ds[j]? = some (some tm)) (hs : tm < a.tmps.size) (hf : f j = .bool b) (hb : b ≠ want) :
  Region.wanted o (yielded ops (putL ds f 0 a).tmps) = false := by
 have h1 := slot_in (f := f) hok j hi hs hf
 have h2 : (putL ds f 0 a).tmps[tm]? = some (.bool b) := by
  rw [Array.getD_eq_getD_getElem?] at h1
  rcases h : (putL ds f 0 a).tmps[tm]? with _ | u
  ·rw [h] at h1; cases h1
  ·rw [h] at h1; exact congrArg some h1
 have hd' : (Option.bind (ops[j]?) fun x => x.dst) = some tm := hd
 have hy : yielded ops (putL ds f 0 a).tmps j = some b := by
  unfold yielded
  rw [hd', Option.bind_some, h2]
 unfold Region.wanted
 rw [hgu]
 simp only [hy]
 cases b <;> cases want <;> simp_all
theorem uw {o : Oper} {ops : Array Oper} {ds : List (Option Tmp)} {f : Nat → Value} {a : Act} {i j : Nat} {want b : Bool} {tm : Tmp} (ho : ops[i]? = some o) (hf : f j = .bool b) (hgu : (ops[i]?).map (·.guard) = some (some (j, want)) := by rfl) (hd : (ops[j]?).bind (·.dst) = some tm := by rfl) (hok : dstsOk ds = true := by rfl) (hi : ds[j]? = some (some tm) := by rfl) (hs : tm < a.tmps.size := by simp) (hb : b ≠ want := by decide) :
  Region.wanted o (yielded ops (putL ds f 0 a).tmps) = false := unwanted_of hok j want b tm (og ho hgu) hd hi hs hf hb
theorem wo {o : Oper} {ops : Array Oper} {ds : List (Option Tmp)} {f : Nat → Value} {a : Act} {i j : Nat} {want : Bool} {tm : Tmp} (ho : ops[i]? = some o) (hf : f j = .bool want) (hgu : (ops[i]?).map (·.guard) = some (some (j, want)) := by rfl) (hd : (ops[j]?).bind (·.dst) = some tm := by rfl) (hok : dstsOk ds = true := by rfl) (hi : ds[j]? = some (some tm) := by rfl) (hs : tm < a.tmps.size := by simp) :
  Region.wanted o (yielded ops (putL ds f 0 a).tmps) = true := wanted_of hok j want tm (og ho hgu) hd hi hs hf
theorem not4 (b : Bool) (W : World) : (Op.unary .not (.bool b)).run Tryz.prog W = .ok (.bool (!b)) W := by simp [go_sem]
theorem bin_sub (x y : Int) (W : World) : (binOp .sub 3 (.int .i64 x) (.int .i64 y)).run Tryz.prog W = .ok (.int .i64 (IntKind.i64.wrap (x - y))) W := by simp [go_sem]
theorem bin_add (x y : Int) (W : World) : (binOp .add 3 (.int .i64 x) (.int .i64 y)).run Tryz.prog W = .ok (.int .i64 (IntKind.i64.wrap (x + y))) W := by simp [go_sem]
theorem bin_mul (x y : Int) (W : World) : (binOp .mul 3 (.int .i64 x) (.int .i64 y)).run Tryz.prog W = .ok (.int .i64 (IntKind.i64.wrap (x * y))) W := by simp [go_sem]
theorem bin_neq (x y : Int) (W : World) : (binOp .neq 3 (.int .i64 x) (.int .i64 y)).run Tryz.prog W = .ok (.bool (x != y)) W := by simp [go_sem]
theorem bin_gtr (x y : Int) (W : World) : (binOp .gtr 3 (.int .i64 x) (.int .i64 y)).run Tryz.prog W = .ok (.bool (decide (y < x))) W := by simp [go_sem]
theorem bin64_or (x y : Int) (W : World) : (binOp .or 64 (.int .u64 x) (.int .u64 y)).run Tryz.prog W = .ok (.int .u64 (bits .or .u64 x y)) W := by simp [go_sem]
theorem gu_i (b : BinOp) (t : TypeId) (x y : Operand) (k : IntKind) (u v : Int) (W : World) : (eqGuard b t x y (.int k u) (.int k v)).run Tryz.prog W = .ok () W := by
 unfold eqGuard; cases b <;> simp [go_sem]
set_option maxRecDepth 100000 in
theorem board_any (f r : Int) (p : Option Addr) (c : Nat) (xs : List Int) (w : World) (hx : Arr .i8 w p xs) :
  Calls Tryz.prog 73 #[.agg (bdCs f r p xs.length c).toArray] w fun e w' => e = .returned (.bool (boardB f r xs)) ∧ Below w.heap.size w w' := by
 have hb := below_box w (.cells (bdCs f r p xs.length c).toArray 68)
 have hA := HasO.new w (.cells (bdCs f r p xs.length c).toArray 68)
 go_enter Tryz.func73, Tryz.ntmps73
 go_wp2_with fail
 refine (sqCount_any f r _).mono ?_
 rintro e w1 ⟨rfl, hb1⟩
 have hb' := below_call hb hb.size hb1
 have hA1 := hA.call hb1
 have hc1 := hA1.cells
 have hl1 := hA1.lt
 rcases hs : sizeB f r with _ | _
 ·have e0 := Lib.hid (boardB_false (xs := xs) hs)
  have e2 : sqCntE f r = (0, 2) := by simp [sqCntE, hs]
  rw [e2]
  go_wp2_with fail
  go_ret
  exact ⟨by rw [e0.out]; rfl, hb'⟩
 ·have hm := size_mul hs
  have e2 : sqCntE f r = (f * r, 0) := by simp [sqCntE, hs]
  rw [e2]
  by_cases hlen : (xs.length : Int) = f * r
  ·have hlen64 : xs.length ≤ 64 := by omega
   have hx1 := hx.call hb'
   have hb2 : (((xs.length : Int)) == f * r) = true := by rw [hlen]; simp
   clear e2
   replace hlen := Lib.hid hlen
   replace hs := Lib.hid hs
   clear hb1 hA hb hx
   go_wp2_with fail
   refine (hasFunc_any 134 badP15 (fun _ _ => rfl) badP15_any p c xs w1 hx1 (by omega)).mono ?_
   rintro e w2 ⟨rfl, hb3⟩
   have e0 : Hid (boardB f r xs = !xs.any badP15) := Lib.hid (by
    have : (!xs.any badP15) = xs.all pOk := by
     rw [List.any_eq_not_all_not]; simp [badP15]
    rw [this]; simp [boardB, hs.out, hlen.out])
   go_wp2_with fail
   go_ret
   exact ⟨ret_bool e0.out.symm, below_call hb' hb'.size hb3⟩
  ·have e0 := Lib.hid (boardB_len hlen)
   have hb2 : (((xs.length : Int)) == f * r) = false := by simp [hlen]
   clear e2
   replace hs := Lib.hid hs
   clear hb1 hA hb hx
   go_wp2_with fail
   go_ret
   exact ⟨by rw [e0.out]; rfl, hb'⟩
set_option maxRecDepth 100000 in
theorem orthodox_any (f r : Int) (p : Option Addr) (c : Nat) (xs : List Int) (w : World) (hx : Arr .i8 w p xs) :
  Calls Tryz.prog 123 #[.agg (bdCs f r p xs.length c).toArray] w fun e w' => e = .returned (.bool (orthB f r xs)) ∧ Below w.heap.size w w' := by
 have hb := below_box w (.cells (bdCs f r p xs.length c).toArray 68)
 have hA := HasO.new w (.cells (bdCs f r p xs.length c).toArray 68)
 have hc0 := hA.cells
 have hl0 := hA.lt
 go_enter Tryz.func123, Tryz.ntmps123
 go_wp2_with fail
 refine (board_any f r p c xs _ (hx.call hb)).mono ?_
 rintro e w1 ⟨rfl, hb1⟩
 have hb' := below_call hb hb.size hb1
 have hA1 := hA.call hb1
 have hc1 := hA1.cells
 have hl1 := hA1.lt
 rcases hs : boardB f r xs with _ | _
 ·have e0 : Hid (orthB f r xs = false) := Lib.hid (by simp [orthB, hs])
  go_wp2_with fail
  go_ret
  exact ⟨by rw [e0.out]; rfl, hb'⟩
 ·obtain ⟨hs1, hlen, hall⟩ := boardB_fact hs
  have hm := size_mul hs1
  have hlen64 : xs.length ≤ 64 := by omega
  have hx1 := hx.call hb'
  clear hb1 hA hb hx hc0 hl0 hs1 hlen hm hall
  go_wp2_with fail
  refine (hasFunc_any 173 badO (fun _ _ => rfl) badO_any p c xs w1 hx1 (by omega)).mono ?_
  rintro e w2 ⟨rfl, hb3⟩
  have e0 : Hid (orthB f r xs = !xs.any badO) := Lib.hid (by
   have : (!xs.any badO) = xs.all orB := by
    rw [List.any_eq_not_all_not]; simp [badO_or]
   rw [this]; simp [orthB, hs])
  go_wp2_with fail
  go_ret
  exact ⟨ret_bool e0.out.symm, below_call hb' hb'.size hb3⟩
abbrev posCs (f r : Int) (p : Option Addr) (n c : Nat) (bl : Bool) (ca pa ha fu : Int) : List Value := [.int .i64 f, .int .i64 r, .slice p n c, .bool bl, .int .u8 ca, .int .i64 pa, .int .i64 ha, .int .i64 fu]
theorem refOf_any (f r ca pa ha fu : Int) (bl : Bool) (p : Option Addr) (n c : Nat) (w : World) :
  Calls Tryz.prog 35 #[.agg (posCs f r p n c bl ca pa ha fu).toArray] w fun e w' => e = .returned (.agg (bdCs f r p n c).toArray) ∧ Below w.heap.size w w' := by
 have hA := HasO.new w (.cells (posCs f r p n c bl ca pa ha fu).toArray 26)
 have hB := hA.alloc (.cells #[.int .i64 0, .int .i64 0, .slice none 0 0] 68)
 have hC := HasO.new' (w.alloc (.cells (posCs f r p n c bl ca pa ha fu).toArray 26)) (.cells #[.int .i64 0, .int .i64 0, .slice none 0 0] 68) (q := w.heap.size + 1) (by simp)
 have hD := HasO.new' (w.alloc (.cells (posCs f r p n c bl ca pa ha fu).toArray 26)) (.cells (bdCs f r p n c).toArray 68) (q := w.heap.size + 1) (by simp)
 have hb := (below_box w (.cells (posCs f r p n c bl ca pa ha fu).toArray 26)).alloc (by simp) (.cells (bdCs f r p n c).toArray 68)
 have hc0 := hB.cells
 have hl0 := hB.lt
 have hl1 := hC.lt
 go_enter Tryz.func35, Tryz.ntmps35
 go_wp2_with fail
 refine bodyPost_ret (results_cell (fn := Tryz.f35) Tryz.results35 rfl hD (by kernel_rfl)) rfl ?_
 exact ⟨rfl, hb⟩

def setW (g : Int → Bool) (xs : List Int) : Nat → Nat
 | 0 => 0
 | k + 1 => if g (xs[k]?.getD 0) then setW g xs k ||| 2 ^ k else setW g xs k
theorem setW_lt (g : Int → Bool) (xs : List Int) {k : Nat} (hk : k ≤ 64) : setW g xs k < 18446744073709551616 := by
 have h : ∀ k, setW g xs k < 2 ^ k := by
  intro k
  induction k with
  | zero => simp [setW]
  | succ k ih =>
   have h2 : setW g xs k < 2 ^ (k + 1) := Nat.lt_of_lt_of_le ih (Nat.pow_le_pow_right (by decide) (by omega))
   simp only [setW]
   split
   ·exact Nat.or_lt_two_pow h2 (Nat.pow_lt_pow_right (by decide) (by omega))
   ·exact h2
 exact Nat.lt_of_lt_of_le (h k) (Nat.pow_le_pow_right (n := 2) (by decide) hk)
theorem setW_bit (g : Int → Bool) (xs : List Int) (k i : Nat) : (setW g xs k).testBit i = (decide (i < k) && g (xs[i]?.getD 0)) := by
 induction k with
 | zero => simp [setW]
 | succ k ih =>
  simp only [setW]
  by_cases hg : g (xs[k]?.getD 0) = true
  ·rw [if_pos hg, Nat.testBit_or, ih, Nat.testBit_two_pow]
   by_cases e : k = i
   ·subst e; simp [hg]
   ·have : decide (i < k + 1) = decide (i < k) := by congr 1; simp; omega
    simp [e, this]
  ·rw [if_neg hg, ih]
   by_cases e : k = i
   ·subst e; simp [hg]
   ·have : decide (i < k + 1) = decide (i < k) := by congr 1; simp; omega
    rw [this]
theorem u64_pow {i : Nat} (hi : i < 64) : IntKind.u64.wrap (2 ^ i) = ((2 ^ i : Nat) : Int) := by
 have h : (2 ^ i : Nat) < 18446744073709551616 := Nat.pow_lt_pow_right (n := 64) (by decide) hi
 have h2 : ((2 : Int) ^ i) = ((2 ^ i : Nat) : Int) := by simp
 obtain ⟨n, hn⟩ : ∃ n : Nat, n = 2 ^ i := ⟨_, rfl⟩
 rw [h2, ← hn]
 rw [← hn] at h
 simp only [IntKind.wrap, IntKind.bits, IntKind.signed]
 simp
 omega
theorem or_bit {a i : Nat} (ha : a < 18446744073709551616) (hi : i < 64) : bits .or .u64 (a : Int) (IntKind.u64.wrap (2 ^ i)) = ((a ||| 2 ^ i : Nat) : Int) := by
 have h : (2 ^ i : Nat) < 18446744073709551616 := Nat.pow_lt_pow_right (n := 64) (by decide) hi
 rw [u64_pow hi, u64_or_nat _ _ ha h]
def whR (w : World) (g : Int → Bool) (xs : List Int) (i : Nat) (sv iv : Value) (wr : World) : Prop :=
 i ≤ xs.length ∧ iv = .int .i64 i ∧ sv = .int .u64 (setW g xs i : Nat) ∧ Below w.heap.size w wr
set_option maxRecDepth 100000 in
theorem where_any (fn : Nat) (g : Int → Bool) (hcf : ∀ args w, (callFunc fn args).run Tryz.prog w = .ok (.enter fn args) w) (hf : ∀ x w, Calls Tryz.prog fn #[.int .i8 x] w fun e w' => e = .returned (.bool (g x)) ∧ w = w')
  (f r : Int) (p : Option Addr) (c : Nat) (xs : List Int) (w : World) (hx : Arr .i8 w p xs) (hl : xs.length ≤ 64) :
  Calls Tryz.prog 83 #[.agg (bdCs f r p xs.length c).toArray, .func (.func fn) #[] #[]] w fun e w' => e = .returned (.int .u64 (setW g xs xs.length : Nat)) ∧ Below w.heap.size w w' := by
 have hb := below_box w (.cells (bdCs f r p xs.length c).toArray 68)
 have hA := HasO.new w (.cells (bdCs f r p xs.length c).toArray 68)
 have hc0 := hA.cells
 have hl0 := hA.lt
 go_enter Tryz.func83, Tryz.ntmps83
 go_wp2_with fail
 go_loopg [5, 11] 65 (fun q sv iv wr => ∃ i : Nat, q + i = 65 ∧ whR w g xs i sv iv wr)
 case atStart => exact ⟨0, rfl, Nat.zero_le _, rfl, rfl, hb⟩
 case round =>
  obtain ⟨i, hq, hi, rfl, rfl, hbr⟩ := hrel
  by_cases hlt : i < xs.length
  ·have hii : (i : Int) < xs.length := by omega
   obtain ⟨b, o, rfl, hbl, hc⟩ := (hx.call hbr).at hlt
   have hci := hc i hlt
   obtain ⟨x, hxv⟩ : ∃ x, x = xs[i]?.getD 0 := ⟨_, rfl⟩
   rw [← hxv] at hci
   replace hxv := Lib.hid hxv
   clear hc hc0
   go_wp2_with fail
   refine (hf _ _).mono ?_
   rintro e w1 ⟨rfl, rfl⟩
   rcases hbd : g x with _ | _
   ·go_wp2_with fail
    go_roundg (gk - 1)
    case measure => omega
    case rel => exact ⟨i + 1, by omega, by omega, by go_num, by simp only [setW, ← hxv.out, hbd]; rfl, hbr⟩
   ·have hi64 : i < 64 := by omega
    go_wp2_with fail
    go_roundg (gk - 1)
    case measure => omega
    case rel => exact ⟨i + 1, by omega, by omega, by go_num, by rw [or_bit (setW_lt g xs (by omega)) hi64]; simp only [setW, ← hxv.out, hbd]; rfl, hbr⟩
  ·have hii : ¬ (i : Int) < xs.length := by omega
   obtain rfl : i = xs.length := by omega
   go_wp2_with fail
   go_ret
   exact ⟨rfl, hbr⟩
def gPos (x : Int) : Bool := decide (0 < x)
def gNeg (x : Int) : Bool := decide (x < 0)
def gNon (x : Int) : Bool := !decide (x = 0)
theorem gPos_any (x : Int) (w : World) : Calls Tryz.prog 84 #[.int .i8 x] w fun e w' => e = .returned (.bool (gPos x)) ∧ w = w' := by
 go_enter Tryz.func84, Tryz.ntmps84
 go_wp2_with fail
 go_ret
 exact ⟨rfl, rfl⟩
theorem gNeg_any (x : Int) (w : World) : Calls Tryz.prog 85 #[.int .i8 x] w fun e w' => e = .returned (.bool (gNeg x)) ∧ w = w' := by
 go_enter Tryz.func85, Tryz.ntmps85
 go_wp2_with fail
 go_ret
 exact ⟨rfl, rfl⟩
theorem setW_or (xs : List Int) (k : Nat) : setW gPos xs k ||| setW gNeg xs k = setW gNon xs k := by
 apply Nat.eq_of_testBit_eq
 intro i
 rw [Nat.testBit_or, setW_bit, setW_bit, setW_bit]
 by_cases h : i < k
 ·simp only [h, decide_true, Bool.true_and, gPos, gNeg, gNon]
  by_cases h1 : xs[i]?.getD 0 = 0
  ·simp [h1]
  ·by_cases h2 : 0 < xs[i]?.getD 0
   ·simp [h1, h2]
   ·have : xs[i]?.getD 0 < 0 := by omega
    simp [h1, this]
 ·simp [h]
set_option maxRecDepth 100000 in
theorem sides_any (f r : Int) (p : Option Addr) (c : Nat) (xs : List Int) (w : World) (hx : Arr .i8 w p xs) (hok : boardB f r xs = true) :
  Calls Tryz.prog 28 #[.agg (bdCs f r p xs.length c).toArray] w fun e w' => e = .returned (.tuple #[.int .u64 (setW gPos xs xs.length : Nat), .int .u64 (setW gNeg xs xs.length : Nat), .int .i64 0]) ∧ Below w.heap.size w w' := by
 obtain ⟨hs1, hlen, _⟩ := boardB_fact hok
 have hm := size_mul hs1
 have hl : xs.length ≤ 64 := by omega
 have hb := below_box w (.cells (bdCs f r p xs.length c).toArray 68)
 have hA := HasO.new w (.cells (bdCs f r p xs.length c).toArray 68)
 have hc0 := hA.cells
 have hl0 := hA.lt
 clear hs1 hlen hm
 go_enter Tryz.func28, Tryz.ntmps28
 go_wp2_with fail
 refine (board_any f r p c xs _ (hx.call hb)).mono ?_
 rintro e w1 ⟨rfl, hb1⟩
 have hb' := below_call hb hb.size hb1
 have hx1 := hx.call hb'
 have hA1 := hA.call hb1
 clear hb1 hA hb hx hc0 hl0
 rw [hok]
 go_wp2_with fail
 refine wp_region_valsL (by kernel_rfl) (by kernel_rfl) [some 8, some 9, some 10, some 11, some 2, some 3, some 4] (by rfl) (by rfl) (fun i => match i with | 0 => .agg (bdCs f r p xs.length c).toArray | 1 => .int .u64 (setW gPos xs xs.length : Nat) | 2 => .agg (bdCs f r p xs.length c).toArray | 3 => .int .u64 (setW gNeg xs xs.length : Nat) | 4 => .int .u64 (setW gPos xs xs.length : Nat) | 5 => .int .u64 (setW gNeg xs xs.length : Nat) | 6 => .int .i64 0 | _ => undef) (fun W => Below w1.heap.size w1 W) (Below.refl _ _).drew ?hstep ?hend
 case hstep =>
  intro i9 o9 f9 W ho hi hC hf K hK
  have hi : i9 < 7 := hi
  rcases i9 with _ | _ | _ | _ | _ | _ | _ | i9
  ·exact st_loadA (og ho) 68 (.tmp 1) (oo ho) (rd_out rfl rfl) (bdCs f r p xs.length c) (by kernel_rfl) (fun j v hv => by rw [Nat.zero_add, (hA1.call hC).cells j]; simpa using hv) (hK _ hC)
  ·exact st_call2 (og ho) 83 (.tmp 8) (.func 84) #[68, 117] (oo ho) (ri 0 (da ho hf 0)) rfl (fun _ _ => rfl) (where_any 84 gPos (fun _ _ => rfl) gPos_any f r p c xs W (hx1.call hC) hl) (by rintro u w9 ⟨h9, hb9⟩; injection h9 with h9; subst h9; exact hK _ (below_call hC hC.size hb9)) (fun _ _ h => nomatch h.1) (fun _ h => nomatch h.1)
  ·exact st_loadA (og ho) 68 (.tmp 1) (oo ho) (rd_out rfl rfl) (bdCs f r p xs.length c) (by kernel_rfl) (fun j v hv => by rw [Nat.zero_add, (hA1.call hC).cells j]; simpa using hv) (hK _ hC)
  ·exact st_call2 (og ho) 83 (.tmp 10) (.func 85) #[68, 117] (oo ho) (ri 2 (da ho hf 2)) rfl (fun _ _ => rfl) (where_any 85 gNeg (fun _ _ => rfl) gNeg_any f r p c xs W (hx1.call hC) hl) (by rintro u w9 ⟨h9, hb9⟩; injection h9 with h9; subst h9; exact hK _ (below_call hC hC.size hb9)) (fun _ _ h => nomatch h.1) (fun _ h => nomatch h.1)
  ·exact st_assign (og ho) (.tmp 9) (oo ho) (ri 1 (da ho hf 1)) (hK _ hC)
  ·exact st_assign (og ho) (.tmp 11) (oo ho) (ri 3 (da ho hf 3)) (hK _ hC)
  ·exact st_assign (og ho) (.const (.int .i64 0)) (oo ho) rfl (hK _ hC)
  ·omega
 case hend =>
  intro W hC
  go_wp2_with fail
  refine bodyPost_ret (results_tmp3 (fn := Tryz.f28) Tryz.results28 _ _ _) (by rw [putL_defers]) ?_
  refine ⟨?_, below_call hb' hb'.size hC⟩
  rw [slot_in rfl 4 rfl (by simp) rfl, slot_in rfl 5 rfl (by simp) rfl, slot_in rfl 6 rfl (by simp) rfl]
  rfl
end Go.Proofs.YtefmplccbkmalaaGreatDoor
