import Derived.Test.YtddkhnnpeonbgaaW40
import Derived.Test.YtddkhnnpeonbgaaW36
import Derived.Laws.OwnMore
namespace Go.Proofs.Ytddkhnnpeonbgaa
open Go.RowKit

section ops
variable {P : Program} {o : Oper} {a : Act} {w : World} {K : Act → World → Prop} {Q : Exit → Act → World → Prop} {t : Nat → Option Bool} {X : Prop}
/-- append of a whole slice onto nil -/
theorem st_appendArr (hg : o.guard = none) (s x : Operand) (ty : TypeId) (ho : o.op = .call { callee := .builtin .append, args := #[s, x], argTypes := #[ty, ty] })
    (base : Nat) (e : TypeId) (i : TypeInfo) (z : Value) (bytes : Nat) (ht : P.underlying ty = some (.slice e)) (hi : P.info? e = some i) (hz : i.zero = some z)
    (hsize : i.size = 1) (hby : i.bytes = bytes) (hzs : z.cells.size = 1) (k : IntKind) {p : Option Addr} {c : Nat} {xs : List Int}
    (hs : a.eval s = .slice none 0 0) (hx : a.eval x = .slice p xs.length c) (hp : p = none → c = 0) (hA : Arr k w p xs)
    (hbytes : xs.length * (bytes + 1) ≤ 140737488355328) (hbase : base ≤ w.heap.size)
    (h : ∀ v' w', w'.ownsRow base e 1 v' xs.length (xs.map (.int k)) → Below w.heap.size w w' → (∀ b, v'.ownBlock = some b → w.heap.size ≤ b) → K (a.put o.dst v') w') : if Region.wanted o t = true then o.wp P a w K Q else X := by
  have hown : w.ownsRow base e 1 (.slice none 0 0) 0 [] := World.ownsRow_nil _ _ _ _
  rcases p with _ | ad
  · rcases hA with rfl | ⟨b, o', e', _⟩
    · rw [hp rfl] at hx
      refine st_wp hg ?_
      have hr := run_append_owned_none (P := P) (w := w) base ty o.type e i 1 ht hi (.slice none 0 0) 0 [] hown
      unfold Oper.wp execOp
      have hx' : a.eval x = .slice none 0 0 := hx
      simp only [ho, resolve, invoke, builtin, Sem.run_bind, Sem.run_pure, Result.andThen_ok, List.map_toArray, List.map_cons, List.map_nil, hs, hx', hr]
      exact h _ _ hown (Below.refl _ _) (fun b e => by cases e)
    · cases e'
  · refine st_append hg s x ty ho base e i z 1 bytes ht hi hz hsize hby hzs (by decide) _ 0 [] hs hown ad xs.length c (xs.map (.int k)) hx (by simp) ?_ ?_ (by rw [Nat.zero_add]; exact hbytes) hbase ?_
    · intro j u hu
      have hj : j < xs.length := by have := (List.getElem?_eq_some_iff.1 hu).1; simpa using this
      obtain ⟨b, o', e', hb, hc⟩ := hA.at (i := j) hj
      injection e' with e'
      subst e'
      rw [Addr.add_lit, hc j hj]
      simp [hj] at hu ⊢
      exact hu
    · intro u hu
      obtain ⟨y, _, rfl⟩ := List.mem_map.1 hu
      rfl
    · intro v' w' h1 h2 h3
      refine h v' w' (by simpa using h1) ((Below.refl w.heap.size w).grown h2 (Nat.le_refl _) (fun j e => by cases e)) (fun b e => ?_)
      rcases h3 with h3 | h3
      · rw [h3] at e; cases e
      · rw [h3] at e; injection e with e; omega
theorem gd (hw : Region.wanted o t = true) (h : if Region.wanted { o with guard := none } t = true then ({ o with guard := none } : Oper).wp P a w K Q else X) : if Region.wanted o t = true then o.wp P a w K Q else X := by
  rw [if_pos hw]
  rw [if_pos (show Region.wanted { o with guard := none } t = true from rfl)] at h
  exact h
theorem st_convert (hg : o.guard = none) (f1 t1 : TypeId) (x : Operand) (ho : o.op = .convert f1 t1 x) {v u : Value} (hx : a.eval x = v) (hr : (convert f1 t1 v).run P w = .ok u w) (h : K (a.put o.dst u) w) : if Region.wanted o t = true then o.wp P a w K Q else X := by
  refine st_wp hg ?_
  unfold Oper.wp execOp
  simp only [ho, hx, Sem.run_bind, hr, Result.andThen_ok, Sem.run_pure]
  exact h
theorem st_pickT (hg : o.guard = none) (c x y : Operand) (ho : o.op = .pick c x y) {v : Value} (hc : a.eval c = .bool true) (hx : a.eval x = v) (h : K (a.put o.dst v) w) : if Region.wanted o t = true then o.wp P a w K Q else X := by
  refine st_wp hg ?_
  unfold Oper.wp execOp
  simp only [ho, hc, asBool, hx, Sem.run_bind, Sem.run_pure, Result.andThen_ok, if_true]
  exact h
theorem st_bin (hg : o.guard = none) (b : BinOp) (t1 t2 : TypeId) (x y : Operand) (ho : o.op = .binOp b t1 x y t2) {v1 v2 u : Value} (hx : a.eval x = v1) (hy : a.eval y = v2) (hq : (eqGuard b t1 x y v1 v2).run P w = .ok () w) (hr : (binOp b t1 v1 v2).run P w = .ok u w) (h : K (a.put o.dst u) w) : if Region.wanted o t = true then o.wp P a w K Q else X := by
  refine st_wp hg ?_
  unfold Oper.wp execOp
  simp only [ho, hx, hy, hq, hr, Sem.run_bind, Sem.run_pure, Result.andThen_ok]
  exact h
theorem st_call0 (hg : o.guard = none) (fid : Nat) (ho : o.op = .call { callee := .value (.func fid), args := #[], argTypes := #[] })
    (he : ∀ args w, (callFunc fid args).run P w = .ok (.enter fid args) w) {R : Ending → World → Prop} (hc : Calls P fid #[] w R) (hret : ∀ u w', R (.returned u) w' → K (a.put o.dst u) w') (hpan : ∀ ch w', R (.panicked ch) w' → Q (.panic ch) a w') (hout : ∀ w', ¬ R .outgrown w') :
    if Region.wanted o t = true then o.wp P a w K Q else X := by
  refine st_wp hg ?_
  have hr : (execOp a.eval o).run P w = .ok (.enter fid #[]) w := by
    have hf : a.eval (.func fid) = .func (.func fid) #[] #[] := rfl
    unfold execOp
    simp [ho, resolve, hf, Deferred.ofValue, invoke, he]
  unfold Oper.wp
  rw [hr, Oper.upon_enter]
  refine hc.mono ?_
  intro e w' h
  cases e with
  | returned u => exact hret u w' h
  | panicked ch => exact hpan ch w' h
  | outgrown => exact absurd h (hout w')
end ops
theorem wanted_of {o : Oper} {ops : Array Oper} {ds : List (Option Tmp)} {f : Nat → Value} {a : Act} (hok : dstsOk ds = true) (j : Nat) (want : Bool) (tm : Tmp) (hgu : o.guard = some (j, want)) (hd : (ops[j]?).bind (·.dst) = some tm) (hi : ds[j]? = some (some tm)) (hs : tm < a.tmps.size) (hf : f j = .bool want) :
    Region.wanted o (yielded ops (putL ds f 0 a).tmps) = true := by
  have h1 := slot_in (f := f) hok j hi hs hf
  have h2 : (putL ds f 0 a).tmps[tm]? = some (.bool want) := by
    rw [Array.getD_eq_getD_getElem?] at h1
    rcases h : (putL ds f 0 a).tmps[tm]? with _ | u
    · rw [h] at h1; cases h1
    · rw [h] at h1; exact congrArg some h1
  have hd' : (Option.bind (ops[j]?) fun x => x.dst) = some tm := hd
  have hy : yielded ops (putL ds f 0 a).tmps j = some want := by
    unfold yielded
    rw [hd', Option.bind_some, h2]
  unfold Region.wanted
  rw [hgu]
  simp only [hy, beq_self_eq_true]
theorem eqS1 (x y : Operand) (s : ByteArray) (W : World) : (eqGuard .eql 9 x y (.string s) (.string s)).run Try.prog W = .ok () W := by kernel_rfl
theorem eqS2 (s : ByteArray) (W : World) : (binOp .eql 9 (.string s) (.string s)).run Try.prog W = .ok (.bool true) W := by simp [go_sem]
theorem eqI1 (x y : Operand) (W : World) : (eqGuard .eql 32 x y (.int .i64 0) (.int .i64 0)).run Try.prog W = .ok () W := by kernel_rfl
theorem eqI2 (W : World) : (binOp .eql 32 (.int .i64 0) (.int .i64 0)).run Try.prog W = .ok (.bool true) W := by simp [go_sem]
theorem builtT (m : Men) (v : Value) (h : ∃ p n c, v = .slice p n c) : Try.prog.built 29 [(0, .agg m.cs.toArray), (1, v)] = some (tabV m v).toArray := by
  obtain ⟨p, n, c, rfl⟩ := h
  kernel_rfl
/-- what region 3 of PackedPacks knows -/
def pkR (w : World) (m : Men) (p : Option Addr) (c : Nat) (es : List Int) (w1 : World) (S : Nat → Bool) (f : Nat → Value) (W : World) : Prop :=
  (Below w1.heap.size w1 W ∧ w1.heap.size ≤ W.heap.size) ∧ (S 0 = true → f 0 = .pointer (some ⟨w.heap.size, 0, none⟩)) ∧ (S 1 = true → f 1 = .agg m.cs.toArray) ∧ (S 2 = true → f 2 = .pointer (some ⟨w.heap.size, 12, none⟩)) ∧
  (S 3 = true → f 3 = .slice p es.length c) ∧ (S 4 = true → W.ownsRow w1.heap.size 56 1 (f 4) es.length (es.map (.int .i16))) ∧ (S 5 = true → f 5 = .agg (tabV m (f 4)).toArray) ∧
  (S 6 = true → ∃ q5, f 6 = .pointer (some ⟨q5, 0, none⟩) ∧ w1.heap.size ≤ q5 ∧ ∃ old, HasO W q5 (.cells old 29 (0, 0)) ∧ old.size = 13 ∧ (S 7 = true → old = (tabV m (f 4)).toArray))

/-- what region 9 of PackedPacks knows -/
def pk9 (w4 : World) (T : Value) (v : Value) (st : Value) (L : List Int) (S : Nat → Bool) (f : Nat → Value) (W : World) : Prop :=
  Below w4.heap.size w4 W ∧ (S 0 = true → f 0 = v) ∧ (S 1 = true → f 1 = st) ∧ (S 2 = true → f 2 = T) ∧ (S 3 = true → W.ownsRow w4.heap.size 5 1 (f 3) L.length (L.map (.int .u8))) ∧ (S 4 = true → f 4 = st) ∧
  (∀ i, 5 ≤ i → i < 14 → S i = true → f i = if i = 7 then .int .i64 0 else .bool true)

set_option maxHeartbeats 2000000 in
set_option maxRecDepth 100000 in
theorem PackedPacks_any (m : Men) (p : Option Addr) (c : Nat) (es : List Int) (w : World) (hx : Arr .i16 w p es) (hl : es.length ≤ 9223372036854775807) (hc : es.length ≤ c) (hp : p = none → c = 0) (hm : MaxOk w) :
    Calls Try.prog 3 #[.agg (tabCs m p es.length c).toArray] w fun e w' => e = .returned (.bool true) ∧ Below w.heap.size w w' := by
  have hms : 0 < w.heap.size := by obtain ⟨_, _, h⟩ := hm; exact h
  obtain ⟨i6, hi6, hz6, hs6, hy6⟩ := info_parts Try.info56
  have hT : HasO (w.alloc (.cells (tabCs m p es.length c).toArray 29)) w.heap.size (.cells (tabCs m p es.length c).toArray 29 (0, 0)) := HasO.new _ _
  have hb0 := below_box w (.cells (tabCs m p es.length c).toArray 29)
  have hx0 := hx.call hb0
  have hm0 := hm.call hb0 hms
  go_enter Try.func3, Try.ntmps3
  by_cases h4 : (4000 : Int) < es.length
  · go_wp2_with fail
    refine (known_any _ hm0).mono ?_
    rintro e w1 ⟨rfl, hb⟩
    go_wp2_with fail
    go_ret
    exact ⟨rfl, below_call hb0 (by simp) hb⟩
  · have hl2 : es.length ≤ 4000 := by omega
    clear hl
    have hcT := hT.cells
    go_wp2_with fail
    show Code.wp _ _ _ _ (w.alloc (.cells (tabCs m p es.length c).toArray 29))
    obtain ⟨w1, hw1⟩ : ∃ x, x = w.alloc (.cells (tabCs m p es.length c).toArray 29) := ⟨_, rfl⟩
    rw [← hw1] at hT hb0 hx0 hm0 ⊢
    clear hcT hw1
    have hlT := hT.lt
    refine wp_region_relL (by kernel_rfl) (by kernel_rfl) [some 11, some 12, some 13, some 14, some 15, some 16, some 3, none] (by rfl) (by rfl) (pkR w m p c es w1) ?hcong ?h0 ?hstep ?hend
    case hcong =>
      intro S S' f W h hR
      unfold pkR at hR ⊢
      rw [← h 0 (by decide), ← h 1 (by decide), ← h 2 (by decide), ← h 3 (by decide), ← h 4 (by decide), ← h 5 (by decide), ← h 6 (by decide), ← h 7 (by decide)]
      exact hR
    case h0 =>
      intro f
      exact ⟨⟨(Below.refl _ _).drew, Nat.le_refl _⟩, (fun h => by cases h), (fun h => by cases h), (fun h => by cases h), (fun h => by cases h), (fun h => by cases h), (fun h => by cases h), (fun h => by cases h)⟩
    case hstep =>
      intro S j op f W ho hj hSj hpre hcl hR K hK
      have hj : j < 8 := hj
      obtain ⟨⟨c1, c2⟩, h0, h1, h2, h3, h4', h5, h6⟩ := id hR
      have hTW := hT.call c1
      have hxW := hx0.call c1
      have hcW := hTW.cells
      rcases (by omega : j = 0 ∨ j = 1 ∨ j = 2 ∨ j = 3 ∨ j = 4 ∨ j = 5 ∨ j = 6 ∨ j = 7) with rfl | rfl | rfl | rfl | rfl | rfl | rfl | rfl
      · refine st_field (by injection ho with h; rw [← h]; rfl) 29 (.tmp 1) 0 (by injection ho with h; rw [← h]; rfl) (rd_out rfl rfl) (n := 0) (by kernel_rfl) (hK _ _ ?_)
        exact ⟨⟨c1, c2⟩, fun _ => rfl, h1, h2, h3, h4', h5, h6⟩
      · refine st_loadA (by injection ho with h; rw [← h]; rfl) 26 (.tmp 11) (by injection ho with h; rw [← h]; rfl) (rd_in rfl 0 rfl (by simp) (h0 (hpre ⟨0, .data⟩ (by injection ho with h; rw [← h]; simp) rfl))) m.cs (by kernel_rfl) (fun j v hv => by
          rw [Nat.zero_add, hcW j]
          have hj : j < m.cs.length := (List.getElem?_eq_some_iff.1 hv).1
          simp only [List.getElem?_toArray]
          rw [List.getElem?_append_left hj]; exact hv) (hK _ _ ?_)
        exact ⟨⟨c1, c2⟩, h0, fun _ => rfl, h2, h3, h4', h5, h6⟩
      · refine st_field (by injection ho with h; rw [← h]; rfl) 29 (.tmp 1) 1 (by injection ho with h; rw [← h]; rfl) (rd_out rfl rfl) (n := 12) (by kernel_rfl) (hK _ _ ?_)
        exact ⟨⟨c1, c2⟩, h0, h1, fun _ => rfl, h3, h4', h5, h6⟩
      · refine st_loadS (by injection ho with h; rw [← h]; rfl) 27 (.tmp 13) (by injection ho with h; rw [← h]; rfl) (rd_in rfl 2 rfl (by simp) (h2 (hpre ⟨2, .data⟩ (by injection ho with h; rw [← h]; simp) rfl))) (by kernel_rfl) (hcW 12) (hK _ _ ?_)
        exact ⟨⟨c1, c2⟩, h0, h1, h2, fun _ => rfl, h4', h5, h6⟩
      · have h5' : S 5 = false := by
          rcases h : S 5 with _ | _
          · rfl
          · have := hcl 5 _ h rfl ⟨4, .data⟩ (by simp) rfl
            rw [hSj] at this; cases this
        have h7' : S 7 = false := by
          rcases h : S 7 with _ | _
          · rfl
          · have := hcl 7 _ h rfl ⟨5, .data⟩ (by simp) rfl
            rw [h5'] at this; cases this
        refine st_appendArr (by injection ho with h; rw [← h]; rfl) (.const (.slice none 0 0)) (.tmp 14) 27 (by injection ho with h; rw [← h]; rfl) w1.heap.size 56 i6 (.int .i16 0) 2 Try.underlying27 hi6 hz6 hs6 hy6 rfl .i16 rfl (rd_in rfl 3 rfl (by simp) (h3 (hpre ⟨3, .data⟩ (by injection ho with h; rw [← h]; simp) rfl))) hp hxW (by omega) c2 (fun v' w' hown' hb' _ => hK _ _ ?_)
        refine ⟨⟨below_call c1 c2 hb', Nat.le_trans c2 hb'.size⟩, h0, h1, h2, h3, fun _ => hown', fun h => ?_, fun h => ?_⟩
        · have h : S 5 = true := h
          rw [h5'] at h; cases h
        · obtain ⟨q5, e1, e3, old, e4, e5, _⟩ := h6 h
          exact ⟨q5, e1, e3, old, e4.call hb', e5, fun h => by have h : S 7 = true := h; rw [h7'] at h; cases h⟩
      · have d1 := h1 (hpre ⟨1, .data⟩ (by injection ho with h; rw [← h]; simp) rfl)
        have d4 := h4' (hpre ⟨4, .data⟩ (by injection ho with h; rw [← h]; simp) rfl)
        refine st_build2 (by injection ho with h; rw [← h]; rfl) 29 0 1 (.tmp 12) (.tmp 15) (by injection ho with h; rw [← h]; rfl) (rd_in rfl 1 rfl (by simp) d1) (rd_in rfl 4 rfl (by simp) rfl) (builtT m (f 4) (own_slice d4)) (hK _ _ ?_)
        exact ⟨⟨c1, c2⟩, h0, h1, h2, h3, h4', fun _ => rfl, h6⟩
      · have h7' : S 7 = false := by
          rcases h : S 7 with _ | _
          · rfl
          · have := hcl 7 _ h rfl ⟨6, .data⟩ (by simp) rfl
            rw [hSj] at this; cases this
        have hb' := below_box W (.cells (tabCs zeroMen none 0 0).toArray 29)
        refine st_alloc (by injection ho with h; rw [← h]; rfl) 29 (by injection ho with h; rw [← h]; rfl) (alloc29 W) (hK _ _ ?_)
        exact ⟨⟨below_call c1 c2 hb', by simp; omega⟩, h0, h1, h2, h3, fun h => own_call (h4' h) hb', h5, fun _ => ⟨_, rfl, c2, _, HasO.new _ _, rfl, fun h => by have h : S 7 = true := h; rw [h7'] at h; cases h⟩⟩
      · have d5 := h5 (hpre ⟨5, .data⟩ (by injection ho with h; rw [← h]; simp) rfl)
        obtain ⟨q5, d6, hq1, old, hO, hsz, _⟩ := h6 (hpre ⟨6, .data⟩ (by injection ho with h; rw [← h]; simp) rfl)
        have t4 := hcl 5 _ (hpre ⟨5, .data⟩ (by injection ho with h; rw [← h]; simp) rfl) rfl ⟨4, .data⟩ (by simp) rfl
        have d4 := h4' t4
        have hone : (tabV m (f 4)).toArray.all (·.oneCell') = true := tabV_one _ (by obtain ⟨_, _, _, e⟩ := own_slice d4; rw [e]; rfl)
        have hne4 := own_ne d4 hO (by simp)
        refine st_storeO (by injection ho with h; rw [← h]; rfl) 29 (.tmp 3) (.tmp 16) (by injection ho with h; rw [← h]; rfl) (rd_in rfl 6 rfl (by simp) d6) (tabV m (f 4)).toArray old 29 (rd_in rfl 5 rfl (by simp) d5) hO (by kernel_rfl) hsz hone (hK _ _ ?_)
        refine ⟨⟨setRow_below c1 hq1 c2, by rw [setRow_size]; exact c2⟩, h0, h1, h2, h3, fun _ => ?_, h5, fun _ => ⟨q5, d6, hq1, _, setRow_hasO hO, rfl, fun _ => rfl⟩⟩
        exact (setRow_alt W q5 (tabV m (f 4)).toArray).own d4 (fun g hg => by have hg : (f 4).ownBlock = some g := hg; rw [hg] at hne4; have : g ≠ q5 := fun e => hne4 (by rw [e]); omega)
    case hend =>
      intro S f W hS hR
      obtain ⟨⟨c1, c2⟩, h0, h1, h2, h3, h4', h5, h6⟩ := hR
      have d4 := h4' (hS 4 (by decide))
      obtain ⟨q5, d6, hq1, old, hO, hsz, hold⟩ := h6 (hS 6 (by decide))
      have hold := hold (hS 7 (by decide))
      subst hold
      simp only [putL, Act.put, List.setIfInBounds_toArray, List.set_cons_succ, List.set_cons_zero, Nat.reduceAdd]
      rw [d6]
      obtain ⟨p4, c4, e4, hc4, hA4⟩ := own_arr d4
      rw [e4] at hO
      have hTW := hT.call c1
      have hbW := hb0.trans (c1.mono hb0.size)
      have hxW := hx.call hbW
      clear h0 h1 h2 h3 h4' h5 h6 hS d4 e4 hT hx0 hm0 c1 c2 hb0
      have hli : (es.length : Int) ≤ 4000 := by omega
      go_wp2_with (first | (with_reducible refine wpList_loadO rfl 29 (.tmp 3) rfl q5 (tabV m (.slice p4 es.length c4)).toArray 29 rfl hO (by kernel_rfl) ?_))
      refine (Pack_any m p4 c4 es W hA4 (by omega) hc4).mono ?_
      rintro e w2 ⟨⟨v, rfl, hP1, hP2⟩, hb2⟩
      have hO2 := hO.call hb2
      have hT2 := hTW.call hb2
      have hA2 := hA4.call hb2
      have hx2 := hxW.call hb2
      have hbw2 := below_call hbW hbW.size hb2
      clear hO hTW hA4 hxW hb2
      go_wp2_with (first | (with_reducible refine wpList_loadO rfl 29 (.tmp 3) rfl q5 (tabV m (.slice p4 es.length c4)).toArray 29 rfl hO2 (by kernel_rfl) ?_) | (with_reducible refine wpList_loadO rfl 29 (.tmp 1) rfl w.heap.size (tabV m (.slice p es.length c)).toArray 29 rfl hT2 (by kernel_rfl) ?_))
      refine (same_any m p4 p c4 c es w2 hA2 hx2 (by omega)).mono ?_
      rintro e w3 ⟨rfl, hb3⟩
      have hT3 := hT2.call hb3
      have hx3 := hx2.call hb3
      have hbw3 := below_call hbw2 hbw2.size hb3
      have hP1' := fun h => own_call (hP1 h) hb3
      clear hO2 hT2 hA2 hx2 hbw2 hP1 hb3
      go_wp2_with (first | (with_reducible refine wpList_loadO rfl 29 (.tmp 1) rfl w.heap.size (tabV m (.slice p es.length c)).toArray 29 rfl hT3 (by kernel_rfl) ?_))
      refine (refTab_any m p c es w3 hx3 (by omega)).mono ?_
      rintro e w4 ⟨rfl, hb4⟩
      have hT4 := hT3.call hb4
      have hx4 := hx3.call hb4
      have hbw4 := below_call hbw3 hbw3.size hb4
      have hP14 := fun h => own_call (hP1' h) hb4
      clear hT3 hx3 hbw3 hP1' hb4
      have hkn := known_any w4 (hm.call hbw4 hms)
      rcases hok : tabOk m es with _ | _
      · obtain rfl := hP2 hok
        simp only [okErr]
        replace hok := Lib.hid hok
        go_wp2_with fail
        refine hkn.mono ?_
        rintro e w5 ⟨rfl, hb5⟩
        go_wp2_with fail
        go_ret
        exact ⟨rfl, below_call hbw4 hbw4.size hb5⟩
      · have hown := hP14 hok
        clear hkn hP14 hP2
        simp only [okErr]
        replace hok := Lib.hid hok
        go_wp2_with fail
        have hL0 := packL_len m es
        obtain ⟨pv, cv, rfl, hcv, hAv⟩ := own_arr hown
        obtain ⟨gv, ov, rfl, hgv, hcc⟩ := hAv.at hL0
        have hent := (tabOk_facts hok.out).2.2.2.2
        have hvd := (tabOk_facts hok.out).1
        replace hvd := Lib.hid hvd
        generalize hL : packL m es = L at *
        replace hL := Lib.hid hL
        refine wp_region_relL (by kernel_rfl) (by kernel_rfl) [some 39, some 40, some 41, some 42, some 43, some 44, some 45, some 46, some 47, some 48, some 49, some 50, some 51, some 2] (by rfl) (by rfl) (pk9 w4 (.agg (tabCs m p es.length c).toArray) (.slice (some ⟨gv, ov, none⟩) L.length cv) (.string (str (toU L))) L) ?hcong ?h0 ?hstep ?hend
        case hcong =>
          intro S S' f W h hR
          unfold pk9 at hR ⊢
          rw [← h 0 (by decide), ← h 1 (by decide), ← h 2 (by decide), ← h 3 (by decide), ← h 4 (by decide)]
          obtain ⟨r0, r1, r2, r3, r4, r5, r6⟩ := hR
          exact ⟨r0, r1, r2, r3, r4, r5, fun i h5 hi hs => r6 i h5 hi (by rw [h i hi]; exact hs)⟩
        case h0 =>
          intro f
          exact ⟨(Below.refl _ _).drew, (fun h => by cases h), (fun h => by cases h), (fun h => by cases h), (fun h => by cases h), (fun h => by cases h), fun i _ _ h => by cases h⟩
        case hstep =>
          intro S j op f W ho hj hSj hpre hcl hR K hK
          have hj : j < 14 := hj
          obtain ⟨c1, h0, h1, h2, h3, h4', h5⟩ := id hR
          have hTW := hT4.call c1
          have hxW := hx4.call c1
          have hk : ∀ (j : Nat) (u : Value), 5 ≤ j → u = (if j = 7 then .int .i64 0 else .bool true) → ∀ i, 5 ≤ i → i < 14 → upd S j i = true → (if i = j then u else f i) = if i = 7 then .int .i64 0 else .bool true := by
            intro j u hj hu i a b hs
            by_cases e : i = j
            · subst e; rw [if_pos rfl, hu]
            · rw [if_neg e]; exact h5 i a b (by simpa [upd, e] using hs)
          have hk0 : ∀ (j : Nat) (u : Value), j < 5 → ∀ i, 5 ≤ i → i < 14 → upd S j i = true → (if i = j then u else f i) = if i = 7 then .int .i64 0 else .bool true := by
            intro j u hj i a b hs
            have e : i ≠ j := by omega
            rw [if_neg e]; exact h5 i a b (by simpa [upd, e] using hs)
          rcases (by omega : j = 0 ∨ j = 1 ∨ j = 2 ∨ j = 3 ∨ j = 4 ∨ j = 5 ∨ j = 6 ∨ j = 7 ∨ j = 8 ∨ j = 9 ∨ j = 10 ∨ j = 11 ∨ j = 12 ∨ j = 13) with rfl | rfl | rfl | rfl | rfl | rfl | rfl | rfl | rfl | rfl | rfl | rfl | rfl | rfl
          · refine st_move (by injection ho with h; rw [← h]; rfl) (.tmp 4) (by injection ho with h; rw [← h]; rfl) (rd_out rfl rfl) (hK _ _ ?_)
            exact ⟨c1, fun _ => rfl, h1, h2, h3, h4', hk0 0 _ (by decide)⟩
          · refine st_convert (by injection ho with h; rw [← h]; rfl) 31 9 (.tmp 39) (by injection ho with h; rw [← h]; rfl) (rd_in rfl 0 rfl (by simp) (h0 (hpre ⟨0, .data⟩ (by injection ho with h; rw [← h]; simp) rfl))) (conv_at L (fun j hj => (c1.cell (p := ⟨gv, ov + j, none⟩) hgv).trans (hcc j hj)) rfl) (hK _ _ ?_)
            exact ⟨c1, h0, fun _ => rfl, h2, h3, h4', hk0 1 _ (by decide)⟩
          · refine st_loadA (by injection ho with h; rw [← h]; rfl) 29 (.tmp 1) (by injection ho with h; rw [← h]; rfl) (rd_out rfl rfl) (tabCs m p es.length c) (by kernel_rfl) (fun j v hv => by rw [Nat.zero_add, hTW.cells j]; simpa using hv) (hK _ _ ?_)
            exact ⟨c1, h0, h1, fun _ => rfl, h3, h4', hk0 2 _ (by decide)⟩
          · refine st_call1 (by injection ho with h; rw [← h]; rfl) 10 (.tmp 41) #[29] (by injection ho with h; rw [← h]; rfl) (rd_in rfl 2 rfl (by simp) (h2 (hpre ⟨2, .data⟩ (by injection ho with h; rw [← h]; simp) rfl))) (fun _ _ => rfl) (refPack_any m p c es W hvd hxW hent (by omega) hc) ?_ ?_ ?_
            · rintro u w' ⟨v', e', hown', hb'⟩
              injection e' with e'
              subst e'
              rw [hL.out] at hown'
              exact hK _ _ ⟨below_call c1 c1.size hb', h0, h1, h2, fun _ => own_mono hown' c1.size, h4', hk0 3 _ (by decide)⟩
            · rintro ch w' ⟨v', e', _⟩; cases e'
            · rintro w' ⟨v', e', _⟩; cases e'
          · have d3 := h3 (hpre ⟨3, .data⟩ (by injection ho with h; rw [← h]; simp) rfl)
            obtain ⟨p3, c3, e3, _, hA3⟩ := own_arr d3
            obtain ⟨g3, o3, rfl, _, hcc3⟩ := hA3.at hL0
            refine st_convert (by injection ho with h; rw [← h]; rfl) 31 9 (.tmp 42) (by injection ho with h; rw [← h]; rfl) (rd_in rfl 3 rfl (by simp) e3) (conv_at L hcc3 rfl) (hK _ _ ?_)
            exact ⟨c1, h0, h1, h2, h3, fun _ => rfl, hk0 4 _ (by decide)⟩
          · refine st_bin (by injection ho with h; rw [← h]; rfl) .eql 9 9 (.tmp 40) (.tmp 43) (by injection ho with h; rw [← h]; rfl) (rd_in rfl 1 rfl (by simp) (h1 (hpre ⟨1, .data⟩ (by injection ho with h; rw [← h]; simp) rfl))) (rd_in rfl 4 rfl (by simp) (h4' (hpre ⟨4, .data⟩ (by injection ho with h; rw [← h]; simp) rfl))) (eqS1 _ _ _ _) (eqS2 _ _) (hK _ _ ?_)
            exact ⟨c1, h0, h1, h2, h3, h4', hk 5 _ (by decide) rfl⟩
          · refine st_move (by injection ho with h; rw [← h]; rfl) (.tmp 44) (by injection ho with h; rw [← h]; rfl) (rd_in rfl 5 rfl (by simp) (h5 5 (by decide) (by decide) (hpre ⟨5, .data⟩ (by injection ho with h; rw [← h]; simp) rfl))) (hK _ _ ?_)
            exact ⟨c1, h0, h1, h2, h3, h4', hk 6 _ (by decide) rfl⟩
          · refine gd (wanted_of rfl 6 true 45 (by injection ho with h; rw [← h]; rfl) rfl rfl (by simp) (h5 6 (by decide) (by decide) (hpre ⟨6, .guard⟩ (by injection ho with h; rw [← h]; simp) rfl))) (st_move rfl (.tmp 5) (by injection ho with h; rw [← h]; rfl) (rd_out rfl rfl) (hK _ _ ?_))
            exact ⟨c1, h0, h1, h2, h3, h4', hk 7 _ (by decide) rfl⟩
          · refine gd (wanted_of rfl 6 true 45 (by injection ho with h; rw [← h]; rfl) rfl rfl (by simp) (h5 6 (by decide) (by decide) (hpre ⟨6, .guard⟩ (by injection ho with h; rw [← h]; simp) rfl))) (st_bin rfl .eql 32 32 (.tmp 46) (.const (.int .i64 0)) (by injection ho with h; rw [← h]; rfl) (rd_in rfl 7 rfl (by simp) (h5 7 (by decide) (by decide) (hpre ⟨7, .data⟩ (by injection ho with h; rw [← h]; simp) rfl))) rfl (eqI1 _ _ _) (eqI2 _) (hK _ _ ?_))
            exact ⟨c1, h0, h1, h2, h3, h4', hk 8 _ (by decide) rfl⟩
          · refine st_pickT (by injection ho with h; rw [← h]; rfl) (.tmp 45) (.tmp 47) (.const (.bool false)) (by injection ho with h; rw [← h]; rfl) (rd_in rfl 6 rfl (by simp) (h5 6 (by decide) (by decide) (hpre ⟨6, .data⟩ (by injection ho with h; rw [← h]; simp) rfl))) (rd_in rfl 8 rfl (by simp) (h5 8 (by decide) (by decide) (hpre ⟨8, .data⟩ (by injection ho with h; rw [← h]; simp) rfl))) (hK _ _ ?_)
            exact ⟨c1, h0, h1, h2, h3, h4', hk 9 _ (by decide) rfl⟩
          · refine st_move (by injection ho with h; rw [← h]; rfl) (.tmp 48) (by injection ho with h; rw [← h]; rfl) (rd_in rfl 9 rfl (by simp) (h5 9 (by decide) (by decide) (hpre ⟨9, .data⟩ (by injection ho with h; rw [← h]; simp) rfl))) (hK _ _ ?_)
            exact ⟨c1, h0, h1, h2, h3, h4', hk 10 _ (by decide) rfl⟩
          · refine gd (wanted_of rfl 10 true 49 (by injection ho with h; rw [← h]; rfl) rfl rfl (by simp) (h5 10 (by decide) (by decide) (hpre ⟨10, .guard⟩ (by injection ho with h; rw [← h]; simp) rfl))) (st_call0 rfl 6 (by injection ho with h; rw [← h]; rfl) (fun _ _ => rfl) (known_any W (hm.call (below_call hbw4 hbw4.size c1) hms)) ?_ ?_ ?_)
            · rintro u w' ⟨e', hb'⟩
              injection e' with e'
              subst e'
              exact hK _ _ ⟨below_call c1 c1.size hb', h0, h1, h2, fun h => own_call (h3 h) hb', h4', hk 11 _ (by decide) rfl⟩
            · rintro ch w' ⟨e', _⟩; cases e'
            · rintro w' ⟨e', _⟩; cases e'
          · refine st_pickT (by injection ho with h; rw [← h]; rfl) (.tmp 49) (.tmp 50) (.const (.bool false)) (by injection ho with h; rw [← h]; rfl) (rd_in rfl 10 rfl (by simp) (h5 10 (by decide) (by decide) (hpre ⟨10, .data⟩ (by injection ho with h; rw [← h]; simp) rfl))) (rd_in rfl 11 rfl (by simp) (h5 11 (by decide) (by decide) (hpre ⟨11, .data⟩ (by injection ho with h; rw [← h]; simp) rfl))) (hK _ _ ?_)
            exact ⟨c1, h0, h1, h2, h3, h4', hk 12 _ (by decide) rfl⟩
          · refine st_assign (by injection ho with h; rw [← h]; rfl) (.tmp 51) (by injection ho with h; rw [← h]; rfl) (rd_in rfl 12 rfl (by simp) (h5 12 (by decide) (by decide) (hpre ⟨12, .data⟩ (by injection ho with h; rw [← h]; simp) rfl))) (hK _ _ ?_)
            exact ⟨c1, h0, h1, h2, h3, h4', hk 13 _ (by decide) rfl⟩
        case hend =>
          intro S f W hS hR
          obtain ⟨c1, h0, h1, h2, h3, h4', h5⟩ := hR
          have d13 := h5 13 (by decide) (by decide) (hS 13 (by decide))
          rw [if_neg (by decide)] at d13
          go_wp2_with fail
          refine bodyPost_ret (results_tmp (fn := Try.f3) Try.results3 _ _ _) (by rw [putL_defers]) ?_
          refine ⟨?_, below_call hbw4 hbw4.size c1⟩
          rw [slot_in rfl 13 rfl (by simp) d13]
end Go.Proofs.Ytddkhnnpeonbgaa
