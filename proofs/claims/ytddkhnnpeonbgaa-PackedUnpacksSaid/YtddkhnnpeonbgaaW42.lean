import Derived.Test.YtddkhnnpeonbgaaW41
import Derived.Test.YtddkhnnpeonbgaaW35
import Derived.Test.YtddkhnnpeonbgaaW38
namespace Go.Proofs.Ytddkhnnpeonbgaa
open Go.RowKit

/-- what a round of the reference's Unpack keeps, over its thirteen operations -/
def rupC (wB : World) (qt : Nat) (m : Men) (W : World) : Prop := Below qt wB W ∧ ∃ u, HasO W qt (.cells (tabV m u).toArray 29 (0, 0))
def rupR (wB : World) (qt : Nat) (m : Men) (vals : Nat → Value) (v : Value) (L : Nat) (es : List Int) (x : Int) (S : Nat → Bool) (f : Nat → Value) (W : World) : Prop :=
  rupC wB qt m W ∧ (∀ i, i < 12 → i ≠ 9 → i ≠ 10 → S i = true → f i = vals i) ∧ (S 10 = false → W.ownsRow qt 56 1 v L (es.map (.int .i16)) ∧ HasO W qt (.cells (tabV m v).toArray 29 (0, 0))) ∧
  (S 9 = true → S 10 = false → ∃ q, f 9 = .slice (some ⟨q, 0, none⟩) 1 1 ∧ W.cell? ⟨q, 0, none⟩ = some (.int .i16 x)) ∧
  (S 10 = true → W.ownsRow qt 56 1 (f 10) (L + 1) ((es ++ [x]).map (.int .i16))) ∧ (S 12 = true → HasO W qt (.cells (tabV m (f 10)).toArray 29 (0, 0)))
theorem rupR_congr {wB : World} {qt : Nat} {m : Men} {vals : Nat → Value} {v : Value} {L : Nat} {es : List Int} {x : Int} (S S' : Nat → Bool) (f : Nat → Value) (W : World) (h : ∀ i, i < 13 → S i = S' i) (hR : rupR wB qt m vals v L es x S f W) :
    rupR wB qt m vals v L es x S' f W := by
  unfold rupR at hR ⊢
  simp only [← h 9 (by omega), ← h 10 (by omega), ← h 12 (by omega)]
  exact ⟨hR.1, fun i hi h5 h6 hS => hR.2.1 i hi h5 h6 (by rw [h i (by omega)]; exact hS), hR.2.2⟩
theorem rupC_below {wB : World} {qt : Nat} {m : Men} {W W' : World} (h : rupC wB qt m W) (hb : Below W.heap.size W W') (hq : qt ≤ W.heap.size) : rupC wB qt m W' := by
  obtain ⟨h1, u, h3⟩ := h
  exact ⟨below_call h1 hq hb, u, h3.call hb⟩
theorem rupR_step {wB : World} {qt : Nat} {m : Men} {vals : Nat → Value} {v : Value} {L : Nat} {es : List Int} {x : Int} {S : Nat → Bool} {f : Nat → Value} {W W' : World} (hR : rupR wB qt m vals v L es x S f W) (i : Nat) (hi : i ≠ 9 ∧ i ≠ 10 ∧ i ≠ 12) (hb : Below W.heap.size W W') :
    rupR wB qt m vals v L es x (upd S i) (fun j => if j = i then vals i else f j) W' := by
  obtain ⟨hC, h1, h2, h3, h4, h5⟩ := hR
  have hq : qt ≤ W.heap.size := Nat.le_of_lt (hC.2.choose_spec).lt
  have e5 : upd S i 9 = S 9 := by unfold upd; rw [if_neg (fun e => hi.1 e.symm)]
  have e6 : upd S i 10 = S 10 := by unfold upd; rw [if_neg (fun e => hi.2.1 e.symm)]
  have e8 : upd S i 12 = S 12 := by unfold upd; rw [if_neg (fun e => hi.2.2 e.symm)]
  unfold rupR
  have n5 : ¬ (9 : Nat) = i := fun e => hi.1 e.symm
  have n6 : ¬ (10 : Nat) = i := fun e => hi.2.1 e.symm
  simp only [n5, n6, if_false]
  rw [e5, e6, e8]
  refine ⟨rupC_below hC hb hq, fun j hj hj5 hj6 hS => ?_, fun h => ⟨own_call (h2 h).1 hb, (h2 h).2.call hb⟩, fun ha hc => ?_, fun h => own_call (h4 h) hb, fun h => (h5 h).call hb⟩
  · by_cases e : j = i
    · subst e; simp
    · simp only [e, if_false]
      exact h1 j hj hj5 hj6 (by simpa [upd, e] using hS)
  · obtain ⟨q, e1, e2⟩ := h3 ha hc
    exact ⟨q, e1, by rw [hb.cell (p := ⟨q, 0, none⟩) (block_lt_of_cell e2)]; exact e2⟩
theorem rupR_9 {wB : World} {qt : Nat} {m : Men} {vals : Nat → Value} {v : Value} {L : Nat} {es : List Int} {x : Int} {S : Nat → Bool} {f : Nat → Value} {W : World} (hR : rupR wB qt m vals v L es x S f W) :
    rupR wB qt m vals v L es x (upd S 9) (fun j => if j = 9 then .slice (some ⟨W.heap.size, 0, none⟩) 1 1 else f j) (W.alloc (.cells #[.int .i16 x] 56)) := by
  have hb := below_box W (.cells #[.int .i16 x] 56)
  obtain ⟨hC, h1, h2, h3, h4, h5⟩ := hR
  have hq : qt ≤ W.heap.size := Nat.le_of_lt (hC.2.choose_spec).lt
  have e6 : upd S 9 10 = S 10 := rfl
  have e8 : upd S 9 12 = S 12 := rfl
  unfold rupR
  rw [e6, e8]
  refine ⟨rupC_below hC hb hq, fun j hj hj5 hj6 hS => ?_, fun h => ⟨own_call (h2 h).1 hb, (h2 h).2.call hb⟩, fun _ _ => ⟨W.heap.size, rfl, ?_⟩, fun h => own_call (h4 h) hb, fun h => (h5 h).call hb⟩
  · simp only [hj5, if_false]
    exact h1 j hj hj5 hj6 (by simpa [upd, hj5] using hS)
  · exact (HasO.new W (.cells #[.int .i16 x] 56)).cells 0
theorem rupR_10 {wB : World} {qt : Nat} {m : Men} {vals : Nat → Value} {v v' : Value} {L : Nat} {es : List Int} {x : Int} {S : Nat → Bool} {f : Nat → Value} {W W' : World} (hR : rupR wB qt m vals v L es x S f W) (h6 : S 10 = false) (h8 : S 12 = false)
    (hown : W'.ownsRow qt 56 1 v' (L + 1) ((es ++ [x]).map (.int .i16))) (hg : W.grownBy W' v.ownBlock) :
    rupR wB qt m vals v L es x (upd S 10) (fun j => if j = 10 then v' else f j) W' := by
  obtain ⟨hC, h1, h2, h3, h4, h5⟩ := hR
  obtain ⟨c1, u, c3⟩ := hC
  have hq : qt ≤ W.heap.size := Nat.le_of_lt c3.lt
  have e8 : upd S 10 12 = false := h8
  have e6 : upd S 10 10 = true := by simp [upd]
  have hv := (h2 h6).1
  unfold rupR
  rw [e6, e8]
  refine ⟨⟨c1.grown hg hq (fun k e => (hv.lt k e).1), u, c3.grown hg (own_ne hv c3 (by simp))⟩, fun j hj hj5 hj6 hS => ?_, (fun h => by cases h), (fun _ h => by cases h), fun _ => hown, (fun h => by cases h)⟩
  simp only [hj6, if_false]
  exact h1 j hj hj5 hj6 (by simpa [upd, hj6] using hS)
theorem rupR_12 {wB : World} {qt : Nat} {m : Men} {vals : Nat → Value} {v : Value} {L : Nat} {es : List Int} {x : Int} {S : Nat → Bool} {f : Nat → Value} {W : World} {d : Value} (hR : rupR wB qt m vals v L es x S f W) (h6 : S 10 = true) :
    rupR wB qt m vals v L es x (upd S 12) (fun j => if j = 12 then d else f j) (W.setCell ⟨qt, 12, none⟩ (f 10)) := by
  obtain ⟨hC, h1, h2, h3, h4, h5⟩ := hR
  obtain ⟨c1, u, c3⟩ := hC
  have hq : qt ≤ W.heap.size := Nat.le_of_lt c3.lt
  have e6 : upd S 12 10 = true := h6
  have hA : Alt qt (qt + 1) W (W.setCell ⟨qt, 12, none⟩ (f 10)) := Alt.setCell (by simp)
  have hT : HasO (W.setCell ⟨qt, 12, none⟩ (f 10)) qt (.cells (tabV m (f 10)).toArray 29 (0, 0)) := by
    have := c3.set_ 12 (f 10)
    rw [tabV_set] at this; exact this
  unfold rupR
  rw [e6]
  have hne := own_ne (h4 h6) c3 (by simp)
  refine ⟨⟨c1.setCell (by simp) _, _, hT⟩, fun j hj hj5 hj6 hS => ?_, (fun h => by cases h), (fun _ h => by cases h), fun _ => hA.own (h4 h6) (fun k e => by rcases Nat.lt_trichotomy k qt with h | h | h; exact .inl h; exact absurd (by rw [← h]; exact e) hne; exact .inr h), fun _ => hT⟩
  have : j ≠ 12 := by omega
  simp only [this, if_false]
  exact h1 j hj hj5 hj6 (by simpa [upd, this] using hS)
section ops
variable {P : Program} {o : Oper} {a : Act} {w : World} {K : Act → World → Prop} {Q : Exit → Act → World → Prop} {t : Nat → Option Bool} {X : Prop}
theorem st_index (hg : o.guard = none) (ty : TypeId) (x y : Operand) (ho : o.op = .indexAddr ty x y) {v u r : Value} (hx : a.eval x = v) (hy : a.eval y = u) (hr : (Instr.indexAt ty v u).run P w = .ok r w) (h : K (a.put o.dst r) w) : if Region.wanted o t = true then o.wp P a w K Q else X := by
  refine st_wp hg ?_
  unfold Oper.wp execOp
  simp only [ho, hx, hy, Sem.run_bind, hr, Result.andThen_ok, Sem.run_pure]
  exact h
theorem st_call3 (hg : o.guard = none) (fid : Nat) (x y z : Operand) (ts : Array TypeId) (ho : o.op = .call { callee := .value (.func fid), args := #[x, y, z], argTypes := ts }) {v u r : Value} (hx : a.eval x = v) (hy : a.eval y = u) (hz : a.eval z = r)
    (he : ∀ args w, (callFunc fid args).run P w = .ok (.enter fid args) w) {R : Ending → World → Prop} (hc : Calls P fid #[v, u, r] w R) (hret : ∀ u w', R (.returned u) w' → K (a.put o.dst u) w') (hpan : ∀ ch w', R (.panicked ch) w' → Q (.panic ch) a w') (hout : ∀ w', ¬ R .outgrown w') :
    if Region.wanted o t = true then o.wp P a w K Q else X := by
  refine st_wp hg ?_
  have hr : (execOp a.eval o).run P w = .ok (.enter fid #[v, u, r]) w := by
    have hf : a.eval (.func fid) = .func (.func fid) #[] #[] := rfl
    unfold execOp
    simp [ho, resolve, hf, hx, hy, hz, Deferred.ofValue, invoke, he]
  unfold Oper.wp
  rw [hr, Oper.upon_enter]
  refine hc.mono ?_
  intro e w' h
  cases e with
  | returned u => exact hret u w' h
  | panicked ch => exact hpan ch w' h
  | outgrown => exact absurd h (hout w')
end ops
theorem index38 (W : World) (gb N cap k : Nat) (hk : k < N) : (Instr.indexAt 38 (.slice (some ⟨gb, 0, none⟩) N cap) (.int .i64 k)).run Try.prog W = .ok (.pointer (some ⟨gb, k * 4, none⟩)) W := by
  have h1 : (k : Int) < N := by omega
  have h0 : (0 : Int) ≤ (k : Int) := by omega
  simp [go_sem, h1, h0]
theorem rblk_cells {w : World} {base : Nat} {v : Value} {bs : List Int} {n N : Nat} (h : w.ownsRow base 53 4 v N (rblkCells bs n N)) (hN : 0 < N) :
    ∃ gb cap, v = .slice (some ⟨gb, 0, none⟩) N cap ∧ base ≤ gb ∧ gb < w.heap.size ∧ N ≤ cap ∧ ∀ i, i < N → ∀ j, j < 4 → w.cell? ⟨gb, i * 4 + j, none⟩ = (rblkCs (widB bs n i) (lowB bs n i) (posB bs n i + 3) (manyB n i))[j]? := by
  have h' := h
  rcases h.2 with ⟨_, h2⟩ | ⟨gb, cap, cur, rfl, hg, hh, hcap, _⟩
  · omega
  · refine ⟨gb, cap, rfl, hg, (h'.lt gb rfl).2, hcap, fun i hi j hj => ?_⟩
    rw [h'.cellAt _ (by omega)]
    exact rblkCells_get bs n hi hj
theorem rblk_get {bs : List Int} {g o c n k i : Nat} (W : World) (hbs : isBytes bs) (hbody : bodyOk bs n = true) (hk : k < nBlk n) (hi : i < manyB n k) (hb : BytesAt W g o bs 0 bs.length) (hg : g < W.heap.size) (hl : bs.length ≤ 2000000) :
    Calls Try.prog 31 #[.slice (some ⟨g, o, none⟩) bs.length c, .agg (rblkCs (widB bs n k) (lowB bs n k) (posB bs n k + 3) (manyB n k)).toArray, .int .i64 i] W fun e w' => e = .returned (.int .i16 (entB bs n k i)) ∧ Below W.heap.size W w' := by
  obtain ⟨h1, h2⟩ := blk_facts hbs hbody hk
  have h3 : (i + 1) * widB bs n k ≤ 8 * nbB bs n k := by
    have : (i + 1) * widB bs n k ≤ manyB n k * widB bs n k := Nat.mul_le_mul_right _ hi
    rw [Nat.mul_comm (manyB n k)] at this
    have e : nbB bs n k = (widB bs n k * manyB n k + 7) / 8 := rfl
    omega
  have h4 : manyB n k ≤ 32 := by unfold manyB; omega
  exact refRead_any (widB bs n k) (posB bs n k + 3) (manyB n k) i g o c (lowB bs n k) bs W hbs hg hb h2 (by omega) (by omega) hl (by omega) (lowB_bd hbs n k)

section ops
variable {P : Program} {o : Oper} {a : Act} {w : World} {K : Act → World → Prop} {Q : Exit → Act → World → Prop} {t : Nat → Option Bool} {X : Prop}
theorem st_unop (hg : o.guard = none) (p1 : UnOp) (ty : TypeId) (x : Operand) (ho : o.op = .unOp p1 ty x) {v u : Value} (hx : a.eval x = v) (hr : (Op.unary p1 v).run P w = .ok u w) (h : K (a.put o.dst u) w) : if Region.wanted o t = true then o.wp P a w K Q else X := by
  refine st_wp hg ?_
  unfold Oper.wp execOp
  simp only [ho, hx, Sem.run_bind, hr, Result.andThen_ok, Sem.run_pure]
  exact h
theorem st_pickF (hg : o.guard = none) (c x y : Operand) (ho : o.op = .pick c x y) {v : Value} (hc : a.eval c = .bool false) (hx : a.eval y = v) (h : K (a.put o.dst v) w) : if Region.wanted o t = true then o.wp P a w K Q else X := by
  refine st_wp hg ?_
  unfold Oper.wp execOp
  simp only [ho, hc, asBool, hx, Sem.run_bind, Sem.run_pure, Result.andThen_ok, Bool.false_eq_true, if_false]
  exact h
theorem skip_gd (hw : Region.wanted o t = false) (h : X) : if Region.wanted o t = true then o.wp P a w K Q else X := by
  rw [if_neg (by rw [hw]; simp)]; exact h
end ops
theorem unwanted_of {o : Oper} {ops : Array Oper} {ds : List (Option Tmp)} {f : Nat → Value} {a : Act} (hok : dstsOk ds = true) (j : Nat) (want b : Bool) (tm : Tmp) (hgu : o.guard = some (j, want)) (hd : (ops[j]?).bind (·.dst) = some tm) (hi : ds[j]? = some (some tm)) (hs : tm < a.tmps.size) (hf : f j = .bool b) (hb : b ≠ want) :
    Region.wanted o (yielded ops (putL ds f 0 a).tmps) = false := by
  have h1 := slot_in (f := f) hok j hi hs hf
  have h2 : (putL ds f 0 a).tmps[tm]? = some (.bool b) := by
    rw [Array.getD_eq_getD_getElem?] at h1
    rcases h : (putL ds f 0 a).tmps[tm]? with _ | u
    · rw [h] at h1; cases h1
    · rw [h] at h1; exact congrArg some h1
  have hd' : (Option.bind (ops[j]?) fun x => x.dst) = some tm := hd
  have hy : yielded ops (putL ds f 0 a).tmps j = some b := by
    unfold yielded
    rw [hd', Option.bind_some, h2]
  unfold Region.wanted
  rw [hgu]
  simp only [hy]
  cases b <;> cases want <;> simp_all
theorem not4 (b : Bool) (W : World) : (Op.unary .not (.bool b)).run Try.prog W = .ok (.bool (!b)) W := by simp [go_sem]
theorem neS1 (x y : Operand) (s u : ByteArray) (W : World) : (eqGuard .neq 9 x y (.string s) (.string u)).run Try.prog W = .ok () W := by kernel_rfl
theorem neS2 (s u : ByteArray) (W : World) : (binOp .neq 9 (.string s) (.string u)).run Try.prog W = .ok (.bool (!(s.toList == u.toList))) W := by simp [go_sem]
/-- what region 12 of the reference's Unpack knows -/
def rp12 (wr : World) (T : Value) (ok d : Bool) (L bs : List Int) (p : Option Addr) (c : Nat) (S : Nat → Bool) (f : Nat → Value) (W : World) : Prop :=
  Below wr.heap.size wr W ∧ (S 0 = true → f 0 = T) ∧ (S 1 = true → f 1 = .bool ok) ∧ (S 2 = true → f 2 = .bool (!ok)) ∧ (S 3 = true → f 3 = .bool (!ok)) ∧
  (ok = true → (S 4 = true → f 4 = T) ∧ (S 5 = true → W.ownsRow wr.heap.size 5 1 (f 5) L.length (L.map (.int .u8))) ∧ (S 6 = true → f 6 = .string (str (toU L))) ∧ (S 7 = true → f 7 = .slice p bs.length c) ∧ (S 8 = true → f 8 = .string (str (toU bs))) ∧ (S 9 = true → f 9 = .bool d)) ∧
  (S 10 = true → f 10 = .bool (!ok || d))

set_option maxHeartbeats 4000000 in
set_option maxRecDepth 100000 in
theorem refUnpack_any (p : Option Addr) (c : Nat) (bs : List Int) (w : World) (hx : Arr .u8 w p bs) (hbs : isBytes bs) (hl : bs.length ≤ 2000000) (hc : bs.length ≤ c) :
    Calls Try.prog 14 #[.slice p bs.length c] w (UnpR w (tabB bs) (fun b => .bool b)) := by
  obtain ⟨i0, hi0, hz0, hz1, hz2⟩ := info_parts Try.info56
  have hA : HasO (w.alloc (.cells (tabCs zeroMen none 0 0).toArray 29)) w.heap.size (.cells (tabCs zeroMen none 0 0).toArray 29 (0, 0)) := HasO.new _ _
  have hb := below_box w (.cells (tabCs zeroMen none 0 0).toArray 29)
  have hx2 := hx.call hb
  go_enter Try.func14, Try.ntmps14
  go_wp2_with fail
  show Calls Try.prog 11 _ (w.alloc (.cells (tabCs zeroMen none 0 0).toArray 29)) _
  refine (refOutline_any p c bs _ hx2 hbs hl hc).mono ?_
  have hi29 : Hid ((Try.prog.info? 29).map (·.size) = some (tabCs zeroMen none 0 0).toArray.size) := Lib.hid (by kernel_rfl)
  have hone : Hid ((tabCs zeroMen none 0 0).toArray.all (·.oneCell') = true) := Lib.hid (by kernel_rfl)
  rintro e w1 ⟨hb1, ⟨hn, rfl⟩ | ⟨m, v, hs, rfl, hown⟩⟩
  · have hG : Hid (tabB bs = none) := Lib.hid (by unfold tabB; rw [hn])
    have hA1 := (hA.call hb1).alloc (.cells zeroMen.cs.toArray 26)
    have hbw1 := below_call hb (by simp) hb1
    have hb2 := hbw1.alloc hbw1.size (.cells zeroMen.cs.toArray 26)
    have hT := HasO.new w1 (.cells zeroMen.cs.toArray 26)
    have hlt := (hA.call hb1).lt
    obtain ⟨w5, hw5⟩ : ∃ x, x = (w1.alloc (.cells zeroMen.cs.toArray 26)).setRow w1.heap.size zeroMen.cs.toArray := ⟨_, rfl⟩
    have hA5 : HasO w5 w.heap.size (.cells (tabCs zeroMen none 0 0).toArray 29 (0, 0)) := by rw [hw5]; exact hA1.setRow_far (by omega)
    have hb5 : Below w.heap.size w w5 := by rw [hw5]; exact setRow_below hb2 (by omega) hb2.size
    replace hw5 := Lib.hid hw5
    clear hA hb hx2 hA1 hb1 hbw1 hb2 hn
    go_wp2_with (first | (refine wpList_storeTo hw5 rfl 26 (.tmp 4) (.tmp 13) rfl rfl rfl 26 _ hT (by kernel_rfl) rfl (by kernel_rfl) ?_) | (refine wpList_storeAgg rfl 29 (.tmp 2) (.tmp 18) rfl w.heap.size (tabCs zeroMen none 0 0).toArray rfl rfl 29 _ hA5 hi29.out rfl hone.out ?_))
    refine bodyPost_ret (results_ct2 (fn := Try.f14) Try.results14 rfl (setRow_hasO hA5) (by kernel_rfl) rfl) rfl ?_
    exact ⟨setRow_below hb5 (Nat.le_refl _) hb5.size, .inl ⟨hG.out, rfl⟩⟩
  · obtain ⟨hv, hnpos, hn, hbody, _⟩ := outM_fact hs
    have hG : tabB bs = if tabOk m (entsL bs (countN m) (nBlk (countN m))) = true ∧ packL m (entsL bs (countN m) (nBlk (countN m))) = bs then some (m, entsL bs (countN m) (nBlk (countN m))) else none := by unfold tabB; rw [hs]
    have hlen := outM_len hs
    have hN0 : 0 < nBlk (countN m) := by unfold nBlk; omega
    obtain ⟨gb, cb, rfl, hgb, hgl, hcb, hcell⟩ := rblk_cells hown hN0
    have hA1 := (hA.call hb1).alloc (.cells zeroMen.cs.toArray 26)
    have hbw1 := below_call hb (by simp) hb1
    have hb2 := hbw1.alloc hbw1.size (.cells zeroMen.cs.toArray 26)
    have hT := HasO.new w1 (.cells zeroMen.cs.toArray 26)
    have hlt := (hA.call hb1).lt
    obtain ⟨w5, hw5⟩ : ∃ x, x = (w1.alloc (.cells zeroMen.cs.toArray 26)).setRow w1.heap.size m.cs.toArray := ⟨_, rfl⟩
    have hB15 : Below w1.heap.size w1 w5 := by rw [hw5]; exact setRow_below (below_box _ _) (Nat.le_refl _) (by simp)
    have hM5 : HasO w5 w1.heap.size (.cells m.cs.toArray 26 (0, 0)) := by rw [hw5]; exact setRow_hasO hT
    replace hw5 := Lib.hid hw5
    replace hcell := Lib.hid hcell
    replace hG := Lib.hid hG
    replace hs := Lib.hid hs
    replace hbody := Lib.hid hbody
    replace hv := Lib.hid hv
    have hA5 : HasO w5 w.heap.size (.cells (tabCs zeroMen none 0 0).toArray 29 (0, 0)) := (hA.call hb1).call hB15
    have hb5 := below_call hbw1 hbw1.size hB15
    have hc5 := hM5.cells
    have hl5 := hM5.lt
    clear hA hb hx2 hA1 hb1 hbw1 hb2 hown
    go_wp2_with (first | (refine wpList_storeTo hw5 rfl 26 (.tmp 4) (.tmp 13) rfl rfl rfl 26 _ hT (by kernel_rfl) rfl (men_one m) ?_))
    have hxB := hx.call hb5
    have hTB : HasO (w5.alloc (.cells (tabV m (.slice none 0 0)).toArray 29)) w5.heap.size (.cells (tabV m (.slice none 0 0)).toArray 29 (0, 0)) := HasO.new _ _
    have hbB := hb5.alloc hb5.size (.cells (tabV m (.slice none 0 0)).toArray 29)
    have hAB := hA5.alloc (.cells (tabV m (.slice none 0 0)).toArray 29)
    have hB1B := hB15.alloc hB15.size (.cells (tabV m (.slice none 0 0)).toArray 29)
    have hltq := hA5.lt
    have hgq : gb < w5.heap.size := by have := hB15.size; omega
    show Code.wp _ _ _ _ (w5.alloc (.cells (tabV m (.slice none 0 0)).toArray 29))
    generalize w5.alloc (.cells (tabV m (.slice none 0 0)).toArray 29) = wB at *
    obtain ⟨qt, hqt⟩ : ∃ x, x = w5.heap.size := ⟨_, rfl⟩
    rw [← hqt] at hTB hltq hgq ⊢
    have hqB := hTB.lt
    have hgo : ∃ g o, p = some ⟨g, o, none⟩ ∧ g < w.heap.size := by
      obtain ⟨g, o, e1, e2, _⟩ := hx.at hlen
      exact ⟨g, o, e1, e2⟩
    obtain ⟨g, o, rfl, hg0⟩ := hgo
    have hbyB := bytesAt_arr (hx.call hbB) hlen
    have hB4 : Hid (∀ j, wB.cell? ⟨gb, j, none⟩ = w1.cell? ⟨gb, j, none⟩) := Lib.hid (fun j => hB1B.cell (p := ⟨gb, j, none⟩) hgl)
    obtain ⟨n, hnn⟩ : ∃ n, n = countN m := ⟨_, rfl⟩
    rw [← hnn] at hn hnpos hN0 hcb hcell hG hbody ⊢
    obtain ⟨N, hN⟩ : ∃ N, N = nBlk n := ⟨_, rfl⟩
    rw [← hN] at hN0 hcb hcell hG ⊢
    have hN1 : n ≤ 32 * N ∧ 32 * N < n + 32 := by rw [hN]; unfold nBlk; omega
    have hN2 : Hid (N = nBlk n) := Lib.hid hN
    have hNi : (N : Int) ≤ 8193 := by omega
    have hgqt : g < qt := by omega
    clear hN hqt hT hM5 hc5 hl5 hw5 hB15 hB1B hb5 hA5 hxB hgl hlt
    replace hnn := Lib.hid hnn
    go_loopw [8] (fun iv wr => ∃ k : Nat, k ≤ N ∧ iv = .int .i64 k ∧ Below qt wB wr ∧ wB.heap.size ≤ wr.heap.size ∧ ∃ v, HasO wr qt (.cells (tabV m v).toArray 29 (0, 0)) ∧ wr.ownsRow qt 56 1 v (entsL bs n k).length ((entsL bs n k).map (.int .i16))) (fun iv _ => N - (intOf iv).toNat)
    case atStart => exact ⟨0, Nat.zero_le _, rfl, Below.refl _ _, Nat.le_refl _, _, hTB, World.ownsRow_nil _ _ _ _⟩
    case round =>
      clear hTB
      obtain ⟨k, hk, rfl, hbw, hzw, v, hq, hown⟩ := hrel
      by_cases hlt : k < N
      · have hlt2 : (k : Int) < N := by omega
        have hmany : manyB n k ≤ 32 := by unfold manyB; omega
        have hmi : (manyB n k : Int) ≤ 32 := by omega
        go_wp2_with fail
        go_loopw [9] (fun iv w2 => ∃ i : Nat, i ≤ manyB n k ∧ iv = .int .i64 i ∧ Below qt wB w2 ∧ wB.heap.size ≤ w2.heap.size ∧ ∃ v, HasO w2 qt (.cells (tabV m v).toArray 29 (0, 0)) ∧ w2.ownsRow qt 56 1 v (entsL bs n k ++ entsB bs n k i).length ((entsL bs n k ++ entsB bs n k i).map (.int .i16))) (fun iv _ => manyB n k - (intOf iv).toNat)
        case atStart => exact ⟨0, Nat.zero_le _, rfl, hbw, hzw, v, hq, by simpa [entsB] using hown⟩
        case round =>
          clear hbw hzw hq hown
          obtain ⟨i, hi, rfl, hbw, hzw, v, hq, hown⟩ := hrel
          have x3 := (hbw.cell (p := ⟨gb, k * 4 + 3, none⟩) hgq).trans ((hB4.out _).trans (hcell.out k hlt 3 (by omega)))
          have x3' : wr.cell? ⟨gb, k * 4 + 3, none⟩ = some (.int .i64 (manyB n k)) := x3
          have hgw : gb < wr.heap.size := by omega
          clear x3
          by_cases hil : i < manyB n k
          · have hil2 : (i : Int) < manyB n k := by omega
            obtain ⟨x, hx'⟩ : ∃ x, x = entB bs n k i := ⟨_, rfl⟩
            obtain ⟨es, hes⟩ : ∃ l, l = entsL bs n k ++ entsB bs n k i := ⟨_, rfl⟩
            have hnext : entsL bs n k ++ entsB bs n k (i + 1) = es ++ [x] := by rw [hes, hx']; simp [entsB]
            have hesl : es.length ≤ 262144 := by
              rw [hes, List.length_append, entsB_len, entsL_len _ _ _ (by rw [← hN2.out]; omega)]
              have : manyB n k = min 32 (n - 32 * k) := rfl
              omega
            rw [← hes] at hown
            replace hnext := Lib.hid hnext
            replace hx' := Lib.hid hx'
            clear hes
            have hsl := own_slice hown
            go_wp2_with fail
            refine wp_region_relL (by kernel_rfl) (by kernel_rfl) [some 36, some 37, some 38, some 39, some 40, some 41, some 42, some 43, some 44, some 45, some 46, some 47, none] (by rfl) (by rfl)
              (rupR wB qt m (fun j => [.pointer (some ⟨qt, 12, none⟩), v, .slice (some ⟨g, o, none⟩) bs.length c, .slice (some ⟨gb, 0, none⟩) N cb, .int .i64 k, .pointer (some ⟨gb, k * 4, none⟩), .agg (rblkCs (widB bs n k) (lowB bs n k) (posB bs n k + 3) (manyB n k)).toArray, .int .i64 i, .int .i16 x, undef, undef, .pointer (some ⟨qt, 12, none⟩)].getD j undef) v es.length es x)
              rupR_congr ?h0 ?hstep ?hend
            case h0 =>
              intro f
              exact ⟨⟨hbw.drew, _, hq⟩, (fun _ _ _ _ h => by cases h), fun _ => ⟨own_call hown (Below.refl _ _).drew, hq⟩, (fun h => by cases h), (fun h => by cases h), (fun h => by cases h)⟩
            case hstep =>
              intro S j op f W ho hj hSj hpre hcl hR K hK
              have hj : j < 13 := hj
              obtain ⟨⟨c1, u, c3⟩, h1, h2, h3, h4, h5⟩ := id hR
              have hqW : qt ≤ W.heap.size := Nat.le_of_lt c3.lt
              rcases (by omega : j = 0 ∨ j = 1 ∨ j = 2 ∨ j = 3 ∨ j = 4 ∨ j = 5 ∨ j = 6 ∨ j = 7 ∨ j = 8 ∨ j = 9 ∨ j = 10 ∨ j = 11 ∨ j = 12) with rfl | rfl | rfl | rfl | rfl | rfl | rfl | rfl | rfl | rfl | rfl | rfl | rfl
              · exact st_field (by injection ho with h; rw [← h]; rfl) 29 (.tmp 7) 1 (by injection ho with h; rw [← h]; rfl) (rd_out rfl rfl) (n := 12) (by kernel_rfl) (hK _ _ (rupR_step hR 0 (by decide) (Below.refl _ _)))
              · have h10 : S 10 = false := by
                  rcases h : S 10 with _ | _
                  · rfl
                  · have := hcl 10 _ h rfl ⟨1, .data⟩ (by simp) rfl
                    rw [hSj] at this; cases this
                exact st_loadS (by injection ho with h; rw [← h]; rfl) 27 (.tmp 36) (by injection ho with h; rw [← h]; rfl) (rd_in rfl 0 rfl (by simp) (h1 0 (by omega) (by omega) (by omega) (hpre ⟨0, .data⟩ (by injection ho with h; rw [← h]; simp) rfl))) (by kernel_rfl) ((h2 h10).2.cells 12) (hK _ _ (rupR_step hR 1 (by decide) (Below.refl _ _)))
              · exact st_move (by injection ho with h; rw [← h]; rfl) (.tmp 0) (by injection ho with h; rw [← h]; rfl) (rd_out rfl rfl) (hK _ _ (rupR_step hR 2 (by decide) (Below.refl _ _)))
              · exact st_move (by injection ho with h; rw [← h]; rfl) (.tmp 5) (by injection ho with h; rw [← h]; rfl) (rd_out rfl rfl) (hK _ _ (rupR_step hR 3 (by decide) (Below.refl _ _)))
              · exact st_move (by injection ho with h; rw [← h]; rfl) (.tmp 8) (by injection ho with h; rw [← h]; rfl) (rd_out rfl rfl) (hK _ _ (rupR_step hR 4 (by decide) (Below.refl _ _)))
              · exact st_index (by injection ho with h; rw [← h]; rfl) 38 (.tmp 39) (.tmp 40) (by injection ho with h; rw [← h]; rfl) (rd_in rfl 3 rfl (by simp) (h1 3 (by omega) (by omega) (by omega) (hpre ⟨3, .data⟩ (by injection ho with h; rw [← h]; simp) rfl))) (rd_in rfl 4 rfl (by simp) (h1 4 (by omega) (by omega) (by omega) (hpre ⟨4, .data⟩ (by injection ho with h; rw [← h]; simp) rfl))) (index38 W gb N cb k hlt) (hK _ _ (rupR_step hR 5 (by decide) (Below.refl _ _)))
              · exact st_loadA (by injection ho with h; rw [← h]; rfl) 53 (.tmp 41) (by injection ho with h; rw [← h]; rfl) (rd_in rfl 5 rfl (by simp) (h1 5 (by omega) (by omega) (by omega) (hpre ⟨5, .data⟩ (by injection ho with h; rw [← h]; simp) rfl))) (rblkCs (widB bs n k) (lowB bs n k) (posB bs n k + 3) (manyB n k)) (by kernel_rfl) (fun j v hv => by
                    have hj : j < 4 := (List.getElem?_eq_some_iff.1 hv).1
                    rw [c1.cell (p := ⟨gb, k * 4 + j, none⟩) hgq, hB4.out, hcell.out k hlt j hj]; exact hv) (hK _ _ (rupR_step hR 6 (by decide) (Below.refl _ _)))
              · exact st_move (by injection ho with h; rw [← h]; rfl) (.tmp 9) (by injection ho with h; rw [← h]; rfl) (rd_out rfl rfl) (hK _ _ (rupR_step hR 7 (by decide) (Below.refl _ _)))
              · have hby : BytesAt W g o bs 0 bs.length := fun j hj => by rw [Nat.zero_add] ; rw [c1.cell (p := ⟨g, o + j, none⟩) hgqt]; have := hbyB.1 j hj; rw [Nat.zero_add] at this; exact this
                have hget := rblk_get (g := g) (o := o) (c := c) (k := k) (i := i) W hbs hbody.out (by rw [← hN2.out]; exact hlt) hil hby (by omega) hl
                rw [← hx'.out] at hget
                refine st_call3 (by injection ho with h; rw [← h]; rfl) 31 (.tmp 38) (.tmp 42) (.tmp 43) #[31, 53, 3] (by injection ho with h; rw [← h]; rfl) (rd_in rfl 2 rfl (by simp) (h1 2 (by omega) (by omega) (by omega) (hpre ⟨2, .data⟩ (by injection ho with h; rw [← h]; simp) rfl))) (rd_in rfl 6 rfl (by simp) (h1 6 (by omega) (by omega) (by omega) (hpre ⟨6, .data⟩ (by injection ho with h; rw [← h]; simp) rfl))) (rd_in rfl 7 rfl (by simp) (h1 7 (by omega) (by omega) (by omega) (hpre ⟨7, .data⟩ (by injection ho with h; rw [← h]; simp) rfl))) (enters_of Try.func31 (by kernel_rfl) rfl) hget ?_ ?_ ?_
                · rintro u W' ⟨e, hb'⟩
                  injection e with e
                  subst e
                  exact hK _ _ (rupR_step hR 8 (by decide) hb')
                · rintro ch W' ⟨e, _⟩; cases e
                · rintro W' ⟨e, _⟩; cases e
              · exact st_buildSlice1 (by injection ho with h; rw [← h]; rfl) 27 (.tmp 44) (by injection ho with h; rw [← h]; rfl) (rd_in rfl 8 rfl (by simp) (h1 8 (by omega) (by omega) (by omega) (hpre ⟨8, .data⟩ (by injection ho with h; rw [← h]; simp) rfl))) (bs27 x W) (hK _ _ (rupR_9 hR))
              · obtain ⟨q, e5, ex⟩ := h3 (hpre ⟨9, .data⟩ (by injection ho with h; rw [← h]; simp) rfl) hSj
                have h12 : S 12 = false := by
                  rcases h : S 12 with _ | _
                  · rfl
                  · have := hcl 12 _ h rfl ⟨10, .data⟩ (by simp) rfl
                    rw [hSj] at this; cases this
                refine st_append (by injection ho with h; rw [← h]; rfl) (.tmp 37) (.tmp 45) 27 (by injection ho with h; rw [← h]; rfl) qt 56 i0 (.int .i16 0) 1 2 Try.underlying27 hi0 hz0 hz1 hz2 rfl (by decide) v es.length (es.map (.int .i16)) (rd_in rfl 1 rfl (by simp) (h1 1 (by omega) (by omega) (by omega) (hpre ⟨1, .data⟩ (by injection ho with h; rw [← h]; simp) rfl))) (h2 hSj).1
                  ⟨q, 0, none⟩ 1 1 [.int .i16 x] (rd_in rfl 9 rfl (by simp) e5) rfl (fun j u hu => ?_) (fun u hu => ?_) (by omega) hqW ?_
                · rcases j with _ | j
                  · simp at hu; subst hu; rw [Addr.add_lit]; exact ex
                  · simp at hu
                · simp at hu; subst hu; rfl
                · intro v' W' hown' hg' _
                  exact hK _ _ (rupR_10 hR hSj h12 (by simpa using hown') hg')
              · exact st_field (by injection ho with h; rw [← h]; rfl) 29 (.tmp 7) 1 (by injection ho with h; rw [← h]; rfl) (rd_out rfl rfl) (n := 12) (by kernel_rfl) (hK _ _ (rupR_step hR 11 (by decide) (Below.refl _ _)))
              · have h10 : S 10 = true := (hpre ⟨10, .data⟩ (by injection ho with h; rw [← h]; simp) rfl)
                obtain ⟨vp, vn, vc', ev⟩ := own_slice (h4 h10)
                exact st_storeS (by injection ho with h; rw [← h]; rfl) 27 (.tmp 47) (.tmp 46) (by injection ho with h; rw [← h]; rfl) (rd_in rfl 11 rfl (by simp) (h1 11 (by omega) (by omega) (by omega) (hpre ⟨11, .data⟩ (by injection ho with h; rw [← h]; simp) rfl))) (rd_in rfl 10 rfl (by simp) rfl) (by kernel_rfl) (by rw [ev]; rfl) (c3.cells 12) (c3.frozen 12) (hK _ _ (rupR_12 hR h10))
            case hend =>
              intro S f W hS hR
              obtain ⟨⟨c1, u, c3⟩, _, _, _, h4, h5⟩ := hR
              have hown' := h4 (hS 10 (by decide))
              have hq' := h5 (hS 12 (by decide))
              have hzW : wB.heap.size ≤ W.heap.size := c1.size
              rw [show es.length + 1 = (es ++ [x]).length by simp] at hown'
              rw [← hnext.out] at hown'
              clear hsl hown hq hbw h4 h5 hS
              simp only [putL, Act.put, List.setIfInBounds_toArray, List.set_cons_succ, List.set_cons_zero]
              go_wp2_with fail
              go_roundw
              case rel => exact ⟨i + 1, by omega, by go_num, c1, hzW, _, hq', hown'⟩
              case measure => simp [intOf]; omega
          · obtain rfl : i = manyB n k := by omega
            have hil2 : ¬ ((manyB n k : Nat) : Int) < manyB n k := by omega
            go_wp2_with fail
            go_roundw
            case rel => exact ⟨k + 1, by omega, by go_num, hbw, hzw, v, hq, hown⟩
            case measure => simp [intOf]; omega
      · obtain rfl : k = N := by omega
        have hlt2 : ¬ ((k : Nat) : Int) < k := by omega
        have hEl : (entsL bs n k).length = n := by rw [hN2.out]; exact entsL_all bs n
        have hArr : HasO wr w.heap.size (.cells (tabCs zeroMen none 0 0).toArray 29 (0, 0)) := hAB.below hbw hltq
        have hbW : Below w.heap.size w wr := hbB.trans (hbw.mono (by omega))
        have hxr := hx.call hbW
        obtain ⟨es, hes⟩ : ∃ x, x = entsL bs n k := ⟨_, rfl⟩
        rw [← hes] at hG hown hEl
        clear hes hcell hB4
        obtain ⟨p4, c4, rfl, hc4, hA4⟩ := own_arr hown
        have hesl : es.length ≤ 262144 := by omega
        obtain ⟨ok, hok⟩ : ∃ x, tabOk m es = x := ⟨_, rfl⟩
        obtain ⟨L, hL⟩ : ∃ x, packL m es = x := ⟨_, rfl⟩
        have hL0 : 0 < L.length := by rw [← hL]; exact packL_len m es
        obtain ⟨d, hd⟩ : ∃ x, (!((str (toU L)).toList == (str (toU bs)).toList)) = x := ⟨_, rfl⟩
        replace hok := Lib.hid hok
        replace hL := Lib.hid hL
        replace hd := Lib.hid hd
        replace hEl := Lib.hid hEl
        go_wp2_with fail
        refine wp_region_relL (by kernel_rfl) (by kernel_rfl) [some 48, some 49, some 50, some 51, some 52, some 53, some 54, some 55, some 56, some 57, some 58] (by rfl) (by rfl) (rp12 wr (.agg (tabV m (.slice p4 es.length c4)).toArray) ok d L bs (some ⟨g, o, none⟩) c) ?hcong ?h0 ?hstep ?hend
        case hcong =>
          intro S S' f W h hR
          unfold rp12 at hR ⊢
          rw [← h 0 (by decide), ← h 1 (by decide), ← h 2 (by decide), ← h 3 (by decide), ← h 4 (by decide), ← h 5 (by decide), ← h 6 (by decide), ← h 7 (by decide), ← h 8 (by decide), ← h 9 (by decide), ← h 10 (by decide)]
          exact hR
        case h0 =>
          intro f
          exact ⟨(Below.refl _ _).drew, (fun h => by cases h), (fun h => by cases h), (fun h => by cases h), (fun h => by cases h), (fun _ => ⟨(fun h => by cases h), (fun h => by cases h), (fun h => by cases h), (fun h => by cases h), (fun h => by cases h), (fun h => by cases h)⟩), (fun h => by cases h)⟩
        case hstep =>
          intro S j op f W ho hj hSj hpre hcl hR K hK
          have hj : j < 11 := hj
          obtain ⟨c1, h0, h1, h2, h3, h4, h10⟩ := id hR
          have hqW := hq.call c1
          have hA4W := hA4.call c1
          have hxW := hxr.call c1
          rcases (by omega : j = 0 ∨ j = 1 ∨ j = 2 ∨ j = 3 ∨ j = 4 ∨ j = 5 ∨ j = 6 ∨ j = 7 ∨ j = 8 ∨ j = 9 ∨ j = 10) with rfl | rfl | rfl | rfl | rfl | rfl | rfl | rfl | rfl | rfl | rfl
          · refine st_loadA (by injection ho with h; rw [← h]; rfl) 29 (.tmp 7) (by injection ho with h; rw [← h]; rfl) (rd_out rfl rfl) (tabV m (.slice p4 es.length c4)) (by kernel_rfl) (fun j v hv => by rw [Nat.zero_add, hqW.cells j]; simpa using hv) (hK _ _ ?_)
            exact ⟨c1, fun _ => rfl, h1, h2, h3, h4, h10⟩
          · refine st_call1 (by injection ho with h; rw [← h]; rfl) 9 (.tmp 48) #[29] (by injection ho with h; rw [← h]; rfl) (rd_in rfl 0 rfl (by simp) (h0 (hpre ⟨0, .data⟩ (by injection ho with h; rw [← h]; simp) rfl))) (fun _ _ => rfl) (refTab_any m p4 c4 es W hA4W (by omega)) ?_ ?_ ?_
            · rintro u W' ⟨e, hb'⟩
              injection e with e
              subst e
              exact hK _ _ ⟨below_call c1 c1.size hb', h0, fun _ => by show Value.bool (tabOk m es) = .bool ok; rw [hok.out], h2, h3, fun h => ⟨(h4 h).1, fun h5 => own_call ((h4 h).2.1 h5) hb', (h4 h).2.2⟩, h10⟩
            · rintro ch W' ⟨e, _⟩; cases e
            · rintro W' ⟨e, _⟩; cases e
          · refine st_unop (by injection ho with h; rw [← h]; rfl) .not 4 (.tmp 49) (by injection ho with h; rw [← h]; rfl) (rd_in rfl 1 rfl (by simp) (h1 (hpre ⟨1, .data⟩ (by injection ho with h; rw [← h]; simp) rfl))) (not4 _ _) (hK _ _ ?_)
            exact ⟨c1, h0, h1, fun _ => rfl, h3, h4, h10⟩
          · refine st_move (by injection ho with h; rw [← h]; rfl) (.tmp 50) (by injection ho with h; rw [← h]; rfl) (rd_in rfl 2 rfl (by simp) (h2 (hpre ⟨2, .data⟩ (by injection ho with h; rw [← h]; simp) rfl))) (hK _ _ ?_)
            exact ⟨c1, h0, h1, h2, fun _ => rfl, h4, h10⟩
          · rcases ok with _ | _
            · refine skip_gd (unwanted_of rfl 3 false true 51 (by injection ho with h; rw [← h]; rfl) rfl rfl (by simp) (h3 (hpre ⟨3, .guard⟩ (by injection ho with h; rw [← h]; simp) rfl)) (by decide)) (hK _ _ ?_)
              exact ⟨c1, h0, h1, h2, h3, (fun h => by cases h), h10⟩
            · obtain ⟨g4, g5, g6, g7, g8, g9⟩ := h4 rfl
              refine gd (wanted_of rfl 3 false 51 (by injection ho with h; rw [← h]; rfl) rfl rfl (by simp) (h3 (hpre ⟨3, .guard⟩ (by injection ho with h; rw [← h]; simp) rfl))) (st_loadA rfl 29 (.tmp 7) (by injection ho with h; rw [← h]; rfl) (rd_out rfl rfl) (tabV m (.slice p4 es.length c4)) (by kernel_rfl) (fun j v hv => by rw [Nat.zero_add, hqW.cells j]; simpa using hv) (hK _ _ ?_))
              exact ⟨c1, h0, h1, h2, h3, fun _ => ⟨fun _ => rfl, g5, g6, g7, g8, g9⟩, h10⟩
          · rcases ok with _ | _
            · refine skip_gd (unwanted_of rfl 3 false true 51 (by injection ho with h; rw [← h]; rfl) rfl rfl (by simp) (h3 (hpre ⟨3, .guard⟩ (by injection ho with h; rw [← h]; simp) rfl)) (by decide)) (hK _ _ ?_)
              exact ⟨c1, h0, h1, h2, h3, (fun h => by cases h), h10⟩
            · obtain ⟨g4, g5, g6, g7, g8, g9⟩ := h4 rfl
              refine gd (wanted_of rfl 3 false 51 (by injection ho with h; rw [← h]; rfl) rfl rfl (by simp) (h3 (hpre ⟨3, .guard⟩ (by injection ho with h; rw [← h]; simp) rfl))) (st_call1 rfl 10 (.tmp 52) #[29] (by injection ho with h; rw [← h]; rfl) (rd_in rfl 4 rfl (by simp) (g4 (hpre ⟨4, .data⟩ (by injection ho with h; rw [← h]; simp) rfl))) (fun _ _ => rfl) (refPack_any m p4 c4 es W hv hA4W (tabOk_facts hok.out).2.2.2.2 (by omega) hc4) ?_ ?_ ?_)
              · rintro u W' ⟨v', e', hown', hb'⟩
                injection e' with e'
                subst e'
                rw [hL.out] at hown'
                exact hK _ _ ⟨below_call c1 c1.size hb', h0, h1, h2, h3, fun _ => ⟨g4, fun _ => own_mono hown' c1.size, g6, g7, g8, g9⟩, h10⟩
              · rintro ch W' ⟨v', e', _⟩; cases e'
              · rintro W' ⟨v', e', _⟩; cases e'
          · rcases ok with _ | _
            · refine skip_gd (unwanted_of rfl 3 false true 51 (by injection ho with h; rw [← h]; rfl) rfl rfl (by simp) (h3 (hpre ⟨3, .guard⟩ (by injection ho with h; rw [← h]; simp) rfl)) (by decide)) (hK _ _ ?_)
              exact ⟨c1, h0, h1, h2, h3, (fun h => by cases h), h10⟩
            · obtain ⟨g4, g5, g6, g7, g8, g9⟩ := h4 rfl
              have d5 := g5 (hpre ⟨5, .data⟩ (by injection ho with h; rw [← h]; simp) rfl)
              obtain ⟨p5, c5, e5, _, hA5'⟩ := own_arr d5
              obtain ⟨g5', o5, rfl, _, hcc5⟩ := hA5'.at hL0
              refine gd (wanted_of rfl 3 false 51 (by injection ho with h; rw [← h]; rfl) rfl rfl (by simp) (h3 (hpre ⟨3, .guard⟩ (by injection ho with h; rw [← h]; simp) rfl))) (st_convert rfl 31 9 (.tmp 53) (by injection ho with h; rw [← h]; rfl) (rd_in rfl 5 rfl (by simp) e5) (conv_at L hcc5 rfl) (hK _ _ ?_))
              exact ⟨c1, h0, h1, h2, h3, fun _ => ⟨g4, g5, fun _ => rfl, g7, g8, g9⟩, h10⟩
          · rcases ok with _ | _
            · refine skip_gd (unwanted_of rfl 3 false true 51 (by injection ho with h; rw [← h]; rfl) rfl rfl (by simp) (h3 (hpre ⟨3, .guard⟩ (by injection ho with h; rw [← h]; simp) rfl)) (by decide)) (hK _ _ ?_)
              exact ⟨c1, h0, h1, h2, h3, (fun h => by cases h), h10⟩
            · obtain ⟨g4, g5, g6, g7, g8, g9⟩ := h4 rfl
              refine gd (wanted_of rfl 3 false 51 (by injection ho with h; rw [← h]; rfl) rfl rfl (by simp) (h3 (hpre ⟨3, .guard⟩ (by injection ho with h; rw [← h]; simp) rfl))) (st_move rfl (.tmp 0) (by injection ho with h; rw [← h]; rfl) (rd_out rfl rfl) (hK _ _ ?_))
              exact ⟨c1, h0, h1, h2, h3, fun _ => ⟨g4, g5, g6, fun _ => rfl, g8, g9⟩, h10⟩
          · rcases ok with _ | _
            · refine skip_gd (unwanted_of rfl 3 false true 51 (by injection ho with h; rw [← h]; rfl) rfl rfl (by simp) (h3 (hpre ⟨3, .guard⟩ (by injection ho with h; rw [← h]; simp) rfl)) (by decide)) (hK _ _ ?_)
              exact ⟨c1, h0, h1, h2, h3, (fun h => by cases h), h10⟩
            · obtain ⟨g4, g5, g6, g7, g8, g9⟩ := h4 rfl
              obtain ⟨gX, oX, eX, _, hccX⟩ := hxW.at hlen
              injection eX with eX
              injection eX with eX1 eX2
              subst eX1; subst eX2
              refine gd (wanted_of rfl 3 false 51 (by injection ho with h; rw [← h]; rfl) rfl rfl (by simp) (h3 (hpre ⟨3, .guard⟩ (by injection ho with h; rw [← h]; simp) rfl))) (st_convert rfl 31 9 (.tmp 55) (by injection ho with h; rw [← h]; rfl) (rd_in rfl 7 rfl (by simp) (g7 (hpre ⟨7, .data⟩ (by injection ho with h; rw [← h]; simp) rfl))) (conv_at bs hccX rfl) (hK _ _ ?_))
              exact ⟨c1, h0, h1, h2, h3, fun _ => ⟨g4, g5, g6, g7, fun _ => rfl, g9⟩, h10⟩
          · rcases ok with _ | _
            · refine skip_gd (unwanted_of rfl 3 false true 51 (by injection ho with h; rw [← h]; rfl) rfl rfl (by simp) (h3 (hpre ⟨3, .guard⟩ (by injection ho with h; rw [← h]; simp) rfl)) (by decide)) (hK _ _ ?_)
              exact ⟨c1, h0, h1, h2, h3, (fun h => by cases h), h10⟩
            · obtain ⟨g4, g5, g6, g7, g8, g9⟩ := h4 rfl
              refine gd (wanted_of rfl 3 false 51 (by injection ho with h; rw [← h]; rfl) rfl rfl (by simp) (h3 (hpre ⟨3, .guard⟩ (by injection ho with h; rw [← h]; simp) rfl))) (st_bin rfl .neq 9 9 (.tmp 54) (.tmp 56) (by injection ho with h; rw [← h]; rfl) (rd_in rfl 6 rfl (by simp) (g6 (hpre ⟨6, .data⟩ (by injection ho with h; rw [← h]; simp) rfl))) (rd_in rfl 8 rfl (by simp) (g8 (hpre ⟨8, .data⟩ (by injection ho with h; rw [← h]; simp) rfl))) (neS1 _ _ _ _ _) (neS2 _ _ _) (hK _ _ ?_))
              exact ⟨c1, h0, h1, h2, h3, fun _ => ⟨g4, g5, g6, g7, g8, fun _ => by show Value.bool _ = .bool d; rw [hd.out]⟩, h10⟩
          · rcases ok with _ | _
            · refine st_pickT (by injection ho with h; rw [← h]; rfl) (.tmp 51) (.const (.bool true)) (.tmp 57) (by injection ho with h; rw [← h]; rfl) (rd_in rfl 3 rfl (by simp) (h3 (hpre ⟨3, .data⟩ (by injection ho with h; rw [← h]; simp) rfl))) rfl (hK _ _ ?_)
              exact ⟨c1, h0, h1, h2, h3, h4, fun _ => rfl⟩
            · obtain ⟨g4, g5, g6, g7, g8, g9⟩ := h4 rfl
              refine st_pickF (by injection ho with h; rw [← h]; rfl) (.tmp 51) (.const (.bool true)) (.tmp 57) (by injection ho with h; rw [← h]; rfl) (rd_in rfl 3 rfl (by simp) (h3 (hpre ⟨3, .data⟩ (by injection ho with h; rw [← h]; simp) rfl))) (rd_in rfl 9 rfl (by simp) (g9 (hpre ⟨9, .data⟩ (by injection ho with h; rw [← h]; simp) rfl))) (hK _ _ ?_)
              exact ⟨c1, h0, h1, h2, h3, h4, fun _ => rfl⟩
        case hend =>
          intro S f W hS hR
          obtain ⟨c1, h0, h1, h2, h3, h4, h10⟩ := hR
          have d10 := h10 (hS 10 (by decide))
          have hAW := hArr.call c1
          have hqW := hq.call c1
          have hbWW := below_call hbW hbW.size c1
          have hownW := own_call hown c1
          clear h0 h1 h2 h3 h4 h10 hS
          simp only [putL, Act.put, List.setIfInBounds_toArray, List.set_cons_succ, List.set_cons_zero]
          rw [d10]
          rcases ok with _ | _
          · simp only [Bool.not_false, Bool.true_or]
            have hG2 : Hid (tabB bs = none) := Lib.hid (by rw [hG.out, if_neg (by rw [hok.out]; simp)])
            go_wp2_with (refine wpList_storeAgg rfl 29 (.tmp 2) (.tmp 59) rfl w.heap.size (tabCs zeroMen none 0 0).toArray rfl rfl 29 _ hAW hi29.out rfl hone.out ?_)
            refine bodyPost_ret (results_ct2 (fn := Try.f14) Try.results14 rfl (setRow_hasO hAW) (by kernel_rfl) rfl) rfl ?_
            exact ⟨setRow_below hbWW (Nat.le_refl _) hbWW.size, .inl ⟨hG2.out, rfl⟩⟩
          · simp only [Bool.not_true, Bool.false_or]
            by_cases heq : L = bs
            · obtain rfl : d = false := by rw [← hd.out, heq]; simp
              have hG2 : Hid (tabB bs = some (m, es)) := Lib.hid (by rw [hG.out, if_pos ⟨hok.out, by rw [hL.out, heq]⟩])
              clear heq
              go_wp2_with (first | (with_reducible refine wpList_loadO rfl 29 (.tmp 7) rfl qt (tabV m (.slice p4 es.length c4)).toArray 29 rfl hqW (by kernel_rfl) ?_) | (with_reducible refine wpList_storeAgg rfl 29 (.tmp 2) (.tmp 60) rfl w.heap.size (tabV m (.slice p4 es.length c4)).toArray rfl rfl 29 _ hAW (by kernel_rfl) rfl (by kernel_rfl) ?_))
              refine bodyPost_ret (results_ct2 (fn := Try.f14) Try.results14 rfl (setRow_hasO hAW) (by kernel_rfl) rfl) rfl ?_
              refine ⟨setRow_below hbWW (Nat.le_refl _) hbWW.size, .inr ⟨m, es, p4, c4, hG2.out, hc4, rfl, ?_⟩⟩
              have hne5 := own_ne hownW hAW (by simp)
              refine (setRow_alt _ w.heap.size _).own (own_mono hownW (by omega)) (fun x e => ?_)
              rcases Nat.lt_trichotomy x w.heap.size with h | h | h
              · exact .inl h
              · exact absurd (by rw [← h]; exact e) hne5
              · exact .inr h
            · have hLb : isBytes L := by rw [← hL.out]; exact packL_bytes hok.out
              obtain rfl : d = true := by
                rw [← hd.out]
                have hne : (str (toU L)).toList ≠ (str (toU bs)).toList := fun e => heq (toU_inj hLb hbs (by rw [str_toList, str_toList] at e; exact e))
                simpa using hne
              have hG2 : Hid (tabB bs = none) := Lib.hid (by rw [hG.out, if_neg (fun h => heq (by rw [← hL.out]; exact h.2))])
              clear heq
              go_wp2_with (refine wpList_storeAgg rfl 29 (.tmp 2) (.tmp 59) rfl w.heap.size (tabCs zeroMen none 0 0).toArray rfl rfl 29 _ hAW hi29.out rfl hone.out ?_)
              refine bodyPost_ret (results_ct2 (fn := Try.f14) Try.results14 rfl (setRow_hasO hAW) (by kernel_rfl) rfl) rfl ?_
              exact ⟨setRow_below hbWW (Nat.le_refl _) hbWW.size, .inl ⟨hG2.out, rfl⟩⟩
end Go.Proofs.Ytddkhnnpeonbgaa
