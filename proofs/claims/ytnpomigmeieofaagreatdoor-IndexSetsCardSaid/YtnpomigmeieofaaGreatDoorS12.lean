import Derived.Test.YtnpomigmeieofaaGreatDoorS03
import Derived.Test.YtnpomigmeieofaaGreatDoorS04
import Derived.Test.YtnpomigmeieofaaGreatDoorS05
import Derived.Test.YtnpomigmeieofaaGreatDoorS11
import Derived.Maps.AppendAt
import Derived.Maps.OwnIn
import Derived.Lib.AppendStr
import Derived.Laws.OwnMore
set_option maxHeartbeats 12800000
namespace Go.Proofs.YtnpomigmeieofaaGreatDoor
open Go.RowKit

abbrev bdCs (f r : Int) (p : Option Addr) (n c : Nat) : List Value := [.int .i64 f, .int .i64 r, .slice p n c]
def orB (x : Int) : Bool := decide (-6 ≤ x) && decide (x ≤ 6)
def boardB (f r : Int) (xs : List Int) : Bool := sizeB f r && (decide ((xs.length : Int) = f * r) && xs.all pOk)
def orthB (f r : Int) (xs : List Int) : Bool := boardB f r xs && xs.all orB
theorem boardB_false {f r : Int} {xs : List Int} (h : sizeB f r = false) : boardB f r xs = false := by simp [boardB, h]
theorem boardB_len {f r : Int} {xs : List Int} (h : (xs.length : Int) ≠ f * r) : boardB f r xs = false := by simp [boardB, h]
theorem boardB_bad {f r : Int} {xs : List Int} {i : Nat} (hi : i < xs.length) {x : Int} (hx : xs[i] = x) (h : pOk x = false) : boardB f r xs = false := by
 have : xs.all pOk = false := by rw [List.all_eq_false]; exact ⟨x, by rw [← hx]; exact List.getElem_mem hi, by simp [h]⟩
 simp [boardB, this]
theorem boardB_fact {f r : Int} {xs : List Int} (h : boardB f r xs = true) : sizeB f r = true ∧ (xs.length : Int) = f * r ∧ ∀ x ∈ xs, pOk x = true := by
 simp only [boardB, Bool.and_eq_true, decide_eq_true_eq, List.all_eq_true] at h
 exact ⟨h.1, h.2.1, h.2.2⟩
theorem boardB_of {f r : Int} {xs : List Int} (h1 : sizeB f r = true) (h2 : (xs.length : Int) = f * r) (h3 : xs.all pOk = true) : boardB f r xs = true := by
 simp [boardB, h1, h2, h3]
theorem orthB_bad {f r : Int} {xs : List Int} {i : Nat} (hi : i < xs.length) {x : Int} (hx : xs[i] = x) (h : orB x = false) : orthB f r xs = false := by
 have : xs.all orB = false := by rw [List.all_eq_false]; exact ⟨x, by rw [← hx]; exact List.getElem_mem hi, by simp [h]⟩
 simp [orthB, this]
theorem orB_iff (x : Int) : orB x = (decide (x = 0) || oOk x) := by
 by_cases h : x = 0
 ·subst h; rfl
 ·simp [orB, oOk, h]
theorem badO_or (x : Int) : badO x = !orB x := by
 rw [orB_iff]; simp [badO]
theorem take_all {xs : List Int} {g : Int → Bool} {i : Nat} (hlt : i < xs.length) (h : (xs.take i).all g = true) {x : Int} (hx : xs[i] = x) (hg : g x = true) : (xs.take (i + 1)).all g = true := by
 rw [List.take_succ_eq_append_getElem hlt, List.all_append, h]; simp [hx, hg]

theorem refBoard_any (f r : Int) (p : Option Addr) (c : Nat) (xs : List Int) (w : World) (hx : Arr .i8 w p xs) :
  Calls Tryz.prog 109 #[.agg (bdCs f r p xs.length c).toArray] w fun e w' => e = .returned (.bool (boardB f r xs)) ∧ Below w.heap.size w w' := by
 have hb := below_box w (.cells (bdCs f r p xs.length c).toArray 91)
 have hA := HasO.new w (.cells (bdCs f r p xs.length c).toArray 91)
 go_enter Tryz.func109, Tryz.ntmps109
 go_wp2_with fail
 refine (size_any f r _).mono ?_
 rintro e w1 ⟨rfl, hb1⟩
 have hb' := below_call hb hb.size hb1
 have hA1 := hA.call hb1
 have hc1 := hA1.cells
 have hl1 := hA1.lt
 rcases hs : sizeB f r with _ | _
 ·have e0 := Lib.hid (boardB_false (xs := xs) hs)
  go_wp2_with fail
  go_ret
  exact ⟨by rw [e0.out]; rfl, hb'⟩
 ·have hm := size_mul hs
  have e1 : wrap64 (f * r) = f * r := IntWalk.wrap64_in _ (by omega)
  by_cases hlen : (xs.length : Int) = f * r
  ·have hlen64 : xs.length ≤ 64 := by omega
   have hx1 := hx.call hb'
   have hb2 : (((xs.length : Int)) != f * r) = false := by rw [hlen]; simp
   replace hs := Lib.hid hs
   clear hb1 hA hb hx
   replace hlen := Lib.hid hlen
   go_wp2_with fail
   clear hc1
   go_loopg [3] 65 (fun q iv wr => ∃ i : Nat, q + i = 65 ∧ i ≤ xs.length ∧ iv = .int .i64 i ∧ Below w1.heap.size w1 wr ∧ (xs.take i).all pOk = true)
   case atStart => exact ⟨0, rfl, Nat.zero_le _, rfl, Below.refl _ _, rfl⟩
   case round =>
    obtain ⟨i, hq, hi, rfl, hbr, ha⟩ := hrel
    replace ha := Lib.hid ha
    have hcr := (hA1.call hbr).cells
    have hlr := (hA1.call hbr).lt
    have hbr' := below_call hb' hb'.size hbr
    by_cases hlt : i < xs.length
    ·have hii : (i : Int) < xs.length := by omega
     obtain ⟨b, o, rfl, hbl, hc⟩ := (hx1.call hbr).at hlt
     have hci := hc i hlt
     have hget : xs[i]?.getD 0 = xs[i] := by simp [hlt]
     obtain ⟨x, hxv⟩ : ∃ x, x = xs[i]?.getD 0 := ⟨_, rfl⟩
     rw [← hxv] at hci hget
     replace hget := Lib.hid hget
     clear hc hxv
     go_wp2_with fail
     refine (refPValid_any _ _).mono ?_
     rintro e w2 ⟨rfl, rfl⟩
     rcases hbd : pOk x with _ | _
     ·have e0 := Lib.hid (boardB_bad (f := f) (r := r) hlt hget.out.symm hbd)
      go_wp2_with fail
      go_ret
      exact ⟨by rw [e0.out]; rfl, hbr'⟩
     ·go_wp2_with fail
      go_roundg (gk - 1)
      case measure => omega
      case rel => exact ⟨i + 1, by omega, by omega, by go_num, hbr, take_all hlt ha.out hget.out.symm hbd⟩
    ·have hii : ¬ (i : Int) < xs.length := by omega
     have e0 := Lib.hid (boardB_of hs.out hlen.out (by have ha := ha.out; rwa [List.take_of_length_le (by omega)] at ha))
     go_wp2_with fail
     go_ret
     exact ⟨by rw [e0.out]; rfl, hbr'⟩
  ·have e0 := Lib.hid (boardB_len hlen)
   have hb2 : (((xs.length : Int)) != f * r) = true := by simp [hlen]
   replace hs := Lib.hid hs
   clear hb1 hA hb hx
   go_wp2_with fail
   go_ret
   exact ⟨by rw [e0.out]; rfl, hb'⟩
theorem refOrthB_any (f r : Int) (p : Option Addr) (c : Nat) (xs : List Int) (w : World) (hx : Arr .i8 w p xs) :
  Calls Tryz.prog 53 #[.agg (bdCs f r p xs.length c).toArray] w fun e w' => e = .returned (.bool (orthB f r xs)) ∧ Below w.heap.size w w' := by
 have hb := below_box w (.cells (bdCs f r p xs.length c).toArray 91)
 have hA := HasO.new w (.cells (bdCs f r p xs.length c).toArray 91)
 have hc0 := hA.cells
 have hl0 := hA.lt
 go_enter Tryz.func53, Tryz.ntmps53
 go_wp2_with fail
 refine (refBoard_any f r p c xs _ (hx.call hb)).mono ?_
 rintro e w1 ⟨rfl, hb1⟩
 have hb' := below_call hb hb.size hb1
 have hA1 := hA.call hb1
 rcases hs : boardB f r xs with _ | _
 ·have e0 : Hid (orthB f r xs = false) := Lib.hid (by simp [orthB, hs])
  go_wp2_with fail
  go_ret
  exact ⟨by rw [e0.out]; rfl, hb'⟩
 ·obtain ⟨hs1, hlen, hall⟩ := boardB_fact hs
  have hm := size_mul hs1
  have hlen64 : xs.length ≤ 64 := by omega
  have hx1 := hx.call hb'
  clear hb1 hA hb hx hc0 hl0 hs1 hlen hm hall
  go_wp2_with fail
  go_loopg [3] 65 (fun q iv wr => ∃ i : Nat, q + i = 65 ∧ i ≤ xs.length ∧ iv = .int .i64 i ∧ Below w1.heap.size w1 wr ∧ (xs.take i).all orB = true)
  case atStart => exact ⟨0, rfl, Nat.zero_le _, rfl, Below.refl _ _, rfl⟩
  case round =>
   obtain ⟨i, hq, hi, rfl, hbr, ha⟩ := hrel
   replace ha := Lib.hid ha
   have hcr := (hA1.call hbr).cells
   have hlr := (hA1.call hbr).lt
   have hbr' := below_call hb' hb'.size hbr
   by_cases hlt : i < xs.length
   ·have hii : (i : Int) < xs.length := by omega
    obtain ⟨b, o, rfl, hbl, hc⟩ := (hx1.call hbr).at hlt
    have hci := hc i hlt
    have hget : xs[i]?.getD 0 = xs[i] := by simp [hlt]
    obtain ⟨x, hxv⟩ : ∃ x, x = xs[i]?.getD 0 := ⟨_, rfl⟩
    rw [← hxv] at hci hget
    replace hget := Lib.hid hget
    clear hc hxv
    by_cases h0 : x = 0
    ·have ht := Lib.hid (take_all hlt ha.out hget.out.symm (show orB x = true by subst h0; rfl))
     have h00 : (x != 0) = false := by simp [h0]
     go_wp2_with fail
     go_roundg (gk - 1)
     case measure => omega
     case rel => exact ⟨i + 1, by omega, by omega, by go_num, hbr, ht.out⟩
    ·have h00 : (x != 0) = true := by simp [h0]
     go_wp2_with fail
     refine (refOrth_any _ _).mono ?_
     rintro e w2 ⟨rfl, rfl⟩
     rcases hbd : oOk x with _ | _
     ·have e0 := Lib.hid (orthB_bad (f := f) (r := r) hlt hget.out.symm (by rw [orB_iff, hbd]; simp [h0]))
      go_wp2_with fail
      go_ret
      exact ⟨by rw [e0.out]; rfl, hbr'⟩
     ·have ht := Lib.hid (take_all hlt ha.out hget.out.symm (show orB x = true by rw [orB_iff, hbd]; simp))
      go_wp2_with fail
      go_roundg (gk - 1)
      case measure => omega
      case rel => exact ⟨i + 1, by omega, by omega, by go_num, hbr, ht.out⟩
   ·have hii : ¬ (i : Int) < xs.length := by omega
    have e0 : Hid (orthB f r xs = true) := Lib.hid (by have ha := ha.out; rw [List.take_of_length_le (by omega)] at ha; simp [orthB, hs, ha])
    go_wp2_with fail
    go_ret
    exact ⟨by rw [e0.out]; rfl, hbr'⟩
theorem wp_region_relL {P : Program} {id : Nat} {ops : Array Oper} {Q : Exit → Act → World → Prop} {a : Act} {w : World} (hm : P.follows .mixedOrders = true) (hb : edgesBack .any ops = true)
  (ds : List (Option Tmp)) (hds : ops.toList.map (·.dst) = ds) (hok : dstsOk ds = true)
  (R : (Nat → Bool) → (Nat → Value) → World → Prop) (hcong : ∀ S S' f w, (∀ i, i < ops.size → S i = S' i) → R S f w → R S' f w) (h0 : ∀ f, R (fun _ => false) f w.drew)
  (hstep : ∀ S i o f w, ops[i]? = some o → i < ops.size → S i = false → (∀ e ∈ o.after, Region.binds .any e = true → S e.on = true) →
   (∀ j o', S j = true → ops[j]? = some o' → ∀ e ∈ o'.after, Region.binds .any e = true → S e.on = true) → R S f w →
   ∀ K : Act → World → Prop, (∀ u w', R (upd S i) (fun j => if j = i then u else f j) w' → K ((putL ds f 0 a).put o.dst u) w') →
   if Region.wanted o (yielded ops (putL ds f 0 a).tmps) = true then o.wp P (putL ds f 0 a) w K Q else K ((putL ds f 0 a).put o.dst undef) w)
  (hend : ∀ S f w, (∀ i, i < ops.size → S i = true) → R S f w → Q .normal (putL ds f 0 a) w) : (Code.region id ops true).wp P Q a w := by
 refine wp_region_inv hm hb (fun S a' w => ∃ f, a' = putL ds f 0 a ∧ R S f w ∧
  (∀ j o', S j = true → ops[j]? = some o' → ∀ e ∈ o'.after, Region.binds .any e = true → S e.on = true)) ?_ ⟨tmps0 ds a, (putL_self _ _ _ _ (fun i t h => by simp [tmps0, h]) hok).symm, h0 _, fun j o' h => (by cases h)⟩ ?_ ?_
 ·rintro S S' a' w hS ⟨f, h1, h2, h4⟩
  refine ⟨f, h1, hcong _ _ _ _ hS h2, fun j o' hj ho e he hbd => ?_⟩
  have hj2 : j < ops.size := (Array.getElem?_eq_some_iff.1 ho).1
  have hb' := hb
  unfold edgesBack at hb'
  rw [List.all_eq_true] at hb'
  have h := hb' j (List.mem_range.2 hj2)
  rw [ho] at h
  simp only [Option.map_some, Option.getD_some] at h
  rw [Array.all_eq_true] at h
  obtain ⟨k, hk, rfl⟩ := Array.getElem_of_mem he
  have h5 := h k hk
  rw [hbd] at h5
  simp only [Bool.not_true, Bool.false_or, decide_eq_true_eq] at h5
  rw [← hS _ (by omega)]
  exact h4 j o' (by rw [hS _ hj2]; exact hj) ho _ he hbd
 ·rintro S a' w i hi hSi hpre ⟨f, rfl, hR, hcl⟩
  refine hstep S i _ f w (Array.getElem?_eq_getElem hi) hi hSi hpre hcl hR _ ?_
  intro u w' hR'
  refine ⟨_, by have := putL_at ds hok f 0 a i _ (dst_at hds hi) u; rw [Nat.zero_add] at this; exact this, hR', fun j o' hj ho e he hbd => ?_⟩
  unfold upd at hj ⊢
  by_cases e2 : e.on = i
  ·simp [e2]
  ·simp only [e2, if_false]
   by_cases e3 : j = i
   ·subst e3
    have : o' = ops[j] := by rw [Array.getElem?_eq_getElem hi] at ho; exact (Option.some.inj ho).symm
    subst this
    exact hpre e he hbd
   ·simp only [e3, if_false] at hj
    exact hcl j o' hj ho e he hbd
 ·rintro S a' w hS ⟨f, rfl, hR, _⟩
  exact hend S f w hS hR

structure Put2 (q : Nat) (v : Value) (w w' : World) : Prop where
 os : w'.os = w.os
 tape : w'.tape = w.tape
 output : w'.output = w.output
 size : w.heap.size ≤ w'.heap.size
 block : ∀ k, k < w.heap.size → k ≠ q → v.ownBlock ≠ some k → w'.heap[k]? = w.heap[k]?
theorem Put2.refl (q : Nat) (v : Value) (w : World) : Put2 q v w w := ⟨rfl, rfl, rfl, Nat.le_refl _, fun _ _ _ _ => rfl⟩
def Near (w : World) (v v' : Value) : Prop := ∀ k, v'.ownBlock = some k → v.ownBlock = some k ∨ w.heap.size ≤ k
theorem Near.refl (w : World) (v : Value) : Near w v v := fun _ h => .inl h
theorem Near.trans {w w' : World} {v v' v'' : Value} (h : Near w v v') (h2 : Near w' v' v'') (hs : w.heap.size ≤ w'.heap.size) : Near w v v'' := by
 intro k hk
 rcases h2 k hk with h3 | h3
 ·exact h k h3
 ·exact .inr (Nat.le_trans hs h3)
theorem Put2.trans {q : Nat} {v v' : Value} {w w' w'' : World} (h : Put2 q v w w') (hn : Near w v v') (h2 : Put2 q v' w' w'') : Put2 q v w w'' :=
 ⟨h2.os.trans h.os, h2.tape.trans h.tape, h2.output.trans h.output, Nat.le_trans h.size h2.size, fun k hk hq hv => (h2.block k (Nat.lt_of_lt_of_le hk h.size) hq (fun e => by
  rcases hn k e with h3 | h3
  ·exact hv h3
  ·omega)).trans (h.block k hk hq hv)⟩
theorem Put2.hasO {q k : Nat} {v : Value} {w w' : World} {o : Obj} (h : Put2 q v w w') (ho : HasO w k o) (hq : k ≠ q) (hv : v.ownBlock ≠ some k) : HasO w' k o := (h.block k ho.lt hq hv).trans ho
theorem Put2.below {q B : Nat} {v : Value} {w0 w w' : World} (h : Put2 q v w w') (hb : Below B w0 w) (hB : B ≤ w.heap.size) (hq : B ≤ q) (hv : ∀ k, v.ownBlock = some k → B ≤ k) : Below B w0 w' :=
 hb.trans ⟨h.os, h.tape, h.output, h.size, fun k hk => h.block k (by omega) (by omega) (fun e => by have := hv k e; omega)⟩
theorem Put2.drewN {q : Nat} {v : Value} {w w' : World} (h : Put2 q v w w') (n : Nat) : Put2 q v w (w'.drewN n) := ⟨h.os, h.tape, h.output, h.size, h.block⟩
theorem Put2.drew {q : Nat} {v : Value} {w w' : World} (h : Put2 q v w w') : Put2 q v w w'.drew := ⟨h.os, h.tape, h.output, h.size, h.block⟩
theorem Put2.setCell {q : Nat} {v : Value} {w w' : World} (h : Put2 q v w w') (i : Nat) (u : Value) : Put2 q v w (w'.setCell ⟨q, i, none⟩ u) :=
 ⟨h.os, h.tape, h.output, by simp [World.setCell]; exact h.size, fun k hk hq hv => (Below.heap_setCell w' ⟨q, i, none⟩ u k (fun e => hq e)).trans (h.block k hk hq hv)⟩
theorem Put2.alloc {q : Nat} {v : Value} {w w' : World} (h : Put2 q v w w') (o : Obj) : Put2 q v w (w'.alloc o) :=
 ⟨h.os, h.tape, h.output, Nat.le_trans h.size (by simp), fun k hk hq hv => (Below.heap_alloc w' o k (Nat.lt_of_lt_of_le hk h.size)).trans (h.block k hk hq hv)⟩
theorem Put2.grown {q : Nat} {v v' : Value} {w w' w'' : World} (h : Put2 q v w w') (hn : Near w v v') (hg : w'.grownBy w'' v'.ownBlock) : Put2 q v w w'' :=
 h.trans hn ⟨hg.os, hg.tape, hg.output, hg.size, fun k hk _ hv => hg.block k hk (fun e => hv e.symm)⟩

theorem wpList_push_at {P : Program} {W : World} {ops : Array Oper} {rest : List Oper} {o : Oper} {a : Act} {Q : Exit → Act → World → Prop} (hgd : o.guard = none) (s x : Operand) (t : TypeId)
  (ho : o.op = .call { callee := .builtin .append, args := #[s, x], argTypes := #[t, t] })
  (base : Nat) (e : TypeId) (i : TypeInfo) (z : Value) (bytes : Nat) (ht : P.underlying t = some (.slice e)) (hi : P.info? e = some i) (hz : i.zero = some z)
  (hsize : i.size = 1) (hby : i.bytes = bytes) (hzs : z.cells.size = 1)
  (v : Value) (n : Nat) (xs : List Value) (hs : a.eval s = v) (hown : W.ownsRow base e 1 v n xs)
  (m : Nat) (news : List Value) (hl : news.length = m) (h1 : ∀ u ∈ news, u.oneCell' = true) (q : Nat) (hq : q = W.heap.size) (hx : a.eval x = .slice (some ⟨q, 0, none⟩) m m)
  (hbytes : (n + m) * (bytes + 1) ≤ 140737488355328) (hbase : base ≤ W.heap.size)
  (h : ∀ v' w', w'.ownsRow base e 1 v' (n + m) (xs ++ news) → (W.alloc (.cells news.toArray e)).grownBy w' v.ownBlock → Near W v v' → wpList P ops Q rest (a.put o.dst v') w') :
  wpList P ops Q (o :: rest) a (W.alloc (.cells news.toArray e)) := by
 subst hq
 have hb1 : (n + m) * bytes ≤ 140737488355328 := Nat.le_trans (Nat.mul_le_mul_left _ (by omega)) hbytes
 have hb2 : n + m ≤ maxLen := by
  have : (n + m) * 1 ≤ (n + m) * (bytes + 1) := Nat.mul_le_mul_left _ (by omega)
  unfold maxLen; omega
 refine wpList_append_own_at _ hgd s x t ho base e i z 1 bytes ht hi hz hsize hby hzs (by decide) v n xs hs (hown.alloc _) ⟨W.heap.size, 0, none⟩ m m news hx (by omega) ?_ h1 hb2 hb1 (by simp; omega) ?_
 ·intro j u hu
  rw [Addr.add_lit]
  have := (HasO.new W (.cells news.toArray e)).cells j
  rw [Nat.zero_add, this]
  simpa using hu
 ·intro v' w' ho' hg _ hloc
  refine h v' w' ho' hg (fun k hk => ?_)
  rcases hloc with e2 | e2
  ·rw [e2] at hk; exact .inl hk
  ·rw [e2] at hk
   injection hk with hk
   simp at hk
   right; omega
theorem own_arr {W : World} {base : Nat} {t : TypeId} {v : Value} {k : IntKind} {xs : List Int} (h : W.ownsRow base t 1 v xs.length (xs.map (.int k))) : ∃ p c, v = .slice p xs.length c ∧ xs.length ≤ c ∧ Arr k W p xs := by
 have h' := h
 rcases h.2 with ⟨rfl, h2⟩ | ⟨g, cap, cur, rfl, hg, hh, hc, _⟩
 ·have : xs = [] := List.eq_nil_of_length_eq_zero h2
  subst this
  exact ⟨none, 0, rfl, Nat.le_refl _, .inl rfl⟩
 ·refine ⟨_, cap, rfl, hc, .inr ⟨g, 0, rfl, (h'.lt g rfl).2, fun j hj => ?_⟩⟩
  rw [Nat.zero_add, h'.cellAt _ (by omega)]
  simp [hj]

theorem Tryz.info3 : (Tryz.prog.info? 3).map (fun i => (i.zero, i.size, i.bytes)) = some (some (.int .i64 0), 1, 8) := by kernel_rfl
section ops
variable {P : Program} {o : Oper} {a : Act} {w : World} {K : Act → World → Prop} {Q : Exit → Act → World → Prop} {t : Nat → Option Bool} {X : Prop}
theorem st_alloc (hg : o.guard = none) (ty : TypeId) (ho : o.op = .alloc ty) {r : Value} {w' : World} (hr : (Instr.alloc ty true (.tuple #[])).run P w = .ok r w') (h : K (a.put o.dst r) w') : if Region.wanted o t = true then o.wp P a w K Q else X := by
 refine st_wp hg ?_
 unfold Oper.wp execOp
 simp only [ho, Sem.run_bind, hr, Result.andThen_ok, Sem.run_pure]
 exact h
theorem st_build2 (hg : o.guard = none) (ty : TypeId) (i1 i2 : Nat) (x1 x2 : Operand) (ho : o.op = .build ty #[(i1, x1), (i2, x2)]) {v1 v2 : Value} (h1 : a.eval x1 = v1) (h2 : a.eval x2 = v2) {cs : Array Value}
  (hb : P.built ty [(i1, v1), (i2, v2)] = some cs) (h : K (a.put o.dst (.agg cs)) w) : if Region.wanted o t = true then o.wp P a w K Q else X := by
 refine st_wp hg ?_
 have e : (#[(i1, x1), (i2, x2)].map fun (i, x) => (i, a.eval x)).toList = [(i1, v1), (i2, v2)] := by simp [h1, h2]
 refine wp_build ty _ ho (by rw [e, hb]; rfl) ?_
 rw [e, hb]
 exact h
theorem st_appendArr (hg : o.guard = none) (s x : Operand) (ty : TypeId) (ho : o.op = .call { callee := .builtin .append, args := #[s, x], argTypes := #[ty, ty] })
  (base : Nat) (e : TypeId) (i : TypeInfo) (z : Value) (bytes : Nat) (ht : P.underlying ty = some (.slice e)) (hi : P.info? e = some i) (hz : i.zero = some z)
  (hsize : i.size = 1) (hby : i.bytes = bytes) (hzs : z.cells.size = 1) (k : IntKind) {p : Option Addr} {c : Nat} {xs : List Int}
  (hs : a.eval s = .slice none 0 0) (hx : a.eval x = .slice p xs.length c) (hp : p = none → c = 0) (hA : Arr k w p xs)
  (hbytes : xs.length * (bytes + 1) ≤ 140737488355328) (hbase : base ≤ w.heap.size)
  (h : ∀ v' w', w'.ownsRow base e 1 v' xs.length (xs.map (.int k)) → Below w.heap.size w w' → (∀ b, v'.ownBlock = some b → w.heap.size ≤ b) → K (a.put o.dst v') w') : if Region.wanted o t = true then o.wp P a w K Q else X := by
 have hown : w.ownsRow base e 1 (.slice none 0 0) 0 [] := World.ownsRow_nil _ _ _ _
 rcases p with _ | ad
 ·rcases hA with rfl | ⟨b, o', e', _⟩
  ·rw [hp rfl] at hx
   refine st_wp hg ?_
   have hr := run_append_owned_none (P := P) (w := w) base ty o.type e i 1 ht hi (.slice none 0 0) 0 [] hown
   unfold Oper.wp execOp
   have hx' : a.eval x = .slice none 0 0 := hx
   simp only [ho, resolve, invoke, builtin, Sem.run_bind, Sem.run_pure, Result.andThen_ok, List.map_toArray, List.map_cons, List.map_nil, hs, hx', hr]
   exact h _ _ hown (Below.refl _ _) (fun b e => by cases e)
  ·cases e'
 ·refine st_append hg s x ty ho base e i z 1 bytes ht hi hz hsize hby hzs (by decide) _ 0 [] hs hown ad xs.length c (xs.map (.int k)) hx (by simp) ?_ ?_ (by rw [Nat.zero_add]; exact hbytes) hbase ?_
  ·intro j u hu
   have hj : j < xs.length := by have := (List.getElem?_eq_some_iff.1 hu).1; simpa using this
   obtain ⟨b, o', e', hb, hc⟩ := hA.at (i := j) hj
   injection e' with e'
   subst e'
   rw [Addr.add_lit, hc j hj]
   simp [hj] at hu ⊢
   exact hu
  ·intro u hu
   obtain ⟨y, _, rfl⟩ := List.mem_map.1 hu
   rfl
  ·intro v' w' h1 h2 h3
   refine h v' w' (by simpa using h1) ((Below.refl w.heap.size w).grown h2 (Nat.le_refl _) (fun j e => by cases e)) (fun b e => ?_)
   rcases h3 with h3 | h3
   ·rw [h3] at e; cases e
   ·rw [h3] at e; injection e with e; omega
theorem gd (hw : Region.wanted o t = true) (h : if Region.wanted { o with guard := none } t = true then ({ o with guard := none } : Oper).wp P a w K Q else X) : if Region.wanted o t = true then o.wp P a w K Q else X := by
 rw [if_pos hw]
 rw [if_pos (show Region.wanted { o with guard := none } t = true from rfl)] at h
 exact h
theorem st_convert (hg : o.guard = none) (f1 t1 : TypeId) (x : Operand) (ho : o.op = .convert f1 t1 x) {v u : Value} (hx : a.eval x = v) (hr : (convert f1 t1 v).run P w = .ok u w) (h : K (a.put o.dst u) w) : if Region.wanted o t = true then o.wp P a w K Q else X := by
 refine st_wp hg ?_
 unfold Oper.wp execOp
 simp only [ho, hx, Sem.run_bind, hr, Result.andThen_ok, Sem.run_pure]
 exact h
theorem st_pickT (hg : o.guard = none) (c x y : Operand) (ho : o.op = .pick c x y) {v : Value} (hc : a.eval c = .bool true) (hx : a.eval x = v) (h : K (a.put o.dst v) w) : if Region.wanted o t = true then o.wp P a w K Q else X := by
 refine st_wp hg ?_
 unfold Oper.wp execOp
 simp only [ho, hc, asBool, hx, Sem.run_bind, Sem.run_pure, Result.andThen_ok, if_true]
 exact h
theorem st_bin (hg : o.guard = none) (b : BinOp) (t1 t2 : TypeId) (x y : Operand) (ho : o.op = .binOp b t1 x y t2) {v1 v2 u : Value} (hx : a.eval x = v1) (hy : a.eval y = v2) (hq : (eqGuard b t1 x y v1 v2).run P w = .ok () w) (hr : (binOp b t1 v1 v2).run P w = .ok u w) (h : K (a.put o.dst u) w) : if Region.wanted o t = true then o.wp P a w K Q else X := by
 refine st_wp hg ?_
 unfold Oper.wp execOp
 simp only [ho, hx, hy, hq, hr, Sem.run_bind, Sem.run_pure, Result.andThen_ok]
 exact h
theorem st_call0 (hg : o.guard = none) (fid : Nat) (ho : o.op = .call { callee := .value (.func fid), args := #[], argTypes := #[] })
  (he : ∀ args w, (callFunc fid args).run P w = .ok (.enter fid args) w) {R : Ending → World → Prop} (hc : Calls P fid #[] w R) (hret : ∀ u w', R (.returned u) w' → K (a.put o.dst u) w') (hpan : ∀ ch w', R (.panicked ch) w' → Q (.panic ch) a w') (hout : ∀ w', ¬ R .outgrown w') :
  if Region.wanted o t = true then o.wp P a w K Q else X := by
 refine st_wp hg ?_
 have hr : (execOp a.eval o).run P w = .ok (.enter fid #[]) w := by
  have hf : a.eval (.func fid) = .func (.func fid) #[] #[] := rfl
  unfold execOp
  simp [ho, resolve, hf, Deferred.ofValue, invoke, he]
 unfold Oper.wp
 rw [hr, Oper.upon_enter]
 refine hc.mono ?_
 intro e w' h
 cases e with
 | returned u => exact hret u w' h
 | panicked ch => exact hpan ch w' h
 | outgrown => exact absurd h (hout w')
theorem st_index (hg : o.guard = none) (ty : TypeId) (x y : Operand) (ho : o.op = .indexAddr ty x y) {v u r : Value} (hx : a.eval x = v) (hy : a.eval y = u) (hr : (Instr.indexAt ty v u).run P w = .ok r w) (h : K (a.put o.dst r) w) : if Region.wanted o t = true then o.wp P a w K Q else X := by
 refine st_wp hg ?_
 unfold Oper.wp execOp
 simp only [ho, hx, hy, Sem.run_bind, hr, Result.andThen_ok, Sem.run_pure]
 exact h
theorem st_call3 (hg : o.guard = none) (fid : Nat) (x y z : Operand) (ts : Array TypeId) (ho : o.op = .call { callee := .value (.func fid), args := #[x, y, z], argTypes := ts }) {v u r : Value} (hx : a.eval x = v) (hy : a.eval y = u) (hz : a.eval z = r)
  (he : ∀ args w, (callFunc fid args).run P w = .ok (.enter fid args) w) {R : Ending → World → Prop} (hc : Calls P fid #[v, u, r] w R) (hret : ∀ u w', R (.returned u) w' → K (a.put o.dst u) w') (hpan : ∀ ch w', R (.panicked ch) w' → Q (.panic ch) a w') (hout : ∀ w', ¬ R .outgrown w') :
  if Region.wanted o t = true then o.wp P a w K Q else X := by
 refine st_wp hg ?_
 have hr : (execOp a.eval o).run P w = .ok (.enter fid #[v, u, r]) w := by
  have hf : a.eval (.func fid) = .func (.func fid) #[] #[] := rfl
  unfold execOp
  simp [ho, resolve, hf, hx, hy, hz, Deferred.ofValue, invoke, he]
 unfold Oper.wp
 rw [hr, Oper.upon_enter]
 refine hc.mono ?_
 intro e w' h
 cases e with
 | returned u => exact hret u w' h
 | panicked ch => exact hpan ch w' h
 | outgrown => exact absurd h (hout w')
theorem st_unop (hg : o.guard = none) (p1 : UnOp) (ty : TypeId) (x : Operand) (ho : o.op = .unOp p1 ty x) {v u : Value} (hx : a.eval x = v) (hr : (Op.unary p1 v).run P w = .ok u w) (h : K (a.put o.dst u) w) : if Region.wanted o t = true then o.wp P a w K Q else X := by
 refine st_wp hg ?_
 unfold Oper.wp execOp
 simp only [ho, hx, Sem.run_bind, hr, Result.andThen_ok, Sem.run_pure]
 exact h
theorem st_pickF (hg : o.guard = none) (c x y : Operand) (ho : o.op = .pick c x y) {v : Value} (hc : a.eval c = .bool false) (hx : a.eval y = v) (h : K (a.put o.dst v) w) : if Region.wanted o t = true then o.wp P a w K Q else X := by
 refine st_wp hg ?_
 unfold Oper.wp execOp
 simp only [ho, hc, asBool, hx, Sem.run_bind, Sem.run_pure, Result.andThen_ok, Bool.false_eq_true, if_false]
 exact h
theorem skip_gd (hw : Region.wanted o t = false) (h : X) : if Region.wanted o t = true then o.wp P a w K Q else X := by
 rw [if_neg (by rw [hw]; simp)]; exact h
theorem st_len (hg : o.guard = none) (x : Operand) (ty : TypeId) (ho : o.op = .call { callee := .builtin .len, args := #[x], argTypes := #[ty] }) {e : TypeId} (ht : P.underlying ty = some (.slice e)) {p : Option Addr} {n c : Nat} (hx : a.eval x = .slice p n c) (h : K (a.put o.dst (.int .i64 n)) w) : if Region.wanted o t = true then o.wp P a w K Q else X := by
 refine st_wp hg ?_
 unfold Oper.wp execOp
 simp only [ho, resolve, invoke, builtin, Sem.run_bind, Sem.run_pure, Result.andThen_ok, List.map_toArray, List.map_cons, List.map_nil, hx, Builtin.len_, List.getElem?_toArray, List.getElem?_cons_zero, run_underlying ht, goInt]
 exact h
end ops
theorem wanted_of {o : Oper} {ops : Array Oper} {ds : List (Option Tmp)} {f : Nat → Value} {a : Act} (hok : dstsOk ds = true) (j : Nat) (want : Bool) (tm : Tmp) (hgu : o.guard = some (j, want)) (hd : (ops[j]?).bind (·.dst) = some tm) (hi : ds[j]? = some (some tm)) (hs : tm < a.tmps.size) (hf : f j = .bool want) :
  Region.wanted o (yielded ops (putL ds f 0 a).tmps) = true := by
 have h1 := slot_in (f := f) hok j hi hs hf
 have h2 : (putL ds f 0 a).tmps[tm]? = some (.bool want) := by
  rw [Array.getD_eq_getD_getElem?] at h1
  rcases h : (putL ds f 0 a).tmps[tm]? with _ | u
  ·rw [h] at h1; cases h1
  ·rw [h] at h1; exact congrArg some h1
 have hd' : (Option.bind (ops[j]?) fun x => x.dst) = some tm := hd
 have hy : yielded ops (putL ds f 0 a).tmps j = some want := by
  unfold yielded
  rw [hd', Option.bind_some, h2]
 unfold Region.wanted
 rw [hgu]
 simp only [hy, beq_self_eq_true]
theorem unwanted_of {o : Oper} {ops : Array Oper} {ds : List (Option Tmp)} {f : Nat → Value} {a : Act} (hok : dstsOk ds = true) (j : Nat) (want b : Bool) (tm : Tmp) (hgu : o.guard = some (j, want)) (hd : (ops[j]?).bind (·.dst) = some tm) (hi : ds[j]? = some (some tm)) (hs : tm < a.tmps.size) (hf : f j = .bool b) (hb : b ≠ want) :
  Region.wanted o (yielded ops (putL ds f 0 a).tmps) = false := by
 have h1 := slot_in (f := f) hok j hi hs hf
 have h2 : (putL ds f 0 a).tmps[tm]? = some (.bool b) := by
  rw [Array.getD_eq_getD_getElem?] at h1
  rcases h : (putL ds f 0 a).tmps[tm]? with _ | u
  ·rw [h] at h1; cases h1
  ·rw [h] at h1; exact congrArg some h1
 have hd' : (Option.bind (ops[j]?) fun x => x.dst) = some tm := hd
 have hy : yielded ops (putL ds f 0 a).tmps j = some b := by
  unfold yielded
  rw [hd', Option.bind_some, h2]
 unfold Region.wanted
 rw [hgu]
 simp only [hy]
 cases b <;> cases want <;> simp_all
theorem uw {o : Oper} {ops : Array Oper} {ds : List (Option Tmp)} {f : Nat → Value} {a : Act} {i j : Nat} {want b : Bool} {tm : Tmp} (ho : ops[i]? = some o) (hf : f j = .bool b) (hgu : (ops[i]?).map (·.guard) = some (some (j, want)) := by rfl) (hd : (ops[j]?).bind (·.dst) = some tm := by rfl) (hok : dstsOk ds = true := by rfl) (hi : ds[j]? = some (some tm) := by rfl) (hs : tm < a.tmps.size := by simp) (hb : b ≠ want := by decide) :
  Region.wanted o (yielded ops (putL ds f 0 a).tmps) = false := unwanted_of hok j want b tm (og ho hgu) hd hi hs hf hb
theorem wo {o : Oper} {ops : Array Oper} {ds : List (Option Tmp)} {f : Nat → Value} {a : Act} {i j : Nat} {want : Bool} {tm : Tmp} (ho : ops[i]? = some o) (hf : f j = .bool want) (hgu : (ops[i]?).map (·.guard) = some (some (j, want)) := by rfl) (hd : (ops[j]?).bind (·.dst) = some tm := by rfl) (hok : dstsOk ds = true := by rfl) (hi : ds[j]? = some (some tm) := by rfl) (hs : tm < a.tmps.size := by simp) :
  Region.wanted o (yielded ops (putL ds f 0 a).tmps) = true := wanted_of hok j want tm (og ho hgu) hd hi hs hf
theorem not4 (b : Bool) (W : World) : (Op.unary .not (.bool b)).run Tryz.prog W = .ok (.bool (!b)) W := by simp [go_sem]
theorem bin_sub (x y : Int) (W : World) : (binOp .sub 3 (.int .i64 x) (.int .i64 y)).run Tryz.prog W = .ok (.int .i64 (IntKind.i64.wrap (x - y))) W := by simp [go_sem]
theorem bin_add (x y : Int) (W : World) : (binOp .add 3 (.int .i64 x) (.int .i64 y)).run Tryz.prog W = .ok (.int .i64 (IntKind.i64.wrap (x + y))) W := by simp [go_sem]
theorem bin_mul (x y : Int) (W : World) : (binOp .mul 3 (.int .i64 x) (.int .i64 y)).run Tryz.prog W = .ok (.int .i64 (IntKind.i64.wrap (x * y))) W := by simp [go_sem]
theorem bin_eql (x y : Int) (W : World) : (binOp .eql 3 (.int .i64 x) (.int .i64 y)).run Tryz.prog W = .ok (.bool (x == y)) W := by simp [go_sem]
theorem bin_neq (x y : Int) (W : World) : (binOp .neq 3 (.int .i64 x) (.int .i64 y)).run Tryz.prog W = .ok (.bool (x != y)) W := by simp [go_sem]
theorem bin_lss (x y : Int) (W : World) : (binOp .lss 3 (.int .i64 x) (.int .i64 y)).run Tryz.prog W = .ok (.bool (decide (x < y))) W := by simp [go_sem]
theorem bin_gtr (x y : Int) (W : World) : (binOp .gtr 3 (.int .i64 x) (.int .i64 y)).run Tryz.prog W = .ok (.bool (decide (y < x))) W := by simp [go_sem]
theorem bin_geq (x y : Int) (W : World) : (binOp .geq 3 (.int .i64 x) (.int .i64 y)).run Tryz.prog W = .ok (.bool (decide (y ≤ x))) W := by simp [go_sem]
theorem bin8_eql (x y : Int) (W : World) : (binOp .eql 81 (.int .i8 x) (.int .i8 y)).run Tryz.prog W = .ok (.bool (x == y)) W := by simp [go_sem]
theorem bin8_lss (x y : Int) (W : World) : (binOp .lss 81 (.int .i8 x) (.int .i8 y)).run Tryz.prog W = .ok (.bool (decide (x < y))) W := by simp [go_sem]
theorem bin64_or (x y : Int) (W : World) : (binOp .or 170 (.int .u64 x) (.int .u64 y)).run Tryz.prog W = .ok (.int .u64 (bits .or .u64 x y)) W := by simp [go_sem]
theorem gu_i (b : BinOp) (t : TypeId) (x y : Operand) (k : IntKind) (u v : Int) (W : World) : (eqGuard b t x y (.int k u) (.int k v)).run Tryz.prog W = .ok () W := by
 unfold eqGuard; cases b <;> simp [go_sem]
end Go.Proofs.YtnpomigmeieofaaGreatDoor
