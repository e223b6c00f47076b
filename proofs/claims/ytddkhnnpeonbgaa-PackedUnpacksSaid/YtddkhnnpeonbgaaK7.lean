/- A region that draws its order, by a relation that knows which operations have come up; a frame for 'one row and the block of one slice'; append of one element, with the place of the new slice. -/
import Derived.Test.YtddkhnnpeonbgaaK5
import Derived.Maps.AppendAt
namespace Go.Proofs.Ytddkhnnpeonbgaa
open Go.RowKit

theorem wp_region_relL {P : Program} {id : Nat} {ops : Array Oper} {Q : Exit → Act → World → Prop} {a : Act} {w : World} (hm : P.follows .mixedOrders = true) (hb : edgesBack .any ops = true)
    (ds : List (Option Tmp)) (hds : ops.toList.map (·.dst) = ds) (hok : dstsOk ds = true)
    (R : (Nat → Bool) → (Nat → Value) → World → Prop) (hcong : ∀ S S' f w, (∀ i, i < ops.size → S i = S' i) → R S f w → R S' f w) (h0 : ∀ f, R (fun _ => false) f w.drew)
    (hstep : ∀ S i o f w, ops[i]? = some o → i < ops.size → S i = false → (∀ e ∈ o.after, Region.binds .any e = true → S e.on = true) →
      (∀ j o', S j = true → ops[j]? = some o' → ∀ e ∈ o'.after, Region.binds .any e = true → S e.on = true) → R S f w →
      ∀ K : Act → World → Prop, (∀ u w', R (upd S i) (fun j => if j = i then u else f j) w' → K ((putL ds f 0 a).put o.dst u) w') →
      if Region.wanted o (yielded ops (putL ds f 0 a).tmps) = true then o.wp P (putL ds f 0 a) w K Q else K ((putL ds f 0 a).put o.dst undef) w)
    (hend : ∀ S f w, (∀ i, i < ops.size → S i = true) → R S f w → Q .normal (putL ds f 0 a) w) : (Code.region id ops true).wp P Q a w := by
  refine wp_region_inv hm hb (fun S a' w => ∃ f, a' = putL ds f 0 a ∧ R S f w ∧
    (∀ j o', S j = true → ops[j]? = some o' → ∀ e ∈ o'.after, Region.binds .any e = true → S e.on = true)) ?_ ⟨tmps0 ds a, (putL_self _ _ _ _ (fun i t h => by simp [tmps0, h]) hok).symm, h0 _, fun j o' h => (by cases h)⟩ ?_ ?_
  · rintro S S' a' w hS ⟨f, h1, h2, h4⟩
    refine ⟨f, h1, hcong _ _ _ _ hS h2, fun j o' hj ho e he hbd => ?_⟩
    have hj2 : j < ops.size := (Array.getElem?_eq_some_iff.1 ho).1
    have hb' := hb
    unfold edgesBack at hb'
    rw [List.all_eq_true] at hb'
    have h := hb' j (List.mem_range.2 hj2)
    rw [ho] at h
    simp only [Option.map_some, Option.getD_some] at h
    rw [Array.all_eq_true] at h
    obtain ⟨k, hk, rfl⟩ := Array.getElem_of_mem he
    have h5 := h k hk
    rw [hbd] at h5
    simp only [Bool.not_true, Bool.false_or, decide_eq_true_eq] at h5
    rw [← hS _ (by omega)]
    exact h4 j o' (by rw [hS _ hj2]; exact hj) ho _ he hbd
  · rintro S a' w i hi hSi hpre ⟨f, rfl, hR, hcl⟩
    refine hstep S i _ f w (Array.getElem?_eq_getElem hi) hi hSi hpre hcl hR _ ?_
    intro u w' hR'
    refine ⟨_, by have := putL_at ds hok f 0 a i _ (dst_at hds hi) u; rw [Nat.zero_add] at this; exact this, hR', fun j o' hj ho e he hbd => ?_⟩
    unfold upd at hj ⊢
    by_cases e2 : e.on = i
    · simp [e2]
    · simp only [e2, if_false]
      by_cases e3 : j = i
      · subst e3
        have : o' = ops[j] := by rw [Array.getElem?_eq_getElem hi] at ho; exact (Option.some.inj ho).symm
        subst this
        exact hpre e he hbd
      · simp only [e3, if_false] at hj
        exact hcl j o' hj ho e he hbd
  · rintro S a' w hS ⟨f, rfl, hR, _⟩
    exact hend S f w hS hR

/-- nothing but the block q and the block of one slice has turned -/
structure Put2 (q : Nat) (v : Value) (w w' : World) : Prop where
  os : w'.os = w.os
  tape : w'.tape = w.tape
  output : w'.output = w.output
  size : w.heap.size ≤ w'.heap.size
  block : ∀ k, k < w.heap.size → k ≠ q → v.ownBlock ≠ some k → w'.heap[k]? = w.heap[k]?
theorem Put2.refl (q : Nat) (v : Value) (w : World) : Put2 q v w w := ⟨rfl, rfl, rfl, Nat.le_refl _, fun _ _ _ _ => rfl⟩
/-- the slice is where it was, or new -/
def Near (w : World) (v v' : Value) : Prop := ∀ k, v'.ownBlock = some k → v.ownBlock = some k ∨ w.heap.size ≤ k
theorem Near.refl (w : World) (v : Value) : Near w v v := fun _ h => .inl h
theorem Near.trans {w w' : World} {v v' v'' : Value} (h : Near w v v') (h2 : Near w' v' v'') (hs : w.heap.size ≤ w'.heap.size) : Near w v v'' := by
  intro k hk
  rcases h2 k hk with h3 | h3
  · exact h k h3
  · exact .inr (Nat.le_trans hs h3)
theorem Put2.trans {q : Nat} {v v' : Value} {w w' w'' : World} (h : Put2 q v w w') (hn : Near w v v') (h2 : Put2 q v' w' w'') : Put2 q v w w'' :=
  ⟨h2.os.trans h.os, h2.tape.trans h.tape, h2.output.trans h.output, Nat.le_trans h.size h2.size, fun k hk hq hv => (h2.block k (Nat.lt_of_lt_of_le hk h.size) hq (fun e => by
    rcases hn k e with h3 | h3
    · exact hv h3
    · omega)).trans (h.block k hk hq hv)⟩
theorem Put2.hasO {q k : Nat} {v : Value} {w w' : World} {o : Obj} (h : Put2 q v w w') (ho : HasO w k o) (hq : k ≠ q) (hv : v.ownBlock ≠ some k) : HasO w' k o := (h.block k ho.lt hq hv).trans ho
theorem Put2.below {q B : Nat} {v : Value} {w0 w w' : World} (h : Put2 q v w w') (hb : Below B w0 w) (hB : B ≤ w.heap.size) (hq : B ≤ q) (hv : ∀ k, v.ownBlock = some k → B ≤ k) : Below B w0 w' :=
  hb.trans ⟨h.os, h.tape, h.output, h.size, fun k hk => h.block k (by omega) (by omega) (fun e => by have := hv k e; omega)⟩
theorem Put2.drewN {q : Nat} {v : Value} {w w' : World} (h : Put2 q v w w') (n : Nat) : Put2 q v w (w'.drewN n) := ⟨h.os, h.tape, h.output, h.size, h.block⟩
theorem Put2.drew {q : Nat} {v : Value} {w w' : World} (h : Put2 q v w w') : Put2 q v w w'.drew := ⟨h.os, h.tape, h.output, h.size, h.block⟩
theorem Put2.setCell {q : Nat} {v : Value} {w w' : World} (h : Put2 q v w w') (i : Nat) (u : Value) : Put2 q v w (w'.setCell ⟨q, i, none⟩ u) :=
  ⟨h.os, h.tape, h.output, by simp [World.setCell]; exact h.size, fun k hk hq hv => (Below.heap_setCell w' ⟨q, i, none⟩ u k (fun e => hq e)).trans (h.block k hk hq hv)⟩
theorem Put2.alloc {q : Nat} {v : Value} {w w' : World} (h : Put2 q v w w') (o : Obj) : Put2 q v w (w'.alloc o) :=
  ⟨h.os, h.tape, h.output, Nat.le_trans h.size (by simp), fun k hk hq hv => (Below.heap_alloc w' o k (Nat.lt_of_lt_of_le hk h.size)).trans (h.block k hk hq hv)⟩
theorem Put2.grown {q : Nat} {v v' : Value} {w w' w'' : World} (h : Put2 q v w w') (hn : Near w v v') (hg : w'.grownBy w'' v'.ownBlock) : Put2 q v w w'' :=
  h.trans hn ⟨hg.os, hg.tape, hg.output, hg.size, fun k hk _ hv => hg.block k hk (fun e => hv e.symm)⟩

/-- append of one element behind the block that holds it, with the new slice's place -/
theorem wpList_push_at {P : Program} {W : World} {ops : Array Oper} {rest : List Oper} {o : Oper} {a : Act} {Q : Exit → Act → World → Prop} (hgd : o.guard = none) (s x : Operand) (t : TypeId)
    (ho : o.op = .call { callee := .builtin .append, args := #[s, x], argTypes := #[t, t] })
    (base : Nat) (e : TypeId) (i : TypeInfo) (z : Value) (bytes : Nat) (ht : P.underlying t = some (.slice e)) (hi : P.info? e = some i) (hz : i.zero = some z)
    (hsize : i.size = 1) (hby : i.bytes = bytes) (hzs : z.cells.size = 1)
    (v : Value) (n : Nat) (xs : List Value) (hs : a.eval s = v) (hown : W.ownsRow base e 1 v n xs)
    (m : Nat) (news : List Value) (hl : news.length = m) (h1 : ∀ u ∈ news, u.oneCell' = true) (q : Nat) (hq : q = W.heap.size) (hx : a.eval x = .slice (some ⟨q, 0, none⟩) m m)
    (hbytes : (n + m) * (bytes + 1) ≤ 140737488355328) (hbase : base ≤ W.heap.size)
    (h : ∀ v' w', w'.ownsRow base e 1 v' (n + m) (xs ++ news) → (W.alloc (.cells news.toArray e)).grownBy w' v.ownBlock → Near W v v' → wpList P ops Q rest (a.put o.dst v') w') :
    wpList P ops Q (o :: rest) a (W.alloc (.cells news.toArray e)) := by
  subst hq
  have hb1 : (n + m) * bytes ≤ 140737488355328 := Nat.le_trans (Nat.mul_le_mul_left _ (by omega)) hbytes
  have hb2 : n + m ≤ maxLen := by
    have : (n + m) * 1 ≤ (n + m) * (bytes + 1) := Nat.mul_le_mul_left _ (by omega)
    unfold maxLen; omega
  refine wpList_append_own_at _ hgd s x t ho base e i z 1 bytes ht hi hz hsize hby hzs (by decide) v n xs hs (hown.alloc _) ⟨W.heap.size, 0, none⟩ m m news hx (by omega) ?_ h1 hb2 hb1 (by simp; omega) ?_
  · intro j u hu
    rw [Addr.add_lit]
    have := (HasO.new W (.cells news.toArray e)).cells j
    rw [Nat.zero_add, this]
    simpa using hu
  · intro v' w' ho' hg _ hloc
    refine h v' w' ho' hg (fun k hk => ?_)
    rcases hloc with e2 | e2
    · rw [e2] at hk; exact .inl hk
    · rw [e2] at hk
      injection hk with hk
      simp at hk
      right; omega
theorem wp_push_at {P : Program} {W : World} {o : Oper} {a : Act} {K : Act → World → Prop} {Q : Exit → Act → World → Prop} (s x : Operand) (t : TypeId)
    (ho : o.op = .call { callee := .builtin .append, args := #[s, x], argTypes := #[t, t] })
    (base : Nat) (e : TypeId) (i : TypeInfo) (z : Value) (bytes : Nat) (ht : P.underlying t = some (.slice e)) (hi : P.info? e = some i) (hz : i.zero = some z)
    (hsize : i.size = 1) (hby : i.bytes = bytes) (hzs : z.cells.size = 1)
    (v : Value) (n : Nat) (xs : List Value) (hs : a.eval s = v) (hown : W.ownsRow base e 1 v n xs)
    (m : Nat) (news : List Value) (hl : news.length = m) (h1 : ∀ u ∈ news, u.oneCell' = true) (q : Nat) (hq : q = W.heap.size) (hx : a.eval x = .slice (some ⟨q, 0, none⟩) m m)
    (hbytes : (n + m) * (bytes + 1) ≤ 140737488355328) (hbase : base ≤ W.heap.size)
    (h : ∀ v' w', w'.ownsRow base e 1 v' (n + m) (xs ++ news) → (W.alloc (.cells news.toArray e)).grownBy w' v.ownBlock → Near W v v' → K (a.put o.dst v') w') :
    o.wp P a (W.alloc (.cells news.toArray e)) K Q := by
  subst hq
  have hb1 : (n + m) * bytes ≤ 140737488355328 := Nat.le_trans (Nat.mul_le_mul_left _ (by omega)) hbytes
  have hb2 : n + m ≤ maxLen := by
    have : (n + m) * 1 ≤ (n + m) * (bytes + 1) := Nat.mul_le_mul_left _ (by omega)
    unfold maxLen; omega
  obtain ⟨v', w', hr, h2, h3, h4, h5⟩ := run_append_own_at (P := P) (W.alloc (.cells news.toArray e)) base t o.type e i z 1 bytes ht hi hz hsize hby hzs (by decide) v n xs (hown.alloc _) ⟨W.heap.size, 0, none⟩ m m news (by omega) (by
    intro j u hu
    rw [Addr.add_lit]
    have := (HasO.new W (.cells news.toArray e)).cells j
    rw [Nat.zero_add, this]
    simpa using hu) h1 hb2 hb1 (by simp; omega)
  unfold Oper.wp execOp
  simp only [ho, resolve, invoke, builtin, Sem.run_bind, Sem.run_pure, Result.andThen_ok, List.map_toArray, List.map_cons, List.map_nil, hs, hx, hr]
  refine h v' w' h2 h3 (fun k hk => ?_)
  rcases h5 with e2 | e2
  · rw [e2] at hk; exact .inl hk
  · rw [e2] at hk
    injection hk with hk
    simp at hk
    right; omega
end Go.Proofs.Ytddkhnnpeonbgaa
