import Derived.Test.YtefmplccbkmalaaGreatDoorF04
import Derived.Test.YtefmplccbkmalaaGreatDoorF09
namespace Go.Proofs.YtefmplccbkmalaaGreatDoor
open Go Go.Sort Go.RowKit

def calm (o : Op) : Bool := match o with
 | .move _ | .assign _ | .pick _ _ _ | .load _ _ | .binOp _ _ _ _ _ | .unOp _ _ _ | .fieldAddr _ _ _ | .field _ _ _ | .indexAddr _ _ _ | .index _ _ _ | .extract _ _ | .build _ _ | .convert _ _ _ => true
 | _ => false
theorem calm_run {P : Program} {o : Oper} (h : calm o.op = true) (ρ : Operand → Value) (w : World) {f : FuncId} {args : Array Value} {w' : World} : (execOp ρ o).run P w ≠ .ok (.enter f args) w' := by
 have key : ∀ s : Sem Value, (do pure (Next.value (← s)) : Sem Next).run P w ≠ .ok (.enter f args) w' := by
  intro s
  rw [Sem.run_bind]
  cases s.run P w with
  | ok v w2 => intro e; cases e
  | halt x w2 => intro e; cases e
 have key3 : ∀ (s : Sem Bool) (g : Bool → Value), (do pure (Next.value (g (← s))) : Sem Next).run P w ≠ .ok (.enter f args) w' := by
  intro s g
  rw [Sem.run_bind]
  cases s.run P w with
  | ok v w2 => intro e; cases e
  | halt x w2 => intro e; cases e
 unfold calm at h
 unfold execOp
 split at h
 all_goals first
  | (cases h; done)
  | (rename_i e; simp only [e]; first | exact key _ | exact key3 _ (fun b => if b = true then _ else _) | (intro e2; cases e2))
section
variable {P : Program} {ops : Array Oper} {C : Nat → World → Prop} {st : List Nat} {tg : List (Nat × Nat)}
def cT (st : List Nat) (listed : Array Bool) : Nat := cntT (fun i => listed.getD i false) st
def YieldsT (P : Program) (ops : Array Oper) (C : Nat → World → Prop) (st : List Nat) (tg : List (Nat × Nat)) (i : Nat) (o : Oper) (v : Value) (a : Act) : Prop :=
 (Region.wanted o (yielded ops a.tmps) = true ∧ st.contains i = false ∧ ∀ k, (tg.getD i (1, 0)).1 ≤ k → k ≤ (tg.getD i (1, 0)).2 → ∀ w, C k w → o.quietAt P a (C k) w v) ∨
 (Region.wanted o (yielded ops a.tmps) = true ∧ v = undef ∧ ∃ j, st[j]? = some i ∧ ∀ w, C j w → ∃ w', (execOp a.eval o).run P w = .ok .skip w' ∧ C (j + 1) w') ∨
 (Region.wanted o (yielded ops a.tmps) = false ∧ st.contains i = false ∧ v = undef)
def tOp (P : Program) (ops : Array Oper) (C : Nat → World → Prop) (st : List Nat) (tg : List (Nat × Nat)) (i : Nat) (K : Act → Prop) (a : Act) : Prop := ∃ o v, ops[i]? = some o ∧ YieldsT P ops C st tg i o v a ∧ K (a.put o.dst v)
theorem YieldsT.of_same {i : Nat} {o : Oper} {v : Value} {a a' : Act} (hy : YieldsT P ops C st tg i o v a) (he : execOp a'.eval o = execOp a.eval o)
  (hw : Region.wanted o (yielded ops a'.tmps) = Region.wanted o (yielded ops a.tmps)) : YieldsT P ops C st tg i o v a' := by
 unfold YieldsT Oper.quietAt at *
 rw [he, hw]
 exact hy
theorem tOp_mono {i : Nat} {a : Act} {K K' : Act → Prop} (h : ∀ a, K a → K' a) : tOp P ops C st tg i K a → tOp P ops C st tg i K' a := fun ⟨o, v, h1, h2, h3⟩ => ⟨o, v, h1, h2, h _ h3⟩
theorem tOp_put {i j : Nat} {oi oj : Oper} {v : Value} (hj : ops[j]? = some oj) (hap : oi.apart ops oj = true)
  (hsi : ∀ cs b, oi.op ≠ .select cs b) (hsj : ∀ cs b, oj.op ≠ .select cs b) {K : Act → Prop} {a : Act}
  (hy : YieldsT P ops C st tg i oi v a) (h : tOp P ops C st tg j K (a.put oi.dst v)) :
  tOp P ops C st tg j (fun a' => YieldsT P ops C st tg i oi v a' ∧ K (a'.put oi.dst v)) a := by
 obtain ⟨h1, h2, h3⟩ := Oper.apart_spec hap
 obtain ⟨o, u, ho, hu, hK⟩ := h
 obtain rfl : oj = o := Option.some.inj (hj.symm.trans ho)
 refine ⟨oj, u, hj, hu.of_same (execOp_put oj hsj a oi.dst v h1).symm (wanted_put oj a oi.dst v h1).symm, ?_, ?_⟩
 ·exact hy.of_same (execOp_put oi hsi a oj.dst u h3) (wanted_put oi a oj.dst u h3)
 ·rw [← Act.put_comm a v u h2]; exact hK
def wpAnyY (P : Program) (ops : Array Oper) (C : Nat → World → Prop) (st : List Nat) (tg : List (Nat × Nat)) (Q : Act → Prop) : Nat → Array Bool → Act → Prop
 | 0, listed, a => Region.ready .any ops listed = [] ∧ Q a
 | f + 1, listed, a => (Region.ready .any ops listed = [] → Q a) ∧ ∀ i ∈ Region.ready .any ops listed, tOp P ops C st tg i (wpAnyY P ops C st tg Q f (listed.setIfInBounds i true)) a
theorem wpAnyY_first {Q : Act → Prop} {i : Nat} {oi : Oper} {v : Value} (hi : ops[i]? = some oi) (hsel : ∀ (j : Nat) (o : Oper) cs b, ops[j]? = some o → o.op ≠ .select cs b) :
  ∀ (f : Nat) (listed : Array Bool) (a : Act),
   (∀ j oj, ops[j]? = some oj → j ≠ i → listed.getD j true = false → (∀ e ∈ oj.after, Region.binds .any e = true → e.on ≠ i) → oi.apart ops oj = true) →
   i ∈ Region.ready .any ops listed → YieldsT P ops C st tg i oi v a →
   wpAnyY P ops C st tg Q f (listed.setIfInBounds i true) (a.put oi.dst v) → wpAnyY P ops C st tg Q (f + 1) listed a := by
 intro f
 induction f with
 | zero =>
  intro listed a _ hr hy H
  refine ⟨fun h => (by rw [h] at hr; cases hr), fun j hj => ?_⟩
  by_cases hji : j = i
  ·subst hji; exact ⟨oi, v, hi, hy, H⟩
  ·have := ready_mono hj hji
   rw [H.1] at this
   cases this
 | succ f ih =>
  intro listed a hfree hr hy H
  refine ⟨fun h => (by rw [h] at hr; cases hr), fun j hj => ?_⟩
  by_cases hji : j = i
  ·subst hji; exact ⟨oi, v, hi, hy, H⟩
  ·have h1 := H.2 j (ready_mono hj hji)
   obtain ⟨hjun, oj, hoj, hall⟩ := mem_ready.1 hj
   have hnot : ∀ e ∈ oj.after, Region.binds .any e = true → e.on ≠ i := fun e he hb heq => by
    have h1 := hall e he hb
    rw [heq, getD_both (mem_ready.1 hr).1] at h1
    cases h1
   have h2 := tOp_put hoj (hfree j oj hoj hji hjun hnot) (fun cs b => hsel i oi cs b hi) (fun cs b => hsel j oj cs b hoj) hy h1
   have hfree' : ∀ k ok, ops[k]? = some ok → k ≠ i → (listed.setIfInBounds j true).getD k true = false →
     (∀ e ∈ ok.after, Region.binds .any e = true → e.on ≠ i) → oi.apart ops ok = true := fun k ok hk hki hun hno => by
    refine hfree k ok hk hki ?_ hno
    by_cases hjk : j = k
    ·subst hjk; exact hjun
    ·rw [Go.getD_set_ne true hjk] at hun; exact hun
   refine tOp_mono (fun a' h3 => ih (listed.setIfInBounds j true) a' hfree' (ready_mono hr (Ne.symm hji)) h3.1 ?_) h2
   rw [Array.setIfInBounds_comm _ _ hji]
   exact h3.2
def wpT (P : Program) (ops : Array Oper) (C : Nat → World → Prop) (st : List Nat) (tg : List (Nat × Nat)) (Q : Act → Prop) : List Oper → Nat → Act → Prop
 | [], _, a => Q a
 | o :: l, i, a => ∃ v, YieldsT P ops C st tg i o v a ∧ wpT P ops C st tg Q l (i + 1) (a.put o.dst v)
theorem wpAnyY_lex {Q : Act → Prop} (hs : Region.noSelect ops = true) : ∀ (l : List Oper) (k : Nat) (listed : Array Bool) (a : Act), (∀ j, l[j]? = ops[k + j]?) →
  Region.lexFrom .any ops l.length k listed = true → wpT P ops C st tg Q l k a → wpAnyY P ops C st tg Q l.length listed a
 | [], _, _, _, _, hB, h => ⟨by simpa [Region.lexFrom] using hB, h⟩
 | o :: l, k, listed, a, hl, hB, h => by
  have h0 : ops[k]? = some o := by simpa using (hl 0).symm
  simp only [List.length_cons, Region.lexFrom, Bool.and_eq_true] at hB
  obtain ⟨⟨hr, hf⟩, hB'⟩ := hB
  obtain ⟨v, hy, hK⟩ := h
  exact wpAnyY_first h0 (Region.noSelect_spec hs) l.length listed a (Region.free_spec h0 hf) (by simpa using hr) hy
   (wpAnyY_lex hs l (k + 1) _ _ (fun j => by have := hl (j + 1); simpa [Nat.add_assoc, Nat.add_comm 1 j] using this) hB' hK)
def loB (ops : Array Oper) (st : List Nat) (tg : List (Nat × Nat)) (i : Nat) : Bool := ((tg.getD i (1, 0)).1 == 0 || (st[(tg.getD i (1, 0)).1 - 1]?).any (fun t => Region.waitsFor .any ops i t)) || (List.range i).any fun j => Region.waitsFor .any ops i j && (!st.contains j && decide ((tg.getD i (1, 0)).1 ≤ (tg.getD j (1, 0)).1))
def hiB (ops : Array Oper) (st : List Nat) (tg : List (Nat × Nat)) (i : Nat) : Bool := (decide (st.length ≤ (tg.getD i (1, 0)).2) || (st[(tg.getD i (1, 0)).2]?).any (fun t => Region.waitsFor .any ops t i)) || (List.range ops.size).any fun j => decide (i < j) && (Region.waitsFor .any ops j i && (!st.contains j && decide ((tg.getD j (1, 0)).2 ≤ (tg.getD i (1, 0)).2)))
def tagB (ops : Array Oper) (st : List Nat) (tg : List (Nat × Nat)) : Bool := (List.range ops.size).all fun i => st.contains i || (loB ops st tg i && hiB ops st tg i)
theorem cntT_ge {S : Nat → Bool} (hcl : ∀ j o', S j = true → ops[j]? = some o' → ∀ e ∈ o'.after, Region.binds .any e = true → S e.on = true) : ∀ (st : List Nat) (j i : Nat), chainB ops st = true → st[j]? = some i → S i = true → j + 1 ≤ cntT S st := by
 intro st
 induction st with
 | nil => intro j i _ h; simp at h
 | cons s r ih =>
  intro j i hc hj hi
  have hs : S s = true := by
   rcases j with _ | j
   ·simp only [List.getElem?_cons_zero, Option.some.injEq] at hj; rw [hj]; exact hi
   ·rcases h : S s with _ | _
    ·have := chain_false hcl r s hc h i (List.mem_of_getElem? (by simpa using hj))
     rw [hi] at this; cases this
    ·rfl
  simp only [cntT, hs, if_true]
  rcases j with _ | j
  ·omega
  ·have hc2 : chainB ops r = true := by
    cases r with
    | nil => rfl
    | cons x r => simp only [chainB, Bool.and_eq_true] at hc; exact hc.2
   have := ih j i hc2 (by simpa using hj) hi
   omega
theorem cntT_lt {S : Nat → Bool} : ∀ (st : List Nat) (j i : Nat), st[j]? = some i → S i = false → cntT S st ≤ j := by
 intro st
 induction st with
 | nil => intro j i h; simp at h
 | cons s r ih =>
  intro j i hj hi
  rcases j with _ | j
  ·simp only [List.getElem?_cons_zero, Option.some.injEq] at hj; subst hj; simp [cntT, hi]
  ·have := ih j i (by simpa using hj) hi
   simp only [cntT]; split <;> omega
structure InvT (ops : Array Oper) (listed : Array Bool) : Prop where
 size : listed.size = ops.size
 closed : ∀ j oj, listed.getD j false = true → ops[j]? = some oj → ∀ e ∈ oj.after, Region.binds .any e = true → listed.getD e.on false = true
theorem InvT.set {i : Nat} {listed : Array Bool} (inv : InvT ops listed) (hi : i ∈ Region.ready .any ops listed) : InvT ops (listed.setIfInBounds i true) := by
 obtain ⟨_, oi, hoi, hall⟩ := mem_ready.1 hi
 refine ⟨by simp [inv.size], fun j oj hl hj e he hb => ?_⟩
 by_cases hij : i = j
 ·subst hij
  have : oj = oi := Option.some.inj (hj.symm.trans hoi)
  subst this
  exact getD_set_true (hall e he hb)
 ·rw [Go.getD_set_ne false hij] at hl
  exact getD_set_true (inv.closed j oj hl hj e he hb)
theorem set_upd {i : Nat} {listed : Array Bool} (h : i < listed.size) : (fun j => (listed.setIfInBounds i true).getD j false) = upd (fun j => listed.getD j false) i := by
 funext j
 unfold upd
 by_cases e : j = i
 ·subst e; simp [h]
 ·rw [if_neg e, Go.getD_set_ne false (fun h => e h.symm)]
theorem waits_ready {i t : Nat} {listed : Array Bool} (hi : i ∈ Region.ready .any ops listed) (h : Region.waitsFor .any ops i t = true) : listed.getD t false = true := by
 obtain ⟨_, oi, hoi, hall⟩ := mem_ready.1 hi
 obtain ⟨oj, hj, e, he, hb, hon⟩ := Region.waitsFor_spec h
 have : oj = oi := Option.some.inj (hj.symm.trans hoi)
 subst this
 rw [← hon]; exact hall e he hb
theorem waits_closed {j i : Nat} {listed : Array Bool} (inv : InvT ops listed) (hj : listed.getD j false = true) (h : Region.waitsFor .any ops j i = true) : listed.getD i false = true := by
 obtain ⟨oj, h1, e, he, hbd, hon⟩ := Region.waitsFor_spec h
 rw [← hon]
 exact inv.closed j oj hj h1 e he hbd
theorem tag_lo {listed : Array Bool} (hg : tagB ops st tg = true) (hc : chainB ops st = true) (inv : InvT ops listed) : ∀ (n i : Nat), i < n → i < ops.size → st.contains i = false → (∀ t, Region.waitsFor .any ops i t = true → listed.getD t false = true) → (tg.getD i (1, 0)).1 ≤ cT st listed
 | 0, i, h, _, _, _ => by omega
 | n + 1, i, hn, hlt, hs, hw => by
  have h1 := List.all_eq_true.1 hg i (List.mem_range.2 hlt)
  simp only [hs, Bool.false_or, Bool.and_eq_true] at h1
  have ha := h1.1
  unfold loB at ha
  simp only [Bool.or_eq_true, beq_iff_eq, Option.any_eq_true, List.any_eq_true, List.mem_range, Bool.and_eq_true, Bool.not_eq_true', decide_eq_true_eq] at ha
  rcases ha with (ha | ⟨t, ht, h2⟩) | ⟨j, hj, h2, h3, h4⟩
  ·omega
  ·have := cntT_ge (S := fun j => listed.getD j false) inv.closed st _ t hc ht (hw t h2)
   unfold cT
   omega
  ·have h5 := hw j h2
   have := tag_lo hg hc inv n j (by omega) (by omega) h3 (fun t ht => waits_closed inv h5 ht)
   omega
theorem tag_hi {listed : Array Bool} (hg : tagB ops st tg = true) (inv : InvT ops listed) : ∀ (n i : Nat), ops.size - i < n → i < ops.size → st.contains i = false → listed.getD i false = false → cT st listed ≤ (tg.getD i (1, 0)).2
 | 0, i, h, _, _, _ => by omega
 | n + 1, i, hn, hlt, hs, hl => by
  have h1 := List.all_eq_true.1 hg i (List.mem_range.2 hlt)
  simp only [hs, Bool.false_or, Bool.and_eq_true] at h1
  have hb := h1.2
  unfold hiB at hb
  simp only [Bool.or_eq_true, Option.any_eq_true, List.any_eq_true, List.mem_range, Bool.and_eq_true, Bool.not_eq_true', decide_eq_true_eq] at hb
  rcases hb with (hb | ⟨t, ht, h2⟩) | ⟨j, hj, hij, h2, h3, h4⟩
  ·exact Nat.le_trans (cntT_le _ st) hb
  ·refine cntT_lt (S := fun j => listed.getD j false) st _ t ht ?_
   rcases hx : listed.getD t false with _ | _
   ·rfl
   ·rw [waits_closed inv hx h2] at hl; cases hl
  ·rcases hx : listed.getD j false with _ | _
   ·have := tag_hi hg inv n j (by omega) hj h3 hx
    omega
   ·rw [waits_closed inv hx h2] at hl; cases hl
theorem tag_bd {i : Nat} {listed : Array Bool} (hg : tagB ops st tg = true) (hc : chainB ops st = true) (inv : InvT ops listed) (hi : i ∈ Region.ready .any ops listed) (hs : st.contains i = false) :
  (tg.getD i (1, 0)).1 ≤ cT st listed ∧ cT st listed ≤ (tg.getD i (1, 0)).2 := by
 have hlt : i < ops.size := by
  obtain ⟨_, oi, hoi, _⟩ := mem_ready.1 hi
  exact (Array.getElem?_eq_some_iff.1 hoi).1
 exact ⟨tag_lo hg hc inv (i + 1) i (by omega) hlt hs (fun t ht => waits_ready hi ht), tag_hi hg inv (ops.size + 1) i (by omega) hlt hs (getD_both (mem_ready.1 hi).1)⟩
theorem wpAny_of_Y {Q : Act → Prop} {Q' : Exit → Act → World → Prop} (hg : tagB ops st tg = true) (hc : chainB ops st = true) (hn : st.Nodup) (hlt : ∀ s ∈ st, s < ops.size) (hQ : ∀ a w, C st.length w → Q a → Q' .normal a w) :
  ∀ (f : Nat) (listed : Array Bool) (a : Act) (w : World), InvT ops listed → C (cT st listed) w → (Region.ready .any ops listed = [] → cT st listed = st.length) → (∀ l', InvT ops l' → Region.ready .any ops l' = [] → cT st l' = st.length) →
   wpAnyY P ops C st tg Q f listed a → wpAny P .any ops Q' f listed a w
 | 0, listed, a, w, inv, hw, he, _, h => ⟨h.1, hQ _ _ (by rw [← he h.1]; exact hw) h.2⟩
 | f + 1, listed, a, w, inv, hw, he, hall, h => ⟨fun h0 => hQ _ _ (by rw [← he h0]; exact hw) (h.1 h0), fun i hi => by
  obtain ⟨o, v, ho, hy, hK⟩ := h.2 i hi
  have inv' := inv.set hi
  have hir : i < listed.size := by rw [inv.size]; exact (Array.getElem?_eq_some_iff.1 ho).1
  have next : ∀ w', C (cT st (listed.setIfInBounds i true)) w' → wpAny P .any ops Q' f (listed.setIfInBounds i true) (a.put o.dst v) w' := fun w' hw' =>
   wpAny_of_Y hg hc hn hlt hQ f _ _ w' inv' hw' (hall _ inv') hall hK
  unfold wpOp
  simp only [ho]
  rcases hy with ⟨hwd, hs, hq⟩ | ⟨hwd, rfl, j, hj, ht⟩ | ⟨hwd, hs, rfl⟩
  ·have hcT : cT st (listed.setIfInBounds i true) = cT st listed := by
    unfold cT
    rw [set_upd hir]
    exact cntT_off (fun hm => by have : st.contains i = true := by simpa using hm
                                 rw [hs] at this; cases this)
   rw [hcT] at next
   obtain ⟨hb1, hb2⟩ := tag_bd hg hc inv hi hs
   have h3 := hq _ hb1 hb2 w hw
   rw [if_pos hwd]
   refine .inl ?_
   unfold Oper.quietAt at h3
   unfold Oper.wp
   generalize (execOp a.eval o).run P w = r at *
   cases r with
   | ok n w' =>
    cases n <;> simp only [Oper.quietUpon] at h3 <;> simp only [Oper.upon]
    case value u => obtain ⟨rfl, rfl⟩ := h3; exact next _ hw
    case skip => obtain ⟨rfl, rfl⟩ := h3; exact next _ hw
    case enter fn args =>
     obtain ⟨rfl, hcall⟩ := h3
     exact hcall.mono fun e w'' ⟨he, hw''⟩ => by subst he; exact next _ hw''
   | halt x w' => simp only [Oper.quietUpon] at h3
  ·have hcl := inv.closed
   have hun : listed.getD i false = false := getD_both (mem_ready.1 hi).1
   obtain ⟨e1, e2⟩ := cntT_at (S := fun j => listed.getD j false) hcl st j i hc hn hj hun (fun p q hp hpj => by
    have key : Region.waitsFor .any ops i q = true := by
     have key2 : ∀ (st : List Nat) (p q i : Nat), chainB ops st = true → st[p]? = some q → st[p + 1]? = some i → Region.waitsFor .any ops i q = true := by
      intro st
      induction st with
      | nil => intro p q i _ h; simp at h
      | cons s r ih =>
       intro p q i hc h1 h2
       rcases p with _ | p
       ·simp only [List.getElem?_cons_zero, Option.some.injEq] at h1
        subst h1
        cases r with
        | nil => simp at h2
        | cons t r =>
         simp only [List.getElem?_cons_succ, List.getElem?_cons_zero, Option.some.injEq] at h2
         subst h2
         simp only [chainB, Bool.and_eq_true] at hc
         unfold Region.waitsFor
         rcases hot : ops[t]? with _ | ot
         ·rw [hot] at hc; simp at hc
         ·rw [hot] at hc; simpa using hc.1
       ·have hc2 : chainB ops r = true := by
         cases r with
         | nil => rfl
         | cons x r => simp only [chainB, Bool.and_eq_true] at hc; exact hc.2
        exact ih p q i hc2 (by simpa using h1) (by simpa using h2)
     exact key2 st p q i hc hp (by rw [hpj]; exact hj)
    exact waits_ready hi key)
   have hcT : cT st (listed.setIfInBounds i true) = j + 1 := by
    unfold cT
    rw [set_upd hir]; exact e2
   rw [hcT] at next
   have hwj : C j w := by
    have : cT st listed = j := e1
    rw [← this]; exact hw
   obtain ⟨w', hr, hw'⟩ := ht w hwj
   rw [if_pos hwd]
   refine .inl ?_
   unfold Oper.wp
   rw [hr]
   exact next _ hw'
  ·have hcT : cT st (listed.setIfInBounds i true) = cT st listed := by
    unfold cT
    rw [set_upd hir]
    exact cntT_off (fun hm => by have : st.contains i = true := by simpa using hm
                                 rw [hs] at this; cases this)
   rw [hcT] at next
   rw [if_neg (by rw [hwd]; exact Bool.false_ne_true)]
   exact next _ hw⟩
theorem all_listed (hb : edgesBack .any ops = true) {listed : Array Bool} (inv : InvT ops listed) (hr : Region.ready .any ops listed = []) : ∀ i, i < ops.size → listed.getD i true = true := by
 intro i
 induction i using Nat.strongRecOn with
 | _ i ih =>
  intro hi
  rcases h : listed.getD i true with _ | _
  ·exfalso
   have hm : i ∈ Region.ready .any ops listed := by
    rw [mem_ready]
    refine ⟨h, ops[i], Array.getElem?_eq_getElem hi, fun e he hbd => ?_⟩
    have hb' := hb
    unfold edgesBack at hb'
    rw [List.all_eq_true] at hb'
    have h1 := hb' i (List.mem_range.2 hi)
    rw [Array.getElem?_eq_getElem hi] at h1
    simp only [Option.map_some, Option.getD_some, Array.all_eq_true', Bool.or_eq_true, Bool.not_eq_true', decide_eq_true_eq] at h1
    have h2 : e.on < i := by
     rcases h1 e he with h1 | h1
     ·rw [hbd] at h1; cases h1
     ·exact h1
    have h3 := ih e.on h2 (by omega)
    have hl : e.on < listed.size := by rw [inv.size]; omega
    simpa [hl] using h3
   rw [hr] at hm; cases hm
  ·rfl
def stC (Wk : Nat → World) (k : Nat) (w' : World) : Prop := ∃ p : Regrown, w' = grow (redrawn (Wk k) p.d) p.os
structure RegK where
 k : Nat
 d : Nat
 os : Array Obj
 deriving Inhabited
def turnB (ops : Array Oper) (st : List Nat) (tg : List (Nat × Nat)) : Bool := Region.lexB .any ops && (edgesBack .any ops && (tagB ops st tg && (chainB ops st && (decide st.Nodup && st.all (fun s => decide (s < ops.size))))))
theorem wp_region_turn {id : Nat} {Q : Exit → Act → World → Prop} {a : Act} {w : World} {l : List Oper} (st : List Nat) (tg : List (Nat × Nat)) (Wk : Nat → World) (hm : P.follows .mixedOrders = true) (hB : turnB l.toArray st tg = true) (h0 : Wk 0 = w)
  (h : wpT P l.toArray (stC Wk) st tg (fun a' => ∀ w', Below (Wk st.length).heap.size (Wk st.length) w' → Q .normal a' w') l 0 a) : (Code.region id l.toArray true).wp P Q a w := by
 unfold turnB at hB
 simp only [Bool.and_eq_true, decide_eq_true_eq, List.all_eq_true] at hB
 obtain ⟨hlex, hb, hg, hc, hn, hlt⟩ := hB
 unfold Region.lexB at hlex
 simp only [Bool.and_eq_true] at hlex
 have hall : ∀ l', InvT l.toArray l' → Region.ready .any l.toArray l' = [] → cT st l' = st.length := by
  intro l' inv hr
  refine cntT_all (fun s hs => ?_)
  have hs2 := hlt s hs
  have h1 := all_listed hb inv hr s hs2
  have hl : s < l'.size := by rw [inv.size]; exact hs2
  simpa [hl] using h1
 have inv0 : InvT l.toArray (Array.replicate l.toArray.size false) := ⟨by simp, fun j oj hl => (by rw [getD_replicate_false] at hl; cases hl)⟩
 have hc0 : cT st (Array.replicate l.toArray.size false) = 0 := cntT_zero (fun s _ => getD_replicate_false _ _)
 refine wp_region_any hm ?_
 refine wpAny_of_Y (C := stC Wk) hg hc hn hlt (Q := fun a' => ∀ w', Below (Wk st.length).heap.size (Wk st.length) w' → Q .normal a' w') ?_ _ _ _ _ inv0 ?_ (fun hr => hall _ inv0 hr) hall ?_
 ·rintro a' w' ⟨p, rfl⟩ hq
  exact hq _ (below_regrown _ _ _)
 ·rw [hc0, ← h0]
  exact ⟨⟨(Wk 0).drawn + 1, #[]⟩, by rw [grow_empty]; rfl⟩
 ·have := wpAnyY_lex (P := P) (C := stC Wk) (st := st) (tg := tg) hlex.1 l 0 (Array.replicate l.toArray.size false) a (by simp) (by simpa using hlex.2) h
  simpa using this
section steps
variable {Wk : Nat → World} {Q : Act → Prop} {o : Oper} {l : List Oper} {i : Nat} {a : Act}
theorem wpT_q (k : Nat) (hs : st.contains i = false) (ht : tg.getD i (1, 0) = (k, k))
  (h : wpQuiet P ops (fun w' => ∃ p : Regrown, w' = grow (redrawn (Wk k) p.d) p.os) (fun a' => wpT P ops (stC Wk) st tg Q l (i + 1) a') [o] a) : wpT P ops (stC Wk) st tg Q (o :: l) i a := by
 simp only [wpQuiet] at h
 split at h
 ·rename_i hw
  obtain ⟨v, h1, h2⟩ := h
  refine ⟨v, .inl ⟨hw, hs, fun k' hk1 hk2 w hw' => ?_⟩, h2⟩
  rw [ht] at hk1 hk2
  obtain rfl : k' = k := Nat.le_antisymm hk2 hk1
  exact h1 w hw'
 ·rename_i hw
  exact ⟨undef, .inr (.inr ⟨by simpa using hw, hs, rfl⟩), h⟩
theorem wpT_f (hs : st.contains i = false) (hc : calm o.op = true)
  (h : wpQuiet P ops (fun w' => ∃ p : RegK, w' = grow (redrawn (Wk p.k) p.d) p.os) (fun a' => wpT P ops (stC Wk) st tg Q l (i + 1) a') [o] a) : wpT P ops (stC Wk) st tg Q (o :: l) i a := by
 simp only [wpQuiet] at h
 split at h
 ·rename_i hw
  obtain ⟨v, h1, h2⟩ := h
  refine ⟨v, .inl ⟨hw, hs, fun k _ _ w hw' => ?_⟩, h2⟩
  obtain ⟨p, rfl⟩ := hw'
  have h3 := h1 _ ⟨⟨k, p.d, p.os⟩, rfl⟩
  unfold Oper.quietAt at h3 ⊢
  have h4 := fun f args w' => calm_run (P := P) hc a.eval (grow (redrawn (Wk k) p.d) p.os) (f := f) (args := args) (w' := w')
  generalize (execOp a.eval o).run P (grow (redrawn (Wk k) p.d) p.os) = r at *
  cases r with
  | ok n w' =>
   cases n
   case enter f args => exact absurd rfl (h4 f args w')
   all_goals exact h3
  | halt x w' => exact h3
 ·rename_i hw
  exact ⟨undef, .inr (.inr ⟨by simpa using hw, hs, rfl⟩), h⟩
theorem wanted_plain {t : Nat → Option Bool} (hg : o.guard = none) : Region.wanted o t = true := by simp [Region.wanted, hg]
theorem run_storeS {w : World} {ty : TypeId} {g b : Nat} {v u : Value} (hi : (P.info? ty).map (·.size) = some 1) (h1 : v.oneCell' = true)
  (hc : w.cell? ⟨g, b, none⟩ = some u) (hf : w.frozen? ⟨g, b, none⟩ = false) : (storeVar ty ⟨g, b, none⟩ v).run P w = .ok () (w.setCell ⟨g, b, none⟩ v) := by
 have hv : v.cells = #[v] := by cases v <;> simp_all [Value.cells, Value.oneCell']
 cases hq : P.info? ty with
 | none => simp [hq] at hi
 | some i =>
  have hs : i.size = 1 := by simpa [hq] using hi
  simp only [storeVar, sizeOf, typeInfo, Sem.run_bind]
  simp [hq, hs, hv, storeCells, Addr.add_lit, run_store P w _ v _ h1, hc, hf]
theorem modify_app {A B : Array Obj} {g : Nat} (h : g < A.size) (f : Obj → Obj) : (A ++ B).modify g f = A.modify g f ++ B := by
 apply Array.ext_getElem?
 intro k
 by_cases hk : k < A.size
 ·rw [Array.getElem?_modify, Array.getElem?_append_left hk, Array.getElem?_append_left (by simpa using hk), Array.getElem?_modify]
 ·rw [Array.getElem?_modify, if_neg (by omega), Array.getElem?_append_right (by omega), Array.getElem?_append_right (by simpa using hk)]
  simp
theorem wpT_s (j : Nat) (hj : st[j]? = some i) (hg : o.guard = none) (ty : TypeId) (x y : Operand) (ho : o.op = .store ty x y) {g b : Nat} {v u : Value} (hx : a.eval x = .pointer (some ⟨g, b, none⟩)) (hy : a.eval y = v)
  (hi : (P.info? ty).map (·.size) = some 1) (h1 : v.oneCell' = true) (hc : (Wk j).cell? ⟨g, b, none⟩ = some u) (hf : (Wk j).frozen? ⟨g, b, none⟩ = false) (hW : Wk (j + 1) = (Wk j).setCell ⟨g, b, none⟩ v)
  (hd : o.dst = none) (h : wpT P ops (stC Wk) st tg Q l (i + 1) a) : wpT P ops (stC Wk) st tg Q (o :: l) i a := by
 refine ⟨undef, .inr (.inl ⟨wanted_plain hg, rfl, j, hj, ?_⟩), by rw [hd]; exact h⟩
 rintro w ⟨p, rfl⟩
 have hlt := block_lt_of_cell hc
 have hb := below_regrown (Wk j) p.d p.os
 refine ⟨grow (redrawn (Wk (j + 1)) p.d) p.os, ?_, p, rfl⟩
 have e1 : (grow (redrawn (Wk j) p.d) p.os).setCell ⟨g, b, none⟩ v = grow (redrawn (Wk (j + 1)) p.d) p.os := by
  rw [hW]
  unfold World.setCell grow redrawn
  simp only
  congr 1
  exact modify_app hlt _
 have hr := run_storeS (P := P) (ty := ty) hi h1 ((hb.cell hlt).trans hc) ((hb.frozen hlt).trans hf)
 unfold execOp
 simp only [ho, hx, hy, Instr.storeAt, Instr.sureAddr, Sem.run_bind, Sem.run_pure, Result.andThen_ok, hr, e1]
theorem wpT_r (j : Nat) (hj : st[j]? = some i) (hg : o.guard = none) (ty : TypeId) (x y : Operand) (ho : o.op = .store ty x y) {g : Nat} {cells old : Array Value} {t : TypeId} (hx : a.eval x = .pointer (some ⟨g, 0, none⟩)) (hy : a.eval y = .agg cells)
  (hq : HasO (Wk j) g (.cells old t (0, 0))) (hi : (P.info? ty).map (·.size) = some cells.size) (hold : old.size = cells.size) (h1 : cells.all (·.oneCell') = true) (hW : Wk (j + 1) = (Wk j).setRow g cells)
  (hd : o.dst = none) (h : wpT P ops (stC Wk) st tg Q l (i + 1) a) : wpT P ops (stC Wk) st tg Q (o :: l) i a := by
 refine ⟨undef, .inr (.inl ⟨wanted_plain hg, rfl, j, hj, ?_⟩), by rw [hd]; exact h⟩
 rintro w ⟨p, rfl⟩
 have hlt := hq.lt
 have hb := below_regrown (Wk j) p.d p.os
 refine ⟨grow (redrawn (Wk (j + 1)) p.d) p.os, ?_, p, rfl⟩
 have e1 : (grow (redrawn (Wk j) p.d) p.os).setRow g cells = grow (redrawn (Wk (j + 1)) p.d) p.os := by
  rw [hW]
  unfold World.setRow grow redrawn
  simp only
  congr 1
  exact modify_app hlt _
 have hr := run_storeVar_row (P := P) (grow (redrawn (Wk j) p.d) p.os) g t ty old cells (hq.call hb) hi hold h1
 unfold execOp
 simp only [ho, hx, hy, Instr.storeAt, Instr.sureAddr, Sem.run_bind, Sem.run_pure, Result.andThen_ok, hr, e1]
theorem wpT_nil (h : Q a) : wpT P ops (stC Wk) st tg Q [] i a := h
end steps
end
end Go.Proofs.YtefmplccbkmalaaGreatDoor
