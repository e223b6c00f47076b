/- Small laws of memory: facts on one object of the heap, the next step of a range over a string, append of one element. No program in sight. -/
import Derived.WalkKit
import Derived.Below
import Derived.Deep.Draws
import Derived.Laws.OwnMore
import Derived.Laws.RangeString
import Derived.Laws.Rows
import Derived.RegionTactic
import Derived.Lib.Hide
import Derived.RangeFuncNested
import Derived.RangeFuncBox
namespace Go.Proofs.Ytddkhnnpeonbgaa
open Go.RowKit

theorem bcell {W w1 : World} (hb : Below W.heap.size W w1) : (∀ b o, b < W.heap.size → w1.cell? ⟨b, o, none⟩ = W.cell? ⟨b, o, none⟩) ∧ (∀ b o, b < W.heap.size → w1.frozen? ⟨b, o, none⟩ = W.frozen? ⟨b, o, none⟩) :=
  ⟨fun b o h => hb.cell (p := ⟨b, o, none⟩) h, fun b o h => hb.frozen (p := ⟨b, o, none⟩) h⟩
theorem below_drewN {B : Nat} {w w' : World} (h : Below B w w') (n : Nat) : Below B w (w'.drewN n) := ⟨h.os, h.tape, h.output, h.size, h.block⟩
theorem below_undrew {B : Nat} {w w' : World} (h : Below B w.drew w') : Below B w w' := ⟨h.os, h.tape, h.output, h.size, h.block⟩
theorem below_undrewN {B : Nat} {w w' : World} {n : Nat} (h : Below B (w.drewN n) w') : Below B w w' := ⟨h.os, h.tape, h.output, h.size, h.block⟩
theorem below_box (w : World) (o : Obj) : Below w.heap.size w (w.alloc o) := (Below.refl _ _).alloc (Nat.le_refl _) _
theorem below_call {w0 w w' : World} {B : Nat} (h : Below B w0 w) (hB : B ≤ w.heap.size) (hb : Below w.heap.size w w') : Below B w0 w' := h.trans (hb.mono hB)
theorem below_iter (w : World) (o : Obj) (s : ByteArray) (k n : Nat) : Below w.heap.size w (((w.alloc o).iter s k).drewN n) :=
  below_drewN ((below_box _ _).alloc (by simp) _) _
theorem ret_bool {a b : Bool} (h : a = b) : Ending.returned (.bool a) = .returned (.bool b) := by rw [h]
theorem ret_int {k : IntKind} {a b : Int} (h : a = b) : Ending.returned (.int k a) = .returned (.int k b) := by rw [h]
theorem ret_v {a b : Value} (h : a = b) : Ending.returned a = .returned b := by rw [h]
@[simp] theorem iter_size (w : World) (s : ByteArray) (k : Nat) : (w.iter s k).heap.size = w.heap.size + 1 := by simp [World.iter]

/-- one object of the heap -/
def HasO (w : World) (q : Nat) (o : Obj) : Prop := w.heap[q]? = some o
section
variable {w w' : World} {q B : Nat} {o : Obj}
theorem HasO.lt (h : HasO w q o) : q < w.heap.size := (Array.getElem?_eq_some_iff.1 h).1
theorem HasO.new (w : World) (o : Obj) : HasO (w.alloc o) w.heap.size o := World.alloc_heap_new w o
theorem HasO.new' (w : World) (o : Obj) {q : Nat} (hq : q = w.heap.size) : HasO (w.alloc o) q o := by subst hq; exact HasO.new w o
theorem HasO.drewN (h : HasO w q o) (n : Nat) : HasO (w.drewN n) q o := h
theorem HasO.drew (h : HasO w q o) : HasO w.drew q o := h
theorem HasO.alloc (h : HasO w q o) (o' : Obj) : HasO (w.alloc o') q o := (Below.heap_alloc w o' q h.lt).trans h
theorem HasO.far (h : HasO w q o) {p : Addr} (hp : q ≠ p.block) (u : Value) : HasO (w.setCell p u) q o := (Below.heap_setCell w p u q hp).trans h
theorem HasO.below (h : HasO w q o) (hb : Below B w w') (hq : q < B) : HasO w' q o := (hb.block q hq).trans h
theorem HasO.call (h : HasO w q o) (hb : Below w.heap.size w w') : HasO w' q o := h.below hb h.lt
theorem HasO.grown (h : HasO w q o) {row : Option Nat} (hg : w.grownBy w' row) (hr : row ≠ some q) : HasO w' q o := (hg.block q h.lt (fun e => hr e.symm)).trans h
theorem HasO.iter (h : HasO w q o) (s : ByteArray) (k : Nat) : HasO (w.iter s k) q o := h.alloc _
theorem HasO.cells {cs : Array Value} {t : TypeId} (h : HasO w q (.cells cs t (0, 0))) (j : Nat) : w.cell? ⟨q, j, none⟩ = cs[j]? := cell_of_row w q j cs t (0, 0) h
theorem HasO.frozen {cs : Array Value} {t : TypeId} (h : HasO w q (.cells cs t (0, 0))) (j : Nat) : w.frozen? ⟨q, j, none⟩ = false := by
  unfold HasO at h; simp [World.frozen?, h]
theorem HasO.set_ {cs : Array Value} {t : TypeId} (h : HasO w q (.cells cs t (0, 0))) (i : Nat) (u : Value) : HasO (w.setCell ⟨q, i, none⟩ u) q (.cells (cs.setIfInBounds i u) t (0, 0)) := by
  unfold HasO at h ⊢
  simp [World.setCell, Array.getElem?_modify, h]
theorem HasO.ne_ {q' : Nat} {o' : Obj} (h : HasO w q o) (h' : HasO w q' o') (hne : o ≠ o') : q ≠ q' := by
  rintro rfl
  exact hne (Option.some.inj (h.symm.trans h'))
theorem own_ne {base : Nat} {e : TypeId} {size n : Nat} {v : Value} {xs : List Value} (h : w.ownsRow base e size v n xs) (hq : HasO w q o) (ho : ∀ c, o ≠ .cells c e (0, 0)) : v.ownBlock ≠ some q := by
  rcases h.2 with ⟨rfl, _⟩ | ⟨g, cap, cur, rfl, _, hh, _⟩
  · simp [Value.ownBlock]
  · intro he
    have : g = q := by simpa [Value.ownBlock] using he
    subst this
    exact ho cur (Option.some.inj (hq.symm.trans hh))
theorem own_mono {base base' : Nat} {e : TypeId} {size n : Nat} {v : Value} {xs : List Value} (h : w.ownsRow base e size v n xs) (hb : base' ≤ base) : w.ownsRow base' e size v n xs := by
  refine ⟨h.1, ?_⟩
  rcases h.2 with h2 | ⟨g, cap, cur, hv, hg, r⟩
  · exact .inl h2
  · exact .inr ⟨g, cap, cur, hv, Nat.le_trans hb hg, r⟩
theorem own_call {base : Nat} {e : TypeId} {size n : Nat} {v : Value} {xs : List Value} (h : w.ownsRow base e size v n xs) (hb : Below w.heap.size w w') : w'.ownsRow base e size v n xs :=
  h.kept (row := none) ⟨hb.os, hb.tape, hb.output, hb.size, fun k hk _ => hb.block k hk⟩ (by rcases v.ownBlock with _ | x <;> simp)
end

/-- the next step of a range over a string, in whatever world -/
theorem next_at {P : Program} {w : World} {q : Nat} {s : ByteArray} {pos : Nat} (hq : HasO w q (.stringIter s pos)) (h : pos < s.size) (ha : (s[pos]'h).toNat < 128) (ty : TypeId) :
    ∃ w', (Instr.next (.pointer (some ⟨q, 0, none⟩)) true ty).run P w = .ok (.tuple #[.bool true, .int .i64 pos, .int .i32 (s[pos]'h).toNat]) w' ∧
      HasO w' q (.stringIter s (pos + 1)) ∧ w.grownBy w' (some q) ∧ w'.heap.size = w.heap.size := by
  have hlt := hq.lt
  refine ⟨{ w with heap := w.heap.setIfInBounds q (.stringIter s (pos + 1)) }, ?_, ?_, ⟨rfl, rfl, rfl, by simp, fun k hk hne => ?_⟩, by simp⟩
  · unfold HasO at hq
    simp only [Instr.next, getObj, setObj, Sem.run_bind, Sem.run, hq, Result.andThen, h, if_true, decode_ascii s pos h ha]
    simp [goInt]
  · simp [HasO, hlt]
  · have : q ≠ k := fun e => hne (by rw [e])
    simp [this]
theorem next_at_end {P : Program} {w : World} {q : Nat} {s : ByteArray} {pos : Nat} (hq : HasO w q (.stringIter s pos)) (h : ¬ pos < s.size) (ty : TypeId) :
    (Instr.next (.pointer (some ⟨q, 0, none⟩)) true ty).run P w = .ok (.tuple #[.bool false]) w := by
  unfold HasO at hq
  simp [Instr.next, getObj, Sem.run, hq, h]

/-- append of one element: behind the block that holds it -/
theorem wpList_push {P : Program} {W : World} {ops : Array Oper} {rest : List Oper} {o : Oper} {a : Act} {Q : Exit → Act → World → Prop} (hgd : o.guard = none) (s x : Operand) (t : TypeId)
    (ho : o.op = .call { callee := .builtin .append, args := #[s, x], argTypes := #[t, t] })
    (base : Nat) (e : TypeId) (i : TypeInfo) (z : Value) (size bytes : Nat) (ht : P.underlying t = some (.slice e)) (hi : P.info? e = some i) (hz : i.zero = some z)
    (hsize : i.size = size) (hby : i.bytes = bytes) (hzs : z.cells.size = size) (hsz : 0 < size)
    (v : Value) (n : Nat) (xs : List Value) (hs : a.eval s = v) (hown : W.ownsRow base e size v n xs)
    (news : List Value) (hl : news.length = size) (h1 : ∀ u ∈ news, u.oneCell' = true) (q : Nat) (hq : q = W.heap.size) (hx : a.eval x = .slice (some ⟨q, 0, none⟩) 1 1)
    (hbytes : (n + 1) * (bytes + 1) ≤ 140737488355328) (hbase : base ≤ W.heap.size)
    (h : ∀ v' w', w'.ownsRow base e size v' (n + 1) (xs ++ news) → W.grownBy w' v.ownBlock → v' ≠ .slice none 0 0 → wpList P ops Q rest (a.put o.dst v') w') :
    wpList P ops Q (o :: rest) a (W.alloc (.cells news.toArray e)) := by
  subst hq
  have hb1 : (n + 1) * bytes ≤ 140737488355328 := Nat.le_trans (Nat.mul_le_mul_left _ (by omega)) hbytes
  have hb2 : n + 1 ≤ maxLen := by
    have : (n + 1) * 1 ≤ (n + 1) * (bytes + 1) := Nat.mul_le_mul_left _ (by omega)
    unfold maxLen; omega
  refine wpList_append_own _ hgd s x t ho base e i z size bytes ht hi hz hsize hby hzs hsz v n xs hs (hown.alloc _) ⟨W.heap.size, 0, none⟩ 1 1 news hx (by omega) ?_ h1 hb2 hb1 (by simp; omega) ?_
  · intro j u hu
    rw [Addr.add_lit]
    have := (HasO.new W (.cells news.toArray e)).cells j
    rw [Nat.zero_add, this]
    simpa using hu
  · intro v' w' ho' hg hnil
    refine h v' w' ho' ⟨hg.os, hg.tape, hg.output, Nat.le_trans (by simp) hg.size, fun k hk hne => ?_⟩ (fun e => by have := hnil.1 e; omega)
    exact (hg.block k (by simp; omega) hne).trans (Below.heap_alloc _ _ _ hk)
end Go.Proofs.Ytddkhnnpeonbgaa
