import Derived.Test.YtddkhnnpeonbgaaW8
import Derived.Shelf.Strings.Builder1
import Derived.Test.YtddkhnnpeonbgaaShelf
namespace Go.Proofs.Ytddkhnnpeonbgaa
open Go.RowKit

/-- only block b, one row, and new blocks may differ -/
structure Grow2 (b : Nat) (row : Option Nat) (w w' : World) : Prop where
  os : w'.os = w.os
  tape : w'.tape = w.tape
  output : w'.output = w.output
  size : w.heap.size ≤ w'.heap.size
  block : ∀ k, k < w.heap.size → k ≠ b → row ≠ some k → w'.heap[k]? = w.heap[k]?
theorem HasO.grow2 {w w' : World} {q b : Nat} {o : Obj} {row : Option Nat} (h : HasO w q o) (hg : Grow2 b row w w') (hb : q ≠ b) (hr : row ≠ some q) : HasO w' q o := (hg.block q h.lt hb hr).trans h
theorem Grow2.below {w0 w w' : World} {B b : Nat} {row : Option Nat} (hg : Grow2 b row w w') (h : Below B w0 w) (hB : B ≤ w.heap.size) (hb : B ≤ b) (hr : ∀ k, row = some k → B ≤ k) : Below B w0 w' :=
  h.trans ⟨hg.os, hg.tape, hg.output, hg.size, fun k hk => hg.block k (by omega) (by omega) (fun e => by have := hr k e; omega)⟩

structure Bld (base b : Nat) (v : Value) (l : List UInt8) (w : World) : Prop where
  hd : ∃ p, (p = .pointer none ∨ p = .pointer (some ⟨b, 0, none⟩)) ∧ HasO w b (.cells #[p, v] 120 (0, 0))
  own : w.ownsRow base 5 1 v l.length (Lib.byteCells l)
  ne : v.ownBlock ≠ some b

theorem Bld.call {base b : Nat} {v : Value} {l : List UInt8} {w w' : World} (h : Bld base b v l w) (hb : Below w.heap.size w w') : Bld base b v l w' := by
  obtain ⟨p, hp, ho⟩ := h.hd
  exact ⟨⟨p, hp, ho.call hb⟩, own_call h.own hb, h.ne⟩

theorem Try.info120 : (Try.prog.info? 120).map (fun i => (i.zero, i.size, i.bytes)) = some (some (.agg #[.pointer none, .slice none 0 0]), 2, 32) := by kernel_rfl

theorem Try.size120 : (Try.prog.info? 120).map (·.size) = some 2 := by kernel_rfl
theorem Try.lies120 : liesAt Try.prog Try.prog.depth 120 (2 / Try.prog.cellsOf 120) 0 120 1 = true := by kernel_rfl
theorem Try.info5 : (Try.prog.info? 5).map (fun i => (i.zero, i.size, i.bytes)) = some (some (.int .u8 0), 1, 1) := by kernel_rfl

set_option maxHeartbeats 1000000 in
set_option maxRecDepth 100000 in
theorem copyCheck_any (b : Nat) (p v : Value) (w : World) (hp : p = .pointer none ∨ p = .pointer (some ⟨b, 0, none⟩)) (h : HasO w b (.cells #[p, v] 120 (0, 0))) :
    Calls Try.prog 75 #[.pointer (some ⟨b, 0, none⟩)] w fun e w' => e = .returned (.tuple #[]) ∧ HasO w' b (.cells #[.pointer (some ⟨b, 0, none⟩), v] 120 (0, 0)) ∧ Alt b (b + 1) w w' ∧ w'.heap.size = w.heap.size := by
  obtain ⟨j, hj, hjs⟩ := Option.map_eq_some_iff.1 Try.size120
  have f0 := h.frozen 0
  rcases hp with rfl | rfl
  · have hsh : w.shape? b = some (120, 2) := by unfold HasO at h; simp [World.shape?, h]
    have c0 : w.cell? ⟨b, 0, none⟩ = some (.pointer none) := h.cells 0
    go_enter Try.func75, Try.ntmps75
    go_wp2_with fail
    rw [Lib.run_to_unsafe w ⟨b, 0, none⟩ Try.underlying118 Try.underlying155 hj (by rw [hjs]; decide) hsh (Nat.zero_lt_succ 1)]
    simp only [Result.andThen]
    rw [Oper.upon_value]
    go_wp2_with fail
    rw [run_callFunc_extern Try.func85 (by kernel_rfl) (by kernel_rfl) (by kernel_rfl) (e := Extern.AbiNoEscape.same) (by kernel_rfl)]
    rw [Lib.run_noEscape]
    simp only [Result.andThen]
    rw [Oper.upon_value]
    go_wp2_with fail
    rw [Lib.run_from_unsafe w ⟨b, 0, none⟩ Try.underlying155 Try.underlying118 hj hsh Try.lies120]
    simp only [Result.andThen]
    rw [Oper.upon_value]
    go_wp2_with fail
    go_end0
    exact ⟨rfl, h.set_ 0 _, Alt.setCell ⟨Nat.le_refl _, Nat.lt_succ_self _⟩, by simp [World.setCell]⟩
  · have c0 : w.cell? ⟨b, 0, none⟩ = some (.pointer (some ⟨b, 0, none⟩)) := h.cells 0
    go_enter Try.func75, Try.ntmps75
    go_wp2_with fail
    rw [Lib.run_neq_ptr_same w _ Try.underlying118 hj]
    go_wp2_with fail
    go_end0
    exact ⟨rfl, h, Alt.refl _ _ _, rfl⟩

theorem Bld.checked {base b : Nat} {v : Value} {l : List UInt8} {w w' : World} (h : Bld base b v l w) (h1 : HasO w' b (.cells #[.pointer (some ⟨b, 0, none⟩), v] 120 (0, 0))) (ha : Alt b (b + 1) w w') : Bld base b v l w' :=
  ⟨⟨_, .inr rfl, h1⟩, ha.own h.own (fun g hg => by have := h.ne; rw [hg] at this; have : g ≠ b := fun e => this (by rw [e]); omega), h.ne⟩

theorem own_form {w : World} {base : Nat} {e : TypeId} {size n : Nat} {v : Value} {xs : List Value} (h : w.ownsRow base e size v n xs) : ∃ A c, v = .slice A n c := by
  rcases h.2 with ⟨rfl, rfl⟩ | ⟨g, cap, cur, hv, _⟩
  · exact ⟨_, _, rfl⟩
  · exact ⟨_, _, hv⟩

/-- the end of a write: the slice is stored back -/
theorem Bld.put {base b : Nat} {v v' : Value} {l s : List UInt8} {w w1 w2 : World} (h : Bld base b v l w) (ha : Alt b (b + 1) w w1) (hz : w1.heap.size = w.heap.size) (h1 : HasO w1 b (.cells #[.pointer (some ⟨b, 0, none⟩), v] 120 (0, 0)))
    (hown : w2.ownsRow base 5 1 v' (l.length + s.length) (Lib.byteCells l ++ Lib.byteCells s)) (hg : w1.grownBy w2 v.ownBlock) :
    Bld base b v' (l ++ s) (w2.setCell ⟨b, 1, none⟩ v') ∧ Grow2 b v.ownBlock w (w2.setCell ⟨b, 1, none⟩ v') := by
  have h2 : HasO w2 b (.cells #[.pointer (some ⟨b, 0, none⟩), v] 120 (0, 0)) := h1.grown hg h.ne
  have hne : v'.ownBlock ≠ some b := own_ne hown h2 (by simp)
  refine ⟨⟨⟨_, .inr rfl, by have := h2.set_ 1 v'; simpa using this⟩, ?_, hne⟩, ⟨hg.os.trans ha.os, hg.tape.trans ha.tape, hg.output.trans ha.output, ?_, fun k hk hkb hkr => ?_⟩⟩
  · have : (w2.setCell ⟨b, 1, none⟩ v').ownsRow base 5 1 v' (l.length + s.length) (Lib.byteCells l ++ Lib.byteCells s) :=
      (Alt.setCell (lo := b) (hi := b + 1) ⟨Nat.le_refl _, Nat.lt_succ_self _⟩).own hown (fun g hg => by rw [hg] at hne; have : g ≠ b := fun e => hne (by rw [e]); omega)
    simpa [Lib.byteCells_append] using this
  · have := hg.size; simp [World.setCell]; omega
  · rw [Below.heap_setCell _ _ _ _ hkb, hg.block k (by omega) (fun e => hkr e.symm), ha.block k hk (by omega)]

theorem strCells_str (s : List UInt8) : Lib.strCells (str s) = Lib.byteCells s := by rw [Lib.strCells_eq]; simp [str]

set_option maxHeartbeats 1000000 in
set_option maxRecDepth 100000 in
theorem writeByte_any (base b : Nat) (v : Value) (l : List UInt8) (c : UInt8) (w : World) (h : Bld base b v l w) (hl : l.length ≤ 1000000) (hB : base ≤ w.heap.size) :
    Calls Try.prog 65 #[.pointer (some ⟨b, 0, none⟩), .int .u8 c.toNat] w fun e w' => e = .returned .nilIface ∧ ∃ v', Bld base b v' (l ++ [c]) w' ∧ Grow2 b v.ownBlock w w' := by
  obtain ⟨i0, hi, hz0, hz1, hz2⟩ := info_parts Try.info5
  obtain ⟨p, hp, ho⟩ := h.hd
  go_enter Try.func65, Try.ntmps65
  go_wp2_with fail
  refine (copyCheck_any b p v w hp ho).mono ?_
  rintro e w1 ⟨rfl, h1, ha, hz⟩
  replace hz := Lib.hid hz
  have hown := (h.checked h1 ha).own
  have c1 : w1.cell? ⟨b, 1, none⟩ = some v := h1.cells 1
  go_wp2_with (at_builtin; refine wpList_push rfl _ _ 31 rfl base 5 i0 _ 1 1 Try.underlying31 hi hz0 hz1 hz2 rfl (by decide) _ _ _ rfl hown [_] rfl ?c1 _ rfl rfl ?c2 ?c3 ?_)
  case c1 => intro u hu; simp at hu; subst hu; rfl
  case c2 => omega
  case c3 => rw [hz.out]; exact hB
  intro v' w2 hown' hg _
  obtain ⟨A, cp, rfl⟩ := own_form hown'
  have h2 : HasO w2 b (.cells #[.pointer (some ⟨b, 0, none⟩), v] 120 (0, 0)) := h1.grown hg h.ne
  have d1 : w2.cell? ⟨b, 1, none⟩ = some v := h2.cells 1
  have f1 := h2.frozen 1
  have hput := h.put ha hz.out h1 (s := [c]) hown' hg
  go_wp2_with fail
  go_ret
  exact ⟨rfl, _, hput⟩

set_option maxHeartbeats 1000000 in
set_option maxRecDepth 100000 in
theorem writeString_any (base b : Nat) (v : Value) (l s : List UInt8) (w : World) (h : Bld base b v l w) (hl : l.length ≤ 1000000) (hs : s.length ≤ 1000000) (hB : base ≤ w.heap.size) :
    Calls Try.prog 67 #[.pointer (some ⟨b, 0, none⟩), .string (str s)] w fun e w' => e = .returned (.tuple #[.int .i64 s.length, .nilIface]) ∧ ∃ v', Bld base b v' (l ++ s) w' ∧ Grow2 b v.ownBlock w w' := by
  obtain ⟨i0, hi, hz0, hz1, hz2⟩ := info_parts Try.info5
  obtain ⟨p, hp, ho⟩ := h.hd
  have hss := str_size s
  go_enter Try.func67, Try.ntmps67
  go_wp2_with fail
  refine (copyCheck_any b p v w hp ho).mono ?_
  rintro e w1 ⟨rfl, h1, ha, hz⟩
  replace hz := Lib.hid hz
  have hown := (h.checked h1 ha).own
  have c1 : w1.cell? ⟨b, 1, none⟩ = some v := h1.cells 1
  go_wp2_with (at_builtin; refine Lib.wpList_append_own_string _ rfl _ _ 31 9 rfl base 5 i0 Try.underlying31 Try.underlying9 hi hz0 hz1 hz2 _ _ _ rfl hown (str s) rfl ?c3 ?c4 ?c5 ?_)
  case c3 => rw [hss]; unfold maxLen; omega
  case c4 => rw [hss]; omega
  case c5 => rw [hz.out]; exact hB
  intro v' w2 hown' hg _
  rw [strCells_str] at hown'
  obtain ⟨A, cp, rfl⟩ := own_form hown'
  have h2 : HasO w2 b (.cells #[.pointer (some ⟨b, 0, none⟩), v] 120 (0, 0)) := h1.grown hg h.ne
  have d1 : w2.cell? ⟨b, 1, none⟩ = some v := h2.cells 1
  have f1 := h2.frozen 1
  have hput := h.put ha hz.out h1 (s := s) hown' hg
  go_wp2_with fail
  go_ret2
  exact ⟨rfl, _, hput⟩
end Go.Proofs.Ytddkhnnpeonbgaa
namespace Go.Proofs.Ytddkhnnpeonbgaa
open Go.RowKit

set_option maxHeartbeats 1000000 in
set_option maxRecDepth 100000 in
theorem write_any (base b : Nat) (v : Value) (l s : List UInt8) (g o cp : Nat) (w : World) (h : Bld base b v l w) (hl : l.length ≤ 1000000) (hs : s.length ≤ 1000000) (hB : base ≤ w.heap.size)
    (hg : g < w.heap.size) (hgb : g ≠ b) (hc : ∀ j u, (Lib.byteCells s)[j]? = some u → w.cell? ⟨g, o + j, none⟩ = some u) :
    Calls Try.prog 64 #[.pointer (some ⟨b, 0, none⟩), .slice (some ⟨g, o, none⟩) s.length cp] w fun e w' => e = .returned (.tuple #[.int .i64 s.length, .nilIface]) ∧ ∃ v', Bld base b v' (l ++ s) w' ∧ Grow2 b v.ownBlock w w' := by
  obtain ⟨i0, hi, hz0, hz1, hz2⟩ := info_parts Try.info5
  obtain ⟨p, hp, ho⟩ := h.hd
  go_enter Try.func64, Try.ntmps64
  go_wp2_with fail
  refine (copyCheck_any b p v w hp ho).mono ?_
  rintro e w1 ⟨rfl, h1, ha, hz⟩
  replace hz := Lib.hid hz
  have hown := (h.checked h1 ha).own
  have c1 : w1.cell? ⟨b, 1, none⟩ = some v := h1.cells 1
  have hc1 : ∀ j u, (Lib.byteCells s)[j]? = some u → w1.cell? ((⟨g, o, none⟩ : Addr).add j) = some u := fun j u hu => by
    rw [Addr.add_lit]
    exact (World.cell?_of_block (w := w) (ha.block g hg (by omega))).trans (hc j u hu)
  replace hc1 := Lib.hid hc1
  replace hc := Lib.hid hc
  go_wp2_with (at_builtin; refine wpList_append_own _ rfl _ _ 31 rfl base 5 i0 _ 1 1 Try.underlying31 hi hz0 hz1 hz2 rfl (by decide) _ _ _ rfl hown ⟨g, o, none⟩ s.length cp (Lib.byteCells s) rfl ?c1 hc1.out ?c2 ?c3 ?c4 ?c5 ?_)
  case c1 => simp [Lib.byteCells_length]
  case c2 => intro u hu; simp [Lib.byteCells] at hu; obtain ⟨x, _, rfl⟩ := hu; rfl
  case c3 => unfold maxLen; omega
  case c4 => omega
  case c5 => rw [hz.out]; exact hB
  intro v' w2 hown' hg _
  obtain ⟨A, cq, rfl⟩ := own_form hown'
  have h2 : HasO w2 b (.cells #[.pointer (some ⟨b, 0, none⟩), v] 120 (0, 0)) := h1.grown hg h.ne
  have d1 : w2.cell? ⟨b, 1, none⟩ = some v := h2.cells 1
  have f1 := h2.frozen 1
  have hput := h.put ha hz.out h1 (s := s) hown' hg
  go_wp2_with fail
  go_ret2
  exact ⟨rfl, _, hput⟩

theorem backward_any (A : Option Addr) (n c : Nat) (w : World) : Calls Try.prog 66 #[.slice A n c] w fun e w' => e = .returned (.func (.func 76) #[] #[.pointer (some ⟨w.heap.size, 0, none⟩)]) ∧ w.alloc (.cells #[.slice A n c] 49) = w' := by
  go_enter Try.func66, Try.ntmps66
  go_wp2_with fail
  go_ret
  exact ⟨rfl, rfl⟩
end Go.Proofs.Ytddkhnnpeonbgaa
