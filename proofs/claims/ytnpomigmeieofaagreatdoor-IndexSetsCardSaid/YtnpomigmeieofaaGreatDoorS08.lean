import Derived.Test.YtnpomigmeieofaaGreatDoorS07
import Derived.Shelf.Strings.Builder1
set_option maxHeartbeats 12800000
namespace Go.Proofs.YtnpomigmeieofaaGreatDoor
open Go.RowKit

structure Grow2 (b : Nat) (row : Option Nat) (w w' : World) : Prop where
 os : w'.os = w.os
 tape : w'.tape = w.tape
 output : w'.output = w.output
 size : w.heap.size ≤ w'.heap.size
 block : ∀ k, k < w.heap.size → k ≠ b → row ≠ some k → w'.heap[k]? = w.heap[k]?
theorem HasO.grow2 {w w' : World} {q b : Nat} {o : Obj} {row : Option Nat} (h : HasO w q o) (hg : Grow2 b row w w') (hb : q ≠ b) (hr : row ≠ some q) : HasO w' q o := (hg.block q h.lt hb hr).trans h
theorem Grow2.below {w0 w w' : World} {B b : Nat} {row : Option Nat} (hg : Grow2 b row w w') (h : Below B w0 w) (hB : B ≤ w.heap.size) (hb : B ≤ b) (hr : ∀ k, row = some k → B ≤ k) : Below B w0 w' :=
 h.trans ⟨hg.os, hg.tape, hg.output, hg.size, fun k hk => hg.block k (by omega) (by omega) (fun e => by have := hr k e; omega)⟩

structure Bld (base b : Nat) (v : Value) (l : List UInt8) (w : World) : Prop where
 hd : ∃ p, (p = .pointer none ∨ p = .pointer (some ⟨b, 0, none⟩)) ∧ HasO w b (.cells #[p, v] 124 (0, 0))
 own : w.ownsRow base 5 1 v l.length (Lib.byteCells l)
 ne : v.ownBlock ≠ some b

theorem Bld.call {base b : Nat} {v : Value} {l : List UInt8} {w w' : World} (h : Bld base b v l w) (hb : Below w.heap.size w w') : Bld base b v l w' := by
 obtain ⟨p, hp, ho⟩ := h.hd
 exact ⟨⟨p, hp, ho.call hb⟩, own_call h.own hb, h.ne⟩

theorem Tryz.size120 : (Tryz.prog.info? 124).map (·.size) = some 2 := by kernel_rfl
theorem Tryz.lies120 : liesAt Tryz.prog Tryz.prog.depth 124 (2 / Tryz.prog.cellsOf 124) 0 124 1 = true := by kernel_rfl
theorem Tryz.info5 : (Tryz.prog.info? 5).map (fun i => (i.zero, i.size, i.bytes)) = some (some (.int .u8 0), 1, 1) := by kernel_rfl

set_option maxRecDepth 100000 in
theorem copyCheck_any (b : Nat) (p v : Value) (w : World) (hp : p = .pointer none ∨ p = .pointer (some ⟨b, 0, none⟩)) (h : HasO w b (.cells #[p, v] 124 (0, 0))) :
  Calls Tryz.prog 130 #[.pointer (some ⟨b, 0, none⟩)] w fun e w' => e = .returned (.tuple #[]) ∧ HasO w' b (.cells #[.pointer (some ⟨b, 0, none⟩), v] 124 (0, 0)) ∧ Alt b (b + 1) w w' ∧ w'.heap.size = w.heap.size := by
 obtain ⟨j, hj, hjs⟩ := Option.map_eq_some_iff.1 Tryz.size120
 have f0 := h.frozen 0
 rcases hp with rfl | rfl
 ·have hsh : w.shape? b = some (124, 2) := by unfold HasO at h; simp [World.shape?, h]
  have c0 : w.cell? ⟨b, 0, none⟩ = some (.pointer none) := h.cells 0
  go_enter Tryz.func130, Tryz.ntmps130
  go_wp2_with fail
  rw [Lib.run_to_unsafe w ⟨b, 0, none⟩ Tryz.underlying122 Tryz.underlying194 hj (by rw [hjs]; decide) hsh (Nat.zero_lt_succ 1)]
  simp only [Result.andThen]
  rw [Oper.upon_value]
  go_wp2_with fail
  rw [run_callFunc_extern Tryz.func166 (by kernel_rfl) (by kernel_rfl) (by kernel_rfl) (e := Extern.AbiNoEscape.same) (by kernel_rfl)]
  rw [Lib.run_noEscape]
  simp only [Result.andThen]
  rw [Oper.upon_value]
  go_wp2_with fail
  rw [Lib.run_from_unsafe w ⟨b, 0, none⟩ Tryz.underlying194 Tryz.underlying122 hj hsh Tryz.lies120]
  simp only [Result.andThen]
  rw [Oper.upon_value]
  go_wp2_with fail
  go_end0
  exact ⟨rfl, h.set_ 0 _, Alt.setCell ⟨Nat.le_refl _, Nat.lt_succ_self _⟩, by simp [World.setCell]⟩
 ·have c0 : w.cell? ⟨b, 0, none⟩ = some (.pointer (some ⟨b, 0, none⟩)) := h.cells 0
  go_enter Tryz.func130, Tryz.ntmps130
  go_wp2_with fail
  rw [Lib.run_neq_ptr_same w _ Tryz.underlying122 hj]
  go_wp2_with fail
  go_end0
  exact ⟨rfl, h, Alt.refl _ _ _, rfl⟩

theorem Bld.checked {base b : Nat} {v : Value} {l : List UInt8} {w w' : World} (h : Bld base b v l w) (h1 : HasO w' b (.cells #[.pointer (some ⟨b, 0, none⟩), v] 124 (0, 0))) (ha : Alt b (b + 1) w w') : Bld base b v l w' :=
 ⟨⟨_, .inr rfl, h1⟩, ha.own h.own (fun g hg => by have := h.ne; rw [hg] at this; have : g ≠ b := fun e => this (by rw [e]); omega), h.ne⟩

theorem own_form {w : World} {base : Nat} {e : TypeId} {size n : Nat} {v : Value} {xs : List Value} (h : w.ownsRow base e size v n xs) : ∃ A c, v = .slice A n c := by
 rcases h.2 with ⟨rfl, rfl⟩ | ⟨g, cap, cur, hv, _⟩
 ·exact ⟨_, _, rfl⟩
 ·exact ⟨_, _, hv⟩

theorem Bld.put {base b : Nat} {v v' : Value} {l s : List UInt8} {w w1 w2 : World} (h : Bld base b v l w) (ha : Alt b (b + 1) w w1) (hz : w1.heap.size = w.heap.size) (h1 : HasO w1 b (.cells #[.pointer (some ⟨b, 0, none⟩), v] 124 (0, 0)))
  (hown : w2.ownsRow base 5 1 v' (l.length + s.length) (Lib.byteCells l ++ Lib.byteCells s)) (hg : w1.grownBy w2 v.ownBlock) :
  Bld base b v' (l ++ s) (w2.setCell ⟨b, 1, none⟩ v') ∧ Grow2 b v.ownBlock w (w2.setCell ⟨b, 1, none⟩ v') := by
 have h2 : HasO w2 b (.cells #[.pointer (some ⟨b, 0, none⟩), v] 124 (0, 0)) := h1.grown hg h.ne
 have hne : v'.ownBlock ≠ some b := own_ne hown h2 (by simp)
 refine ⟨⟨⟨_, .inr rfl, by have := h2.set_ 1 v'; simpa using this⟩, ?_, hne⟩, ⟨hg.os.trans ha.os, hg.tape.trans ha.tape, hg.output.trans ha.output, ?_, fun k hk hkb hkr => ?_⟩⟩
 ·have : (w2.setCell ⟨b, 1, none⟩ v').ownsRow base 5 1 v' (l.length + s.length) (Lib.byteCells l ++ Lib.byteCells s) :=
   (Alt.setCell (lo := b) (hi := b + 1) ⟨Nat.le_refl _, Nat.lt_succ_self _⟩).own hown (fun g hg => by rw [hg] at hne; have : g ≠ b := fun e => hne (by rw [e]); omega)
  simpa [Lib.byteCells_append] using this
 ·have := hg.size; simp [World.setCell]; omega
 ·rw [Below.heap_setCell _ _ _ _ hkb, hg.block k (by omega) (fun e => hkr e.symm), ha.block k hk (by omega)]

theorem strCells_str (s : List UInt8) : Lib.strCells (str s) = Lib.byteCells s := by rw [Lib.strCells_eq]; simp [str]

set_option maxRecDepth 100000 in
theorem writeByte_any (base b : Nat) (v : Value) (l : List UInt8) (c : UInt8) (w : World) (h : Bld base b v l w) (hl : l.length ≤ 1000000) (hB : base ≤ w.heap.size) :
  Calls Tryz.prog 85 #[.pointer (some ⟨b, 0, none⟩), .int .u8 c.toNat] w fun e w' => e = .returned .nilIface ∧ ∃ v', Bld base b v' (l ++ [c]) w' ∧ Grow2 b v.ownBlock w w' := by
 obtain ⟨i0, hi, hz0, hz1, hz2⟩ := info_parts Tryz.info5
 obtain ⟨p, hp, ho⟩ := h.hd
 go_enter Tryz.func85, Tryz.ntmps85
 go_wp2_with fail
 refine (copyCheck_any b p v w hp ho).mono ?_
 rintro e w1 ⟨rfl, h1, ha, hz⟩
 replace hz := Lib.hid hz
 have hown := (h.checked h1 ha).own
 have c1 : w1.cell? ⟨b, 1, none⟩ = some v := h1.cells 1
 go_wp2_with (at_builtin; refine wpList_push rfl _ _ 71 rfl base 5 i0 _ 1 1 Tryz.underlying71 hi hz0 hz1 hz2 rfl (by decide) _ _ _ rfl hown [_] rfl ?c1 _ rfl rfl ?c2 ?c3 ?_)
 case c1 => intro u hu; simp at hu; subst hu; rfl
 case c2 => omega
 case c3 => rw [hz.out]; exact hB
 intro v' w2 hown' hg _
 obtain ⟨A, cp, rfl⟩ := own_form hown'
 have h2 : HasO w2 b (.cells #[.pointer (some ⟨b, 0, none⟩), v] 124 (0, 0)) := h1.grown hg h.ne
 have d1 : w2.cell? ⟨b, 1, none⟩ = some v := h2.cells 1
 have f1 := h2.frozen 1
 have hput := h.put ha hz.out h1 (s := [c]) hown' hg
 go_wp2_with fail
 go_ret
 exact ⟨rfl, _, hput⟩

set_option maxRecDepth 100000 in
theorem writeString_any (base b : Nat) (v : Value) (l s : List UInt8) (w : World) (h : Bld base b v l w) (hl : l.length ≤ 1000000) (hs : s.length ≤ 1000000) (hB : base ≤ w.heap.size) :
  Calls Tryz.prog 87 #[.pointer (some ⟨b, 0, none⟩), .string (str s)] w fun e w' => e = .returned (.tuple #[.int .i64 s.length, .nilIface]) ∧ ∃ v', Bld base b v' (l ++ s) w' ∧ Grow2 b v.ownBlock w w' := by
 obtain ⟨i0, hi, hz0, hz1, hz2⟩ := info_parts Tryz.info5
 obtain ⟨p, hp, ho⟩ := h.hd
 have hss := str_size s
 go_enter Tryz.func87, Tryz.ntmps87
 go_wp2_with fail
 refine (copyCheck_any b p v w hp ho).mono ?_
 rintro e w1 ⟨rfl, h1, ha, hz⟩
 replace hz := Lib.hid hz
 have hown := (h.checked h1 ha).own
 have c1 : w1.cell? ⟨b, 1, none⟩ = some v := h1.cells 1
 go_wp2_with (at_builtin; refine Lib.wpList_append_own_string _ rfl _ _ 71 9 rfl base 5 i0 Tryz.underlying71 Tryz.underlying9 hi hz0 hz1 hz2 _ _ _ rfl hown (str s) rfl ?c3 ?c4 ?c5 ?_)
 case c3 => rw [hss]; unfold maxLen; omega
 case c4 => rw [hss]; omega
 case c5 => rw [hz.out]; exact hB
 intro v' w2 hown' hg _
 rw [strCells_str] at hown'
 obtain ⟨A, cp, rfl⟩ := own_form hown'
 have h2 : HasO w2 b (.cells #[.pointer (some ⟨b, 0, none⟩), v] 124 (0, 0)) := h1.grown hg h.ne
 have d1 : w2.cell? ⟨b, 1, none⟩ = some v := h2.cells 1
 have f1 := h2.frozen 1
 have hput := h.put ha hz.out h1 (s := s) hown' hg
 go_wp2_with fail
 go_ret2
 exact ⟨rfl, _, hput⟩
set_option maxRecDepth 100000 in
theorem write_any (base b : Nat) (v : Value) (l s : List UInt8) (g o cp : Nat) (w : World) (h : Bld base b v l w) (hl : l.length ≤ 1000000) (hs : s.length ≤ 1000000) (hB : base ≤ w.heap.size)
  (hg : g < w.heap.size) (hgb : g ≠ b) (hc : ∀ j u, (Lib.byteCells s)[j]? = some u → w.cell? ⟨g, o + j, none⟩ = some u) :
  Calls Tryz.prog 84 #[.pointer (some ⟨b, 0, none⟩), .slice (some ⟨g, o, none⟩) s.length cp] w fun e w' => e = .returned (.tuple #[.int .i64 s.length, .nilIface]) ∧ ∃ v', Bld base b v' (l ++ s) w' ∧ Grow2 b v.ownBlock w w' := by
 obtain ⟨i0, hi, hz0, hz1, hz2⟩ := info_parts Tryz.info5
 obtain ⟨p, hp, ho⟩ := h.hd
 go_enter Tryz.func84, Tryz.ntmps84
 go_wp2_with fail
 refine (copyCheck_any b p v w hp ho).mono ?_
 rintro e w1 ⟨rfl, h1, ha, hz⟩
 replace hz := Lib.hid hz
 have hown := (h.checked h1 ha).own
 have c1 : w1.cell? ⟨b, 1, none⟩ = some v := h1.cells 1
 have hc1 : ∀ j u, (Lib.byteCells s)[j]? = some u → w1.cell? ((⟨g, o, none⟩ : Addr).add j) = some u := fun j u hu => by
  rw [Addr.add_lit]
  exact (World.cell?_of_block (w := w) (ha.block g hg (by omega))).trans (hc j u hu)
 replace hc1 := Lib.hid hc1
 replace hc := Lib.hid hc
 go_wp2_with (at_builtin; refine wpList_append_own _ rfl _ _ 71 rfl base 5 i0 _ 1 1 Tryz.underlying71 hi hz0 hz1 hz2 rfl (by decide) _ _ _ rfl hown ⟨g, o, none⟩ s.length cp (Lib.byteCells s) rfl ?c1 hc1.out ?c2 ?c3 ?c4 ?c5 ?_)
 case c1 => simp [Lib.byteCells_length]
 case c2 => intro u hu; simp [Lib.byteCells] at hu; obtain ⟨x, _, rfl⟩ := hu; rfl
 case c3 => unfold maxLen; omega
 case c4 => omega
 case c5 => rw [hz.out]; exact hB
 intro v' w2 hown' hg _
 obtain ⟨A, cq, rfl⟩ := own_form hown'
 have h2 : HasO w2 b (.cells #[.pointer (some ⟨b, 0, none⟩), v] 124 (0, 0)) := h1.grown hg h.ne
 have d1 : w2.cell? ⟨b, 1, none⟩ = some v := h2.cells 1
 have f1 := h2.frozen 1
 have hput := h.put ha hz.out h1 (s := s) hown' hg
 go_wp2_with fail
 go_ret2
 exact ⟨rfl, _, hput⟩

theorem backward_any (A : Option Addr) (n c : Nat) (w : World) : Calls Tryz.prog 86 #[.slice A n c] w fun e w' => e = .returned (.func (.func 131) #[] #[.pointer (some ⟨w.heap.size, 0, none⟩)]) ∧ w.alloc (.cells #[.slice A n c] 132) = w' := by
 go_enter Tryz.func86, Tryz.ntmps86
 go_wp2_with fail
 go_ret
 exact ⟨rfl, rfl⟩
end Go.Proofs.YtnpomigmeieofaaGreatDoor
namespace Go.Proofs.YtnpomigmeieofaaGreatDoor
open Go.RowKit
attribute [local go_sem] Oper.semAt_some

theorem Bld.alt {base b lo hi : Nat} {v : Value} {l : List UInt8} {w w' : World} (h : Bld base b v l w) (ha : Alt lo hi w w') (hb : b < lo ∨ hi ≤ b) (hr : ∀ g, v.ownBlock = some g → g < lo ∨ hi ≤ g) : Bld base b v l w' := by
 obtain ⟨p, hp, ho⟩ := h.hd
 exact ⟨⟨p, hp, ha.hasO ho hb⟩, ha.own h.own hr, h.ne⟩

theorem Tryz.cellsByte5 : Tryz.prog.cellsOf 5 = 1 := by kernel_rfl

theorem freeze_grow (w : World) (b g n : Nat) : Grow2 b (some g) w (w.drew.freeze ⟨g, 0, none⟩ n) := by
 unfold World.freeze
 by_cases h : n = 0
 ·rw [if_pos h]; exact ⟨rfl, rfl, rfl, Nat.le_refl _, fun _ _ _ _ => rfl⟩
 ·rw [if_neg h]
  refine ⟨rfl, rfl, rfl, by show w.heap.size ≤ (w.heap.modify g _).size; rw [Array.size_modify]; exact Nat.le_refl _, fun k _ _ hk => ?_⟩
  simp only [Array.getElem?_modify]
  rw [if_neg (fun e => hk (by rw [e]))]; rfl

set_option maxRecDepth 100000 in
theorem string_any (base b : Nat) (v : Value) (l : List UInt8) (w : World) (h : Bld base b v l w) (h0 : l ≠ []) :
  Calls Tryz.prog 89 #[.pointer (some ⟨b, 0, none⟩)] w fun e w' => e = .returned (.string (str l)) ∧ Grow2 b v.ownBlock w w' := by
 obtain ⟨p, _, ho⟩ := h.hd
 have hown := h.own
 have hl0 : l.length ≠ 0 := by simpa using h0
 obtain ⟨g, cap, cur, rfl, hbg, hg, hnc, hcm, hcs, htake⟩ : ∃ g cap cur, v = .slice (some ⟨g, 0, none⟩) l.length cap ∧ base ≤ g ∧ w.heap[g]? = some (.cells cur 5 (0, 0)) ∧ l.length ≤ cap ∧ cap ≤ maxLen ∧ cur.size = cap * 1 ∧ cur.toList.take (l.length * 1) = Lib.byteCells l := by
  rcases hown.2 with ⟨_, hz⟩ | ⟨g, cap, cur, hv, r⟩
  ·exact absurd hz hl0
  ·exact ⟨g, cap, cur, hv, r⟩
 have c1 : w.drew.cell? ⟨b, 1, none⟩ = some (.slice (some ⟨g, 0, none⟩) l.length cap) := ho.drew.cells 1
 have hSD : (Builtin.unsafeSliceData_ #[71] 165 #[.slice (some ⟨g, 0, none⟩) l.length cap]).run Tryz.prog w.drew = .ok (.pointer (some ⟨g, 0, none⟩)) w.drew :=
  Lib.run_unsafeSliceData_row _ _ _ _ _ _ (by omega)
 have hUS : (Builtin.unsafeString_ #[165, 3] 9 #[.pointer (some ⟨g, 0, none⟩), .int .i64 l.length]).run Tryz.prog w.drew = .ok (.string (str l)) (w.drew.freeze ⟨g, 0, none⟩ l.length) := by
  refine Lib.run_unsafeString_row w.drew 165 3 9 5 Tryz.underlying165 Tryz.cellsByte5 g cur.size (by have hg' : w.drew.heap[g]? = some (.cells cur 5 (0, 0)) := hg; simp [World.shape?, hg']) l h0 (by omega) (by unfold maxLen at hcm; omega) ?_
  intro j x hx
  have := hown.cells (g := g) rfl j (.int .u8 x.toNat) (by simp [Lib.byteCells, hx])
  exact this
 go_enter Tryz.func89, Tryz.ntmps89
 go_wp2_with fail
 go_region
 all_goals (go_wp2_with fail; go_ret; exact ⟨rfl, freeze_grow _ _ _ _⟩)

theorem below_putObj {B q : Nat} {w W : World} {o : Obj} (h : Below B w W) (hq : B ≤ q) (hB : B ≤ W.heap.size) : Below B w (W.putObj q o) :=
 (Alt.putObj (lo := q) (hi := q + 1) ⟨Nat.le_refl _, Nat.lt_succ_self _⟩).below h hq hB

def hd4 (m : Men) : List UInt8 := [UInt8.ofNat (48 + m.f.toNat), 120, UInt8.ofNat (48 + m.r.toNat), 32]
theorem repeat_str (c : UInt8) (n : Nat) : Value.string ⟨(Lib.repeatL (str [c]).data.toList n).toArray⟩ = .string (str (List.replicate n c)) := by
 have h : ∀ n, Lib.repeatL [c] n = List.replicate n c := fun n => by
  induction n with
  | zero => rfl
  | succ n ih => simp [Lib.repeatL, ih, List.replicate_succ]
 have e : (str [c]).data.toList = [c] := rfl
 rw [e, h]; rfl
def TextI (w : World) (m : Men) (g : Nat → Int) (hd : List UInt8) (D X Y : Nat) (L : List (Nat × Obj)) (c k : Nat) (W : World) : Prop :=
 Below w.heap.size w W ∧ HasO W w.heap.size (.cells m.cs.toArray 26 (0, 0)) ∧ (∃ v, Bld (w.heap.size + 1) (w.heap.size + 1) v (hd ++ sideN g k) W ∧ ∀ q, v.ownBlock = some q → q < D ∨ c ≤ q) ∧
 HasO W X (.cells (five5 g).toArray 24 (0, 0)) ∧ HasO W Y (.cells #[.slice (some ⟨X, 0, none⟩) 5 5] 132 (0, 0)) ∧ c ≤ W.heap.size ∧ ∀ p ∈ L, HasO W p.1 p.2

set_option maxRecDepth 100000 in
theorem text_any (m : Men) (w : World) (hm : Hid (validB m = true)) : Calls Tryz.prog 36 #[.agg m.cs.toArray] w fun e w' => e = .returned (.string (str (textL m))) ∧ Below w.heap.size w w' := by
 have hs := validB_size hm.out
 have e1 : IntKind.u8.wrap m.f = m.f := u8_in (by omega) (by omega)
 have e2 : IntKind.u8.wrap m.r = m.r := u8_in (by omega) (by omega)
 have e3 : IntKind.u8.wrap (48 + m.f) = 48 + m.f := u8_in (by omega) (by omega)
 have e4 : IntKind.u8.wrap (48 + m.r) = 48 + m.r := u8_in (by omega) (by omega)
 have hgba : Hid (∀ j, j < 5 → 0 ≤ m.sw j ∧ m.sw j ≤ 4) := fun j hj => by have := menOk_at (validB_ok hm.out) hj; omega
 have hgbb : Hid (∀ j, j < 5 → 0 ≤ m.sb j ∧ m.sb j ≤ 4) := fun j hj => by have := menOk_at (validB_ok hm.out) hj; omega
 refine (callsIn_wide (n := 3)).1 ?_
 refine callsIn_of_wp_marks Tryz.func36 rfl trivial ?_ rfl
 simp only [Tryz.ntmps36, List.size_toArray, List.length_cons, List.length_nil, Nat.reduceAdd, Nat.reduceSub, Array.replicate_succ, Array.replicate_zero, List.push_toArray, List.append_toArray, List.nil_append, List.cons_append]
 gi_wp2_with fail
 have hM0 : HasO (((w.alloc (.cells m.cs.toArray 26)).alloc (.cells #[.pointer none, .slice none 0 0] 124)).alloc (.cells #[.int .u8 (48 + m.f), .int .u8 120, .int .u8 (48 + m.r), .int .u8 32] 5)) w.heap.size (.cells m.cs.toArray 26 (0, 0)) := ((HasO.new _ _).alloc _).alloc _
 have hB0 : Bld (w.heap.size + 1) (w.heap.size + 1) (.slice none 0 0) [] (((w.alloc (.cells m.cs.toArray 26)).alloc (.cells #[.pointer none, .slice none 0 0] 124)).alloc (.cells #[.int .u8 (48 + m.f), .int .u8 120, .int .u8 (48 + m.r), .int .u8 32] 5)) :=
  ⟨⟨_, .inl rfl, (HasO.new' _ _ (by simp)).alloc _⟩, World.ownsRow_nil _ _ _ _, by simp [Value.ownBlock]⟩
 have hb0 : Below w.heap.size w (((w.alloc (.cells m.cs.toArray 26)).alloc (.cells #[.pointer none, .slice none 0 0] 124)).alloc (.cells #[.int .u8 (48 + m.f), .int .u8 120, .int .u8 (48 + m.r), .int .u8 32] 5)) := ((below_box _ _).alloc (by simp) _).alloc (by simp; omega) _
 have hC0 : HasO (((w.alloc (.cells m.cs.toArray 26)).alloc (.cells #[.pointer none, .slice none 0 0] 124)).alloc (.cells #[.int .u8 (48 + m.f), .int .u8 120, .int .u8 (48 + m.r), .int .u8 32] 5)) (w.heap.size + 1 + 1) (.cells #[.int .u8 (48 + m.f), .int .u8 120, .int .u8 (48 + m.r), .int .u8 32] 5 (0, 0)) := HasO.new' _ _ (by simp)
 generalize (((w.alloc (.cells m.cs.toArray 26)).alloc (.cells #[.pointer none, .slice none 0 0] 124)).alloc (.cells #[.int .u8 (48 + m.f), .int .u8 120, .int .u8 (48 + m.r), .int .u8 32] 5)) = W0 at *
 refine ⟨trivial, (callsIn_wide.2 (write_any (w.heap.size + 1) (w.heap.size + 1) _ [] (hd4 m) (w.heap.size + 1 + 1) 0 4 W0 hB0 (by simp) (by simp [hd4]) (by have := hC0.lt; omega) hC0.lt (by omega) ?hc)).mono ?_⟩
 case hc =>
  intro j u hu
  rw [Nat.zero_add, hC0.cells]
  rw [← hu]
  show _ = (Lib.byteCells _)[j]?
  rw [show (Lib.byteCells (hd4 m)) = [.int .u8 (48 + m.f), .int .u8 120, .int .u8 (48 + m.r), .int .u8 32] from by simp [Lib.byteCells, hd4]; omega]
  simp
 rintro e w1 ⟨rfl, v1, hB1, hg1⟩
 rw [List.nil_append] at hB1
 have hM1 := hM0.grow2 hg1 (by omega) (by simp [Value.ownBlock])
 have hb1 := hg1.below hb0 hb0.size (by omega) (by simp [Value.ownBlock])
 clear hM0 hb0 hB0 hC0 hg1 e1 e2 e3 e4
 have hc1 := hM1.cells
 gi_wp2_with fail
 have i0 : ∀ w, (Instr.index 129 (.agg #[.int .i64 m.w0, .int .i64 m.w1, .int .i64 m.w2, .int .i64 m.w3, .int .i64 m.w4, .int .i64 m.b0, .int .i64 m.b1, .int .i64 m.b2, .int .i64 m.b3, .int .i64 m.b4]) (.int .i64 0)).run Tryz.prog w = .ok (.agg #[.int .i64 m.w0, .int .i64 m.w1, .int .i64 m.w2, .int .i64 m.w3, .int .i64 m.w4]) w := fun _ => by kernel_rfl
 have i1 : ∀ w, (Instr.index 129 (.agg #[.int .i64 m.w0, .int .i64 m.w1, .int .i64 m.w2, .int .i64 m.w3, .int .i64 m.w4, .int .i64 m.b0, .int .i64 m.b1, .int .i64 m.b2, .int .i64 m.b3, .int .i64 m.b4]) (.int .i64 1)).run Tryz.prog w = .ok (.agg #[.int .i64 m.b0, .int .i64 m.b1, .int .i64 m.b2, .int .i64 m.b3, .int .i64 m.b4]) w := fun _ => by kernel_rfl
 refine wpIn_loop_rounds 3 ?_
 rw [roundsIn_succ]
 gi_wp2_with fail
 refine ⟨trivial, (callsIn_wide.2 (writeByte_any (w.heap.size + 1) (w.heap.size + 1) v1 _ 75 _ (hB1.call (below_box _ _)) ?hlena (by have := hM1.lt; simp; omega))).mono ?_⟩
 case hlena => simp [hd4]
 rintro e wa2 ⟨rfl, va2, hBa2, hga2⟩
 have hla1 := hM1.lt
 have hlB : w.heap.size + 1 < w1.heap.size := by obtain ⟨p, _, h⟩ := hB1.hd; exact h.lt
 have hXa2 : HasO wa2 w1.heap.size (.cells (five5 m.sw).toArray 24 (0, 0)) := (HasO.new w1 _).grow2 hga2 (by have := (hB1.hd); obtain ⟨p, _, h⟩ := this; have := h.lt; omega) (fun e => by have := (hB1.own.lt _ e).2; omega)
 have hMa2 := (hM1.alloc (.cells (five5 m.sw).toArray 24)).grow2 hga2 (by omega) (fun e => by have := (hB1.own.lt _ e).1; omega)
 have hba2 := hga2.below (hb1.alloc hb1.size (.cells (five5 m.sw).toArray 24)) (by simp; omega) (by omega) (fun k e => by have := (hB1.own.lt _ e).1; omega)
 have hEa2 : ∀ p ∈ ([] : List (Nat × Obj)), HasO wa2 p.1 p.2 := fun p hp => by simp at hp
 have hLa : ∀ p ∈ ([] : List (Nat × Obj)), p.1 < wa2.heap.size + 1 ∧ p.1 ≠ w.heap.size + 1 ∧ ∀ cs, p.2 ≠ Obj.cells cs 5 (0, 0) := fun p hp => by simp at hp
 clear hM1 hb1 hB1 hga2 hc1
 gi_wp2_with fail
 refine ⟨trivial, (callsIn_wide.2 (backward_any _ _ _ _)).mono ?_⟩
 rintro e wa3 ⟨rfl, rfl⟩
 gi_wp2_with fail
 refine rangeFunc_law (gf := 131) (lb := #[.pointer (some ⟨wa2.heap.size, 0, none⟩)]) rfl (enters_of Tryz.func131 (by kernel_rfl) rfl) (back_seq wa2.heap.size w1.heap.size 0 5 [m.w0, m.w1, m.w2, m.w3, m.w4] (by simp)) (fun _ _ => rfl)
  (fun c k W => TextI w m m.sw (hd4 m) (wa2.heap.size + 1) w1.heap.size wa2.heap.size ([] : List (Nat × Obj)) c k W) (fun _ _ _ _ => False) ?hsta ?hstxa ?hRda ?hsza ?hszxa ?h0a ?hbodya ?hdonea ?hstopa ?hpanica
 case hstxa => intro _ _ _ _ _ _ h; exact h.elim
 case hszxa => intro _ _ _ _ _ h; exact h.elim
 case hstopa => intro _ _ _ _ _ _ h; exact h.elim
 case hpanica => intro _ _ _ _ _ h; exact h.elim
 case hsza => intro c k W _ h; exact h.2.2.2.2.2.1
 case hsta =>
  rintro c k W W' hc ⟨h1, h2, ⟨v, h3, h4⟩, h5, h6, h7, h8⟩ ha
  simp only [World.size_alloc] at ha hc
  have hlX := hXa2.lt
  refine ⟨ha.below h1 (by omega) h1.size, ha.hasO h2 (by omega), ⟨v, h3.alt ha (by omega) h4, h4⟩, ha.hasO h5 (by omega), ha.hasO h6 (by omega), Nat.le_trans h7 ha.size, fun p hp => ha.hasO (h8 p hp) (by have := (hLa p hp).1; omega)⟩
 case hRda =>
  rintro c k W hc ⟨_, _, _, h5, h6, _, _⟩
  refine ⟨h6.cells 0, fun i x hx => ?_⟩
  rw [Nat.zero_add, h5.cells]
  have hi : i < 5 := (List.getElem?_eq_some_iff.1 hx).1
  rcases five hi with rfl | rfl | rfl | rfl | rfl <;> (simp at hx; subst hx; rfl)
 case h0a =>
  intro c W hb hc hz
  simp only [World.size_alloc] at hb hc
  have hlX := hXa2.lt
  have hbb : Below wa2.heap.size wa2 W := (below_box _ _).trans (hb.mono (by omega))
  refine ⟨below_call hba2 hba2.size hbb, hMa2.call hbb, ⟨va2, hBa2.call hbb, fun q e => .inl (by have := (hBa2.own.lt _ e).2; omega)⟩, hXa2.call hbb, ((HasO.new wa2 _).below hb (by omega)), by omega, fun p hp => (hEa2 p hp).call hbb⟩
 case hbodya =>
  rintro c k W hc hk ⟨h1, h2, ⟨v, h3, h4⟩, h5, h6, h7, h8⟩ hT
  simp only [World.size_alloc] at hc hT ⊢
  have hk : k < 5 := hk
  have hlX := hXa2.lt
  gi_wp2_with fail
  refine ⟨fun q o _ h => h, fun W2 ha hz hrec => ?_⟩
  have h2' := ha.hasO h2 (by omega)
  have h1' := ha.below h1 (by omega) h1.size
  have h3' := h3.alt ha (by omega) (fun g hg => by have := h4 g hg; omega)
  have h5' := ha.hasO h5 (by omega)
  have h6' := ha.hasO h6 (by omega)
  have h8' : ∀ p ∈ ([] : List (Nat × Obj)), HasO W2 p.1 p.2 := fun p hp => ha.hasO (h8 p hp) (by have := (hLa p hp).1; omega)
  have haW := ha
  have hgk := hgba.out (4 - k) (by omega)
  clear h1 h2 h3 h5 h6 h8 ha
  have hcv : [m.w0, m.w1, m.w2, m.w3, m.w4][4 - k]?.getD 0 = m.sw (4 - k) := by rcases five hk with rfl | rfl | rfl | rfl | rfl <;> rfl
  gi_wp2_with fail
  rw [hcv, pn_cut (by omega), show m.sw (4 - k) = ((m.sw (4 - k)).toNat : Int) by omega]
  refine ⟨trivial, (CallsIn.inRound _ (callsIn_wide.2 (Tryz.strings_Repeat _ _ _ (by omega) (by rw [str_size]; simp; omega)))).mono ?_⟩
  rintro e wa4 ⟨rfl, hb4⟩
  have h1' := below_call h1' h1'.size hb4
  have h2' := h2'.call hb4
  have h3' := h3'.call hb4
  have h5' := h5'.call hb4
  have h6' := h6'.call hb4
  rw [repeat_str]
  gi_wp2_with fail
  refine ⟨trivial, (CallsIn.inRound _ (callsIn_wide.2 (writeString_any (w.heap.size + 1) (w.heap.size + 1) v _ _ _ h3' ?hla ?hla2 h2'.lt))).mono ?_⟩
  case hla => have := sideN_len hgba.out (j := k) (by omega); simp [hd4]; omega
  case hla2 => simp; omega
  rintro e wa5 ⟨rfl, v5, hB5, hg5⟩
  have hr5 : ∀ q, wa2.heap.size + 1 ≤ q ∧ q < c → v.ownBlock ≠ some q := fun q hq e => by have := h4 q e; omega
  have hkeep : ∀ q o, wa2.heap.size + 1 ≤ q ∧ q < c → HasO W2 q o → HasO wa5 q o := fun q o hq h => (h.call hb4).grow2 hg5 (by omega) (hr5 q hq)
  gi_wp2_with fail
  refine ⟨fun q o hq h => hkeep q o (by omega) h, hg5.below h1' h1'.size (by omega) (fun k e => by have := (h3'.own.lt _ e).1; omega), h2'.grow2 hg5 (by omega) (fun e => by have := (h3'.own.lt _ e).1; omega), ⟨v5, ?_, ?_⟩, h5'.grow2 hg5 ?_ ?_, h6'.grow2 hg5 (by omega) ?_, Nat.le_trans (Nat.le_trans (by omega) hb4.size) hg5.size, fun p hp => ((h8' p hp).call hb4).grow2 hg5 (hLa p hp).2.1 (own_ne h3'.own ((h8' p hp).call hb4) (hLa p hp).2.2)⟩
  ·have := hB5; rw [List.append_assoc] at this; exact this
  ·obtain ⟨r, hr⟩ := hrec
   exact (hT.turn (l := wa2.heap.size + 1 + 1) haW hr).not_row hkeep hB5.own (fun h => h)
  ·omega
  ·exact own_ne h3'.own h5' (by simp)
  ·exact own_ne h3'.own h6' (by simp)
 case hdonea =>
  rintro c wq hc ⟨hbq, hMq, ⟨vq, hBq, h4⟩, h5, h6, h7, h8⟩ hDq
  simp only [World.size_alloc] at hDq hc ⊢
  replace hBq : Bld (w.heap.size + 1) (w.heap.size + 1) vq ((hd4 m) ++ sideL m.sw) wq := hBq
  gi_wp2_with fail
  rw [roundsIn_succ]
  have hcq := hMq.cells
  have hlq : wa2.heap.size + 1 < wq.heap.size := by omega
  have hlX2 := hXa2.lt
  have hSl : (sideL m.sw).length ≤ 21 := sideN_len hgba.out (j := 5) (by omega)
  clear h4 h5 h6 h7 h8 hBa2 hMa2 hba2 hEa2 hLa
  gi_wp2_with fail
  refine ⟨trivial, (callsIn_wide.2 (writeByte_any (w.heap.size + 1) (w.heap.size + 1) vq _ 75 _ (hBq.call (below_box _ _)) ?hlenb (by have := hMq.lt; simp; omega))).mono ?_⟩
  case hlenb => have := sideN_len hgba.out (j := 5) (by omega); simp [hd4, sideL]; omega
  rintro e wb2 ⟨rfl, vb2, hBb2, hgb2⟩
  have hlb1 := hMq.lt
  have hlB : w.heap.size + 1 < wq.heap.size := by obtain ⟨p, _, h⟩ := hBq.hd; exact h.lt
  have hXb2 : HasO wb2 wq.heap.size (.cells (five5 m.sb).toArray 24 (0, 0)) := (HasO.new wq _).grow2 hgb2 (by have := (hBq.hd); obtain ⟨p, _, h⟩ := this; have := h.lt; omega) (fun e => by have := (hBq.own.lt _ e).2; omega)
  have hMb2 := (hMq.alloc (.cells (five5 m.sb).toArray 24)).grow2 hgb2 (by omega) (fun e => by have := (hBq.own.lt _ e).1; omega)
  have hbb2 := hgb2.below (hbq.alloc hbq.size (.cells (five5 m.sb).toArray 24)) (by simp; omega) (by omega) (fun k e => by have := (hBq.own.lt _ e).1; omega)
  have hEb2 : ∀ p ∈ [(wa2.heap.size + 1, Obj.deferred (some []))], HasO wb2 p.1 p.2 := fun p hp => by simp at hp; subst hp; exact (hDq.alloc _).grow2 hgb2 (by simp; omega) (own_ne hBq.own hDq (by simp))
  have hLb : ∀ p ∈ [(wa2.heap.size + 1, Obj.deferred (some []))], p.1 < wb2.heap.size + 1 ∧ p.1 ≠ w.heap.size + 1 ∧ ∀ cs, p.2 ≠ Obj.cells cs 5 (0, 0) := fun p hp => by simp at hp; subst hp; exact ⟨by have := (hEb2 (wa2.heap.size + 1, Obj.deferred (some [])) (by simp)).lt; simp at this ⊢; omega, by simp; omega, by simp⟩
  clear hMq hbq hBq hgb2 hcq
  gi_wp2_with fail
  refine ⟨trivial, (callsIn_wide.2 (backward_any _ _ _ _)).mono ?_⟩
  rintro e wb3 ⟨rfl, rfl⟩
  gi_wp2_with fail
  refine rangeFunc_law (gf := 131) (lb := #[.pointer (some ⟨wb2.heap.size, 0, none⟩)]) rfl (enters_of Tryz.func131 (by kernel_rfl) rfl) (back_seq wb2.heap.size wq.heap.size 0 5 [m.b0, m.b1, m.b2, m.b3, m.b4] (by simp)) (fun _ _ => rfl)
   (fun c k W => TextI w m m.sb (hd4 m ++ sideL m.sw) (wb2.heap.size + 1) wq.heap.size wb2.heap.size [(wa2.heap.size + 1, Obj.deferred (some []))] c k W) (fun _ _ _ _ => False) ?hstb ?hstxb ?hRdb ?hszb ?hszxb ?h0b ?hbodyb ?hdoneb ?hstopb ?hpanicb
  case hstxb => intro _ _ _ _ _ _ h; exact h.elim
  case hszxb => intro _ _ _ _ _ h; exact h.elim
  case hstopb => intro _ _ _ _ _ _ h; exact h.elim
  case hpanicb => intro _ _ _ _ _ h; exact h.elim
  case hszb => intro c k W _ h; exact h.2.2.2.2.2.1
  case hstb =>
   rintro c k W W' hc ⟨h1, h2, ⟨v, h3, h4⟩, h5, h6, h7, h8⟩ ha
   simp only [World.size_alloc] at ha hc
   have hlX := hXb2.lt
   refine ⟨ha.below h1 (by omega) h1.size, ha.hasO h2 (by omega), ⟨v, h3.alt ha (by omega) h4, h4⟩, ha.hasO h5 (by omega), ha.hasO h6 (by omega), Nat.le_trans h7 ha.size, fun p hp => ha.hasO (h8 p hp) (by have := (hLb p hp).1; omega)⟩
  case hRdb =>
   rintro c k W hc ⟨_, _, _, h5, h6, _, _⟩
   refine ⟨h6.cells 0, fun i x hx => ?_⟩
   rw [Nat.zero_add, h5.cells]
   have hi : i < 5 := (List.getElem?_eq_some_iff.1 hx).1
   rcases five hi with rfl | rfl | rfl | rfl | rfl <;> (simp at hx; subst hx; rfl)
  case h0b =>
   intro c W hb hc hz
   simp only [World.size_alloc] at hb hc
   have hlX := hXb2.lt
   have hbb : Below wb2.heap.size wb2 W := (below_box _ _).trans (hb.mono (by omega))
   refine ⟨below_call hbb2 hbb2.size hbb, hMb2.call hbb, ⟨vb2, hBb2.call hbb, fun q e => .inl (by have := (hBb2.own.lt _ e).2; omega)⟩, hXb2.call hbb, ((HasO.new wb2 _).below hb (by omega)), by omega, fun p hp => (hEb2 p hp).call hbb⟩
  case hbodyb =>
   rintro c k W hc hk ⟨h1, h2, ⟨v, h3, h4⟩, h5, h6, h7, h8⟩ hT
   simp only [World.size_alloc] at hc hT ⊢
   have hk : k < 5 := hk
   have hlX := hXb2.lt
   gi_wp2_with fail
   refine ⟨fun q o _ h => h, fun W2 ha hz hrec => ?_⟩
   have h2' := ha.hasO h2 (by omega)
   have h1' := ha.below h1 (by omega) h1.size
   have h3' := h3.alt ha (by omega) (fun g hg => by have := h4 g hg; omega)
   have h5' := ha.hasO h5 (by omega)
   have h6' := ha.hasO h6 (by omega)
   have h8' : ∀ p ∈ [(wa2.heap.size + 1, Obj.deferred (some []))], HasO W2 p.1 p.2 := fun p hp => ha.hasO (h8 p hp) (by have := (hLb p hp).1; omega)
   have haW := ha
   have hgk := hgbb.out (4 - k) (by omega)
   clear h1 h2 h3 h5 h6 h8 ha
   have hcv : [m.b0, m.b1, m.b2, m.b3, m.b4][4 - k]?.getD 0 = m.sb (4 - k) := by rcases five hk with rfl | rfl | rfl | rfl | rfl <;> rfl
   gi_wp2_with fail
   rw [hcv, pn_cut (by omega), show m.sb (4 - k) = ((m.sb (4 - k)).toNat : Int) by omega]
   refine ⟨trivial, (CallsIn.inRound _ (callsIn_wide.2 (Tryz.strings_Repeat _ _ _ (by omega) (by rw [str_size]; simp; omega)))).mono ?_⟩
   rintro e wb4 ⟨rfl, hb4⟩
   have h1' := below_call h1' h1'.size hb4
   have h2' := h2'.call hb4
   have h3' := h3'.call hb4
   have h5' := h5'.call hb4
   have h6' := h6'.call hb4
   rw [repeat_str]
   gi_wp2_with fail
   refine ⟨trivial, (CallsIn.inRound _ (callsIn_wide.2 (writeString_any (w.heap.size + 1) (w.heap.size + 1) v _ _ _ h3' ?hlb ?hlb2 h2'.lt))).mono ?_⟩
   case hlb => have := sideN_len hgbb.out (j := k) (by omega); simp [hd4]; omega
   case hlb2 => simp; omega
   rintro e wb5 ⟨rfl, v5, hB5, hg5⟩
   have hr5 : ∀ q, wb2.heap.size + 1 ≤ q ∧ q < c → v.ownBlock ≠ some q := fun q hq e => by have := h4 q e; omega
   have hkeep : ∀ q o, wb2.heap.size + 1 ≤ q ∧ q < c → HasO W2 q o → HasO wb5 q o := fun q o hq h => (h.call hb4).grow2 hg5 (by omega) (hr5 q hq)
   gi_wp2_with fail
   refine ⟨fun q o hq h => hkeep q o (by omega) h, hg5.below h1' h1'.size (by omega) (fun k e => by have := (h3'.own.lt _ e).1; omega), h2'.grow2 hg5 (by omega) (fun e => by have := (h3'.own.lt _ e).1; omega), ⟨v5, ?_, ?_⟩, h5'.grow2 hg5 ?_ ?_, h6'.grow2 hg5 (by omega) ?_, Nat.le_trans (Nat.le_trans (by omega) hb4.size) hg5.size, fun p hp => ((h8' p hp).call hb4).grow2 hg5 (hLb p hp).2.1 (own_ne h3'.own ((h8' p hp).call hb4) (hLb p hp).2.2)⟩
   ·have := hB5; rw [List.append_assoc] at this; exact this
   ·obtain ⟨r, hr⟩ := hrec
    exact (hT.turn (l := wb2.heap.size + 1 + 1) haW hr).not_row hkeep hB5.own (fun h => h)
   ·omega
   ·exact own_ne h3'.own h5' (by simp)
   ·exact own_ne h3'.own h6' (by simp)
  case hdoneb =>
   rintro c wz hc ⟨hbz, hMz, ⟨vz, hBz, h4⟩, h5, h6, h7, h8⟩ hDz
   simp only [World.size_alloc] at hDz hc ⊢
   replace hBz : Bld (w.heap.size + 1) (w.heap.size + 1) vz ((hd4 m ++ sideL m.sw) ++ sideL m.sb) wz := hBz
   gi_wp2_with fail
   rw [roundsIn_succ]
   have hDz1 := h8 (wa2.heap.size + 1, Obj.deferred (some [])) (by simp)
   have hE := hEb2 (wa2.heap.size + 1, Obj.deferred (some [])) (by simp)
   gi_wp2_with fail
   refine ⟨trivial, (callsIn_wide.2 (string_any (w.heap.size + 1) (w.heap.size + 1) vz _ wz hBz (by simp [hd4]))).mono ?_⟩
   rintro e wy ⟨rfl, hgy⟩
   have hDy1 : HasO wy (wa2.heap.size + 1) (.deferred (some [])) := hDz1.grow2 hgy (by simp; omega) (own_ne hBz.own hDz1 (by simp))
   have hDy2 := hDz.grow2 hgy (by have := hXb2.lt; omega) (own_ne hBz.own hDz (by simp))
   have hby := hgy.below hbz hbz.size (by omega) (fun k e => by have := (hBz.own.lt _ e).1; omega)
   gi_wp2_with fail
   refine ⟨by simp, .inl ⟨_, _, rfl, run_takeDeferred hDy2, by simp, .inl ⟨_, _, rfl, run_takeDeferred ((World.putObj_heap_other (k := wa2.heap.size + 1) (by have := hXb2.lt; omega)).trans hDy1), ?_⟩⟩⟩
   refine ⟨_, results_tmp rfl _ _ _, ret_v ?_, ?_⟩
   ·show Value.string _ = _
    rfl
   ·exact below_putObj (below_putObj hby (by have := hXb2.lt; omega) hby.size) (by omega) (by simpa using hby.size)


end Go.Proofs.YtnpomigmeieofaaGreatDoor
