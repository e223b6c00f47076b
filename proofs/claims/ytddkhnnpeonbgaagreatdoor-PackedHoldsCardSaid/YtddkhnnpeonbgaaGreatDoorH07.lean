import Derived.Test.YtddkhnnpeonbgaaGreatDoorH06
import Derived.Shelf.Strings.Builder1
import Derived.Shelf.Strings.Builder2
import Derived.Shelf.Small.Bits
import Derived.Shelf.Strings.BuilderF
import Derived.Shelf.Strings.BuilderK
import Derived.Shelf.Utf8.RuneCount
import Derived.Shelf.Strings.Search1
import Derived.Shelf.Strings.Search2
import Derived.Shelf.Strings.Search3
import Derived.Shelf.Strings.Cut
import Derived.Shelf.Strings.Count
import Derived.Shelf.LaysM
import Derived.Shelf.Strings.Shaped
import Derived.Shelf.Strings.Prefix
import Derived.Shelf.Strings.Split
import Derived.Shelf.Strings.RuneCount
import Derived.Shelf.Bits.Mul64
import Derived.Shelf.Strings.Repeat
import Derived.Shelf.Bytes.SlEqualAll
import Derived.Shelf.Bytes.Small
import Derived.Test.YtddkhnnpeonbgaaGreatDoorProg
/-
 DERIVED: THE SHELF's CONTRACTS AT THIS DUMP, IN PLAIN WORDS (tools/lay-plain.mjs out of 'TryzShelf.lean', which tools/lay-shelf.mjs wrote): THE SAME DECLARATIONS UNDER THE SAME NAMES: 'import', 'namespace', 'open', 'def', 'theorem' AND NOTHING ELSE: no command of the shelf's: FOR A HAND-IN. Each laying: the table of numbers ('.._ren') and one theorem, a field a fact of the dump's own or the kernel's comparison; each contract: ONE APPLICATION.
-/
namespace Go.Proofs
open Go.Shelf
def Tryz.lays127_ren : Go.Shelf.Ren := ⟨fun | 127 => 76 | n => n, fun | 49 => 68 | 3 => 3 | 4 => 4 | 46 => 114 | 5 => 5 | 9 => 9 | n => n, fun | n => n⟩
theorem Tryz.lays127 : Go.Proofs.Lays.n127 Tryz.prog Tryz.lays127_ren := {
 mixed := by kernel_rfl
 f127 := Tryz.func76.trans (congrArg some (by kernel_rfl))
 t3 := Tryz.underlying3
 a3 := Tryz.isAgg3
 z3 := Tryz.sizeOf3
 v3 := Tryz.zeroValue3
 t4 := Tryz.underlying4
 a4 := Tryz.isAgg4
 z4 := Tryz.sizeOf4
 v4 := Tryz.zeroValue4
 t5 := Tryz.underlying5
 a5 := Tryz.isAgg5
 z5 := Tryz.sizeOf5
 v5 := Tryz.zeroValue5
 t9 := Tryz.underlying9
 a9 := Tryz.isAgg9
 z9 := Tryz.sizeOf9
 v9 := Tryz.zeroValue9
 t46 := Tryz.underlying114
 a46 := Tryz.isAgg114
 z46 := Tryz.sizeOf114
 v46 := Tryz.zeroValue114
 t49 := Tryz.underlying68
 a49 := Tryz.isAgg68
 z49 := Tryz.sizeOf68
 v49 := Tryz.zeroValue68 }
theorem Tryz.bits_Len16 (x : Int) (w : World) (h0 : 0 ≤ x) (h1 : x ≤ 65535) :
  Calls Tryz.prog 76 #[.int .u16 x] w fun e w' => e = .returned (.int .i64 (Lib.bitLen x.toNat)) ∧ w' = w := Any.bits_Len16 Tryz.lays127 x w h0 h1
def Tryz.lays145_ren : Go.Shelf.Ren := ⟨fun | 145 => 120 | 220 => 139 | 219 => 161 | 217 => 173 | 225 => 174 | 224 => 175 | 267 => 176 | 266 => 185 | 314 => 186 | n => n, fun | 9 => 9 | 4 => 4 | 59 => 181 | 3 => 3 | 5 => 5 | 46 => 114 | 146 => 229 | 51 => 133 | n => n, fun | 1 => 1 | n => n⟩
theorem Tryz.lays145 : Go.Proofs.Lays.n145 Tryz.prog Tryz.lays145_ren := {
 mixed := by kernel_rfl
 f145 := Tryz.func120.trans (congrArg some (by kernel_rfl))
 f217 := Tryz.func173.trans (congrArg some (by kernel_rfl))
 f219 := Tryz.func161.trans (congrArg some (by kernel_rfl))
 f220 := Tryz.func139.trans (congrArg some (by kernel_rfl))
 f224 := Tryz.func175.trans (congrArg some (by kernel_rfl))
 f225 := Tryz.func174.trans (congrArg some (by kernel_rfl))
 f266 := Tryz.func185.trans (congrArg some (by kernel_rfl))
 f267 := Tryz.func176.trans (congrArg some (by kernel_rfl))
 f314 := Tryz.func186.trans (congrArg some (by kernel_rfl))
 t3 := Tryz.underlying3
 a3 := Tryz.isAgg3
 z3 := Tryz.sizeOf3
 v3 := Tryz.zeroValue3
 t4 := Tryz.underlying4
 a4 := Tryz.isAgg4
 z4 := Tryz.sizeOf4
 v4 := Tryz.zeroValue4
 t5 := Tryz.underlying5
 a5 := Tryz.isAgg5
 z5 := Tryz.sizeOf5
 v5 := Tryz.zeroValue5
 t9 := Tryz.underlying9
 a9 := Tryz.isAgg9
 z9 := Tryz.sizeOf9
 v9 := Tryz.zeroValue9
 t46 := Tryz.underlying114
 a46 := Tryz.isAgg114
 z46 := Tryz.sizeOf114
 v46 := Tryz.zeroValue114
 t51 := Tryz.underlying133
 a51 := Tryz.isAgg133
 z51 := Tryz.sizeOf133
 v51 := Tryz.zeroValue133
 t59 := Tryz.underlying181
 a59 := Tryz.isAgg181
 z59 := Tryz.sizeOf181
 v59 := Tryz.zeroValue181
 t146 := Tryz.underlying229
 a146 := Tryz.isAgg229
 z146 := Tryz.sizeOf229
 v146 := Tryz.zeroValue229
 g1 := by kernel_rfl }
open Go.RowKit Go.Lib in
theorem Tryz.strings_Cut (s sep : ByteArray) (m : Int) (w : World) (hs : s.size < 4294967281) (hm : w.cell? ⟨1, 0, none⟩ = some (.int .i64 m)) :
  Calls Tryz.prog 120 #[.string s, .string sep] w fun e w' => e = .returned (.tuple #[.string ⟨(Lib.cut s.data.toList sep.data.toList).1.toArray⟩, .string ⟨(Lib.cut s.data.toList sep.data.toList).2.1.toArray⟩, .bool (Lib.cut s.data.toList sep.data.toList).2.2]) ∧ ∃ n, w' = w.drewN n := Any.strings_Cut Tryz.lays145 s sep m w hs hm
def Tryz.lays138_ren : Go.Shelf.Ren := ⟨fun | 138 => 121 | 195 => 140 | 218 => 141 | 143 => 142 | 219 => 161 | 217 => 173 | 225 => 174 | 224 => 175 | 267 => 176 | 266 => 185 | 314 => 186 | n => n, fun | 9 => 9 | 3 => 3 | 4 => 4 | 5 => 5 | 0 => 0 | 46 => 114 | 146 => 229 | 51 => 133 | n => n, fun | 1 => 1 | n => n⟩
theorem Tryz.lays138 : Go.Proofs.Lays.n138 Tryz.prog Tryz.lays138_ren := {
 mixed := by kernel_rfl
 f138 := Tryz.func121.trans (congrArg some (by kernel_rfl))
 f143 := Tryz.func142.trans (congrArg some (by kernel_rfl))
 f195 := Tryz.func140.trans (congrArg some (by kernel_rfl))
 f217 := Tryz.func173.trans (congrArg some (by kernel_rfl))
 f218 := Tryz.func141.trans (congrArg some (by kernel_rfl))
 f219 := Tryz.func161.trans (congrArg some (by kernel_rfl))
 f224 := Tryz.func175.trans (congrArg some (by kernel_rfl))
 f225 := Tryz.func174.trans (congrArg some (by kernel_rfl))
 f266 := Tryz.func185.trans (congrArg some (by kernel_rfl))
 f267 := Tryz.func176.trans (congrArg some (by kernel_rfl))
 f314 := Tryz.func186.trans (congrArg some (by kernel_rfl))
 t0 := Tryz.underlying0
 a0 := Tryz.isAgg0
 z0 := Tryz.sizeOf0
 v0 := Tryz.zeroValue0
 t3 := Tryz.underlying3
 a3 := Tryz.isAgg3
 z3 := Tryz.sizeOf3
 v3 := Tryz.zeroValue3
 t4 := Tryz.underlying4
 a4 := Tryz.isAgg4
 z4 := Tryz.sizeOf4
 v4 := Tryz.zeroValue4
 t5 := Tryz.underlying5
 a5 := Tryz.isAgg5
 z5 := Tryz.sizeOf5
 v5 := Tryz.zeroValue5
 t9 := Tryz.underlying9
 a9 := Tryz.isAgg9
 z9 := Tryz.sizeOf9
 v9 := Tryz.zeroValue9
 t46 := Tryz.underlying114
 a46 := Tryz.isAgg114
 z46 := Tryz.sizeOf114
 v46 := Tryz.zeroValue114
 t51 := Tryz.underlying133
 a51 := Tryz.isAgg133
 z51 := Tryz.sizeOf133
 v51 := Tryz.zeroValue133
 t146 := Tryz.underlying229
 a146 := Tryz.isAgg229
 z146 := Tryz.sizeOf229
 v146 := Tryz.zeroValue229
 g1 := by kernel_rfl }
open Go.RowKit Go.Lib in
theorem Tryz.strings_Count_any (s sep : ByteArray) (m : Int) (w : World) (hs : s.size < 4294967281) (hm : w.cell? ⟨1, 0, none⟩ = some (.int .i64 m)) (h1 : 1 ≤ sep.size) :
  Calls Tryz.prog 121 #[.string s, .string sep] w fun e w' => e = .returned (.int .i64 (Lib.countB s sep)) ∧ w' = w := Any.strings_Count_any Tryz.lays138 s sep m w hs hm h1
def Tryz.lays105_ren : Go.Shelf.Ren := ⟨fun | 105 => 131 | 212 => 150 | 99 => 151 | 165 => 152 | 166 => 130 | 170 => 153 | 169 => 132 | 263 => 166 | 264 => 167 | 206 => 168 | 240 => 148 | 241 => 169 | 276 => 165 | 277 => 184 | n => n, fun | 9 => 9 | 3 => 3 | 4 => 4 | 20 => 20 | 0 => 0 | 46 => 114 | 109 => 211 | 5 => 5 | 72 => 190 | 76 => 193 | 51 => 133 | 146 => 229 | 53 => 161 | 148 => 231 | 70 => 188 | 37 => 22 | 75 => 192 | 127 => 216 | 164 => 227 | 80 => 200 | n => n, fun | n => n⟩
theorem Tryz.lays105 : Go.Proofs.Lays.n105 Tryz.prog Tryz.lays105_ren := {
 mixed := by kernel_rfl
 f99 := Tryz.func151.trans (congrArg some (by kernel_rfl))
 f105 := Tryz.func131.trans (congrArg some (by kernel_rfl))
 f165 := Tryz.func152.trans (congrArg some (by kernel_rfl))
 f166 := Tryz.func130.trans (congrArg some (by kernel_rfl))
 f169 := Tryz.func132.trans (congrArg some (by kernel_rfl))
 f170 := Tryz.func153.trans (congrArg some (by kernel_rfl))
 f206 := Tryz.func168.trans (congrArg some (by kernel_rfl))
 f212 := Tryz.func150.trans (congrArg some (by kernel_rfl))
 f240 := Tryz.func148.trans (congrArg some (by kernel_rfl))
 f241 := Tryz.func169.trans (congrArg some (by kernel_rfl))
 f263 := Tryz.func166.trans (congrArg some (by kernel_rfl))
 f264 := Tryz.func167.trans (congrArg some (by kernel_rfl))
 f276 := Tryz.func165.trans (congrArg some (by kernel_rfl))
 f277 := Tryz.func184.trans (congrArg some (by kernel_rfl))
 t0 := Tryz.underlying0
 a0 := Tryz.isAgg0
 z0 := Tryz.sizeOf0
 v0 := Tryz.zeroValue0
 t3 := Tryz.underlying3
 a3 := Tryz.isAgg3
 z3 := Tryz.sizeOf3
 v3 := Tryz.zeroValue3
 t4 := Tryz.underlying4
 a4 := Tryz.isAgg4
 z4 := Tryz.sizeOf4
 v4 := Tryz.zeroValue4
 t5 := Tryz.underlying5
 a5 := Tryz.isAgg5
 z5 := Tryz.sizeOf5
 v5 := Tryz.zeroValue5
 t9 := Tryz.underlying9
 a9 := Tryz.isAgg9
 z9 := Tryz.sizeOf9
 v9 := Tryz.zeroValue9
 t20 := Tryz.underlying20
 a20 := Tryz.isAgg20
 z20 := Tryz.sizeOf20
 v20 := Tryz.zeroValue20
 t37 := Tryz.underlying22
 a37 := Tryz.isAgg22
 z37 := Tryz.sizeOf22
 v37 := Tryz.zeroValue22
 t46 := Tryz.underlying114
 a46 := Tryz.isAgg114
 z46 := Tryz.sizeOf114
 v46 := Tryz.zeroValue114
 t51 := Tryz.underlying133
 a51 := Tryz.isAgg133
 z51 := Tryz.sizeOf133
 v51 := Tryz.zeroValue133
 t53 := Tryz.underlying161
 a53 := Tryz.isAgg161
 z53 := Tryz.sizeOf161
 v53 := Tryz.zeroValue161
 t70 := Tryz.underlying188
 a70 := Tryz.isAgg188
 z70 := Tryz.sizeOf188
 v70 := Tryz.zeroValue188
 t72 := Tryz.underlying190
 a72 := Tryz.isAgg190
 z72 := Tryz.sizeOf190
 v72 := Tryz.zeroValue190
 t75 := Tryz.underlying192
 a75 := Tryz.isAgg192
 z75 := Tryz.sizeOf192
 v75 := Tryz.zeroValue192
 t76 := Tryz.underlying193
 a76 := Tryz.isAgg193
 z76 := Tryz.sizeOf193
 v76 := Tryz.zeroValue193
 t109 := Tryz.underlying211
 a109 := Tryz.isAgg211
 z109 := Tryz.sizeOf211
 v109 := Tryz.zeroValue211
 t127 := Tryz.underlying216
 a127 := Tryz.isAgg216
 z127 := Tryz.sizeOf216
 v127 := Tryz.zeroValue216
 t146 := Tryz.underlying229
 a146 := Tryz.isAgg229
 z146 := Tryz.sizeOf229
 v146 := Tryz.zeroValue229
 t148 := Tryz.underlying231
 a148 := Tryz.isAgg231
 z148 := Tryz.sizeOf231
 v148 := Tryz.zeroValue231
 t164 := Tryz.underlying227
 a164 := Tryz.isAgg227
 z164 := Tryz.sizeOf227
 v164 := Tryz.zeroValue227 }
theorem Tryz.Builder_Extra_105 : Builder.Extra Tryz.prog Tryz.lays105_ren := {
 sizeBuilder := by kernel_rfl
 liesBuilder := by kernel_rfl
 t5 := Tryz.underlying5
 a5 := Tryz.isAgg5
 z5 := Tryz.sizeOf5
 v5 := Tryz.zeroValue5
 infoByte := by kernel_rfl
 cellsByte := by kernel_rfl
 sizeByte := by kernel_rfl
 neB5 := by decide }
open Go.RowKit Go.Lib in
theorem Tryz.strings_Repeat (s : ByteArray) (c : Nat) (w : World) (hc : c ≤ 9223372036854775807) (hlen : s.size * c ≤ 140737488355328) :
  Calls Tryz.prog 131 #[.string s, .int .i64 c] w fun e w' => e = .returned (.string ⟨(Lib.repeatL s.data.toList c).toArray⟩) ∧ Below w.heap.size w w' := Any.strings_Repeat Tryz.lays105 Tryz.Builder_Extra_105 s c w hc hlen
def Tryz.laysnb115_ren : Go.Shelf.Ren := ⟨fun | 115 => 33 | n => n, fun | 37 => 22 | 4 => 4 | 9 => 9 | 5 => 5 | n => n, fun | n => n⟩
theorem Tryz.laysnb115 : Go.Proofs.Lays.nb115 Tryz.prog Tryz.laysnb115_ren := {
 mixed := by kernel_rfl
 f115 := Tryz.func33.trans (congrArg some (by kernel_rfl))
 t4 := Tryz.underlying4
 a4 := Tryz.isAgg4
 z4 := Tryz.sizeOf4
 v4 := Tryz.zeroValue4
 t9 := Tryz.underlying9
 a9 := Tryz.isAgg9
 z9 := Tryz.sizeOf9
 v9 := Tryz.zeroValue9
 t37 := Tryz.underlying22
 a37 := Tryz.isAgg22
 z37 := Tryz.sizeOf22
 v37 := Tryz.zeroValue22
 t5 := Tryz.underlying5
 a5 := Tryz.isAgg5
 z5 := Tryz.sizeOf5
 v5 := Tryz.zeroValue5 }
theorem Tryz.bytes_Equal_all (p1 p2 : Option Addr) (n c m d : Nat) (xs ys : List Int) (w : World) (hx : xs.length = n) (hy : ys.length = m) (h1 : Lib.BytesIn w p1 n xs) (h2 : Lib.BytesIn w p2 m ys) :
  Calls Tryz.prog 33 #[.slice p1 n c, .slice p2 m d] w fun e w' => e = .returned (.bool (Lib.bytesOf xs == Lib.bytesOf ys)) ∧ w' = w := Any.bytes_Equal_all Tryz.laysnb115 p1 p2 n c m d xs ys w hx hy h1 h2
end Go.Proofs
namespace Go.Proofs.YtddkhnnpeonbgaaGreatDoor
open Go.RowKit

structure Grow2 (b : Nat) (row : Option Nat) (w w' : World) : Prop where
 os : w'.os = w.os
 tape : w'.tape = w.tape
 output : w'.output = w.output
 size : w.heap.size ≤ w'.heap.size
 block : ∀ k, k < w.heap.size → k ≠ b → row ≠ some k → w'.heap[k]? = w.heap[k]?
theorem HasO.grow2 {w w' : World} {q b : Nat} {o : Obj} {row : Option Nat} (h : HasO w q o) (hg : Grow2 b row w w') (hb : q ≠ b) (hr : row ≠ some q) : HasO w' q o := (hg.block q h.lt hb hr).trans h
theorem Grow2.below {w0 w w' : World} {B b : Nat} {row : Option Nat} (hg : Grow2 b row w w') (h : Below B w0 w) (hB : B ≤ w.heap.size) (hb : B ≤ b) (hr : ∀ k, row = some k → B ≤ k) : Below B w0 w' :=
 h.trans ⟨hg.os, hg.tape, hg.output, hg.size, fun k hk => hg.block k (by omega) (by omega) (fun e => by have := hr k e; omega)⟩

structure Bld (base b : Nat) (v : Value) (l : List UInt8) (w : World) : Prop where
 hd : ∃ p, (p = .pointer none ∨ p = .pointer (some ⟨b, 0, none⟩)) ∧ HasO w b (.cells #[p, v] 190 (0, 0))
 own : w.ownsRow base 5 1 v l.length (Lib.byteCells l)
 ne : v.ownBlock ≠ some b

theorem Bld.call {base b : Nat} {v : Value} {l : List UInt8} {w w' : World} (h : Bld base b v l w) (hb : Below w.heap.size w w') : Bld base b v l w' := by
 obtain ⟨p, hp, ho⟩ := h.hd
 exact ⟨⟨p, hp, ho.call hb⟩, own_call h.own hb, h.ne⟩

theorem Tryz.size120 : (Tryz.prog.info? 190).map (·.size) = some 2 := by kernel_rfl
theorem Tryz.lies120 : liesAt Tryz.prog Tryz.prog.depth 190 (2 / Tryz.prog.cellsOf 190) 0 190 1 = true := by kernel_rfl
theorem Tryz.info5 : (Tryz.prog.info? 5).map (fun i => (i.zero, i.size, i.bytes)) = some (some (.int .u8 0), 1, 1) := by kernel_rfl

set_option maxHeartbeats 1000000 in
set_option maxRecDepth 100000 in
theorem copyCheck_any (b : Nat) (p v : Value) (w : World) (hp : p = .pointer none ∨ p = .pointer (some ⟨b, 0, none⟩)) (h : HasO w b (.cells #[p, v] 190 (0, 0))) :
  Calls Tryz.prog 148 #[.pointer (some ⟨b, 0, none⟩)] w fun e w' => e = .returned (.tuple #[]) ∧ HasO w' b (.cells #[.pointer (some ⟨b, 0, none⟩), v] 190 (0, 0)) ∧ Alt b (b + 1) w w' ∧ w'.heap.size = w.heap.size := by
 obtain ⟨j, hj, hjs⟩ := Option.map_eq_some_iff.1 Tryz.size120
 have f0 := h.frozen 0
 rcases hp with rfl | rfl
 ·have hsh : w.shape? b = some (190, 2) := by unfold HasO at h; simp [World.shape?, h]
  have c0 : w.cell? ⟨b, 0, none⟩ = some (.pointer none) := h.cells 0
  go_enter Tryz.func148, Tryz.ntmps148
  go_wp2_with fail
  rw [Lib.run_to_unsafe w ⟨b, 0, none⟩ Tryz.underlying188 Tryz.underlying227 hj (by rw [hjs]; decide) hsh (Nat.zero_lt_succ 1)]
  simp only [Result.andThen]
  rw [Oper.upon_value]
  go_wp2_with fail
  rw [run_callFunc_extern Tryz.func165 (by kernel_rfl) (by kernel_rfl) (by kernel_rfl) (e := Extern.AbiNoEscape.same) (by kernel_rfl)]
  rw [Lib.run_noEscape]
  simp only [Result.andThen]
  rw [Oper.upon_value]
  go_wp2_with fail
  rw [Lib.run_from_unsafe w ⟨b, 0, none⟩ Tryz.underlying227 Tryz.underlying188 hj hsh Tryz.lies120]
  simp only [Result.andThen]
  rw [Oper.upon_value]
  go_wp2_with fail
  go_end0
  exact ⟨rfl, h.set_ 0 _, Alt.setCell ⟨Nat.le_refl _, Nat.lt_succ_self _⟩, by simp [World.setCell]⟩
 ·have c0 : w.cell? ⟨b, 0, none⟩ = some (.pointer (some ⟨b, 0, none⟩)) := h.cells 0
  go_enter Tryz.func148, Tryz.ntmps148
  go_wp2_with fail
  rw [Lib.run_neq_ptr_same w _ Tryz.underlying188 hj]
  go_wp2_with fail
  go_end0
  exact ⟨rfl, h, Alt.refl _ _ _, rfl⟩

theorem Bld.checked {base b : Nat} {v : Value} {l : List UInt8} {w w' : World} (h : Bld base b v l w) (h1 : HasO w' b (.cells #[.pointer (some ⟨b, 0, none⟩), v] 190 (0, 0))) (ha : Alt b (b + 1) w w') : Bld base b v l w' :=
 ⟨⟨_, .inr rfl, h1⟩, ha.own h.own (fun g hg => by have := h.ne; rw [hg] at this; have : g ≠ b := fun e => this (by rw [e]); omega), h.ne⟩

theorem own_form {w : World} {base : Nat} {e : TypeId} {size n : Nat} {v : Value} {xs : List Value} (h : w.ownsRow base e size v n xs) : ∃ A c, v = .slice A n c := by
 rcases h.2 with ⟨rfl, rfl⟩ | ⟨g, cap, cur, hv, _⟩
 ·exact ⟨_, _, rfl⟩
 ·exact ⟨_, _, hv⟩

theorem Bld.put {base b : Nat} {v v' : Value} {l s : List UInt8} {w w1 w2 : World} (h : Bld base b v l w) (ha : Alt b (b + 1) w w1) (hz : w1.heap.size = w.heap.size) (h1 : HasO w1 b (.cells #[.pointer (some ⟨b, 0, none⟩), v] 190 (0, 0)))
  (hown : w2.ownsRow base 5 1 v' (l.length + s.length) (Lib.byteCells l ++ Lib.byteCells s)) (hg : w1.grownBy w2 v.ownBlock) :
  Bld base b v' (l ++ s) (w2.setCell ⟨b, 1, none⟩ v') ∧ Grow2 b v.ownBlock w (w2.setCell ⟨b, 1, none⟩ v') := by
 have h2 : HasO w2 b (.cells #[.pointer (some ⟨b, 0, none⟩), v] 190 (0, 0)) := h1.grown hg h.ne
 have hne : v'.ownBlock ≠ some b := own_ne hown h2 (by simp)
 refine ⟨⟨⟨_, .inr rfl, by have := h2.set_ 1 v'; simpa using this⟩, ?_, hne⟩, ⟨hg.os.trans ha.os, hg.tape.trans ha.tape, hg.output.trans ha.output, ?_, fun k hk hkb hkr => ?_⟩⟩
 ·have : (w2.setCell ⟨b, 1, none⟩ v').ownsRow base 5 1 v' (l.length + s.length) (Lib.byteCells l ++ Lib.byteCells s) :=
   (Alt.setCell (lo := b) (hi := b + 1) ⟨Nat.le_refl _, Nat.lt_succ_self _⟩).own hown (fun g hg => by rw [hg] at hne; have : g ≠ b := fun e => hne (by rw [e]); omega)
  simpa [Lib.byteCells_append] using this
 ·have := hg.size; simp [World.setCell]; omega
 ·rw [Below.heap_setCell _ _ _ _ hkb, hg.block k (by omega) (fun e => hkr e.symm), ha.block k hk (by omega)]

theorem strCells_str (s : List UInt8) : Lib.strCells (str s) = Lib.byteCells s := by rw [Lib.strCells_eq]; simp [str]

set_option maxHeartbeats 1000000 in
set_option maxRecDepth 100000 in
theorem writeByte_any (base b : Nat) (v : Value) (l : List UInt8) (c : UInt8) (w : World) (h : Bld base b v l w) (hl : l.length ≤ 1000000) (hB : base ≤ w.heap.size) :
  Calls Tryz.prog 128 #[.pointer (some ⟨b, 0, none⟩), .int .u8 c.toNat] w fun e w' => e = .returned .nilIface ∧ ∃ v', Bld base b v' (l ++ [c]) w' ∧ Grow2 b v.ownBlock w w' := by
 obtain ⟨i0, hi, hz0, hz1, hz2⟩ := info_parts Tryz.info5
 obtain ⟨p, hp, ho⟩ := h.hd
 go_enter Tryz.func128, Tryz.ntmps128
 go_wp2_with fail
 refine (copyCheck_any b p v w hp ho).mono ?_
 rintro e w1 ⟨rfl, h1, ha, hz⟩
 replace hz := Lib.hid hz
 have hown := (h.checked h1 ha).own
 have c1 : w1.cell? ⟨b, 1, none⟩ = some v := h1.cells 1
 go_wp2_with (at_builtin; refine wpList_push rfl _ _ 22 rfl base 5 i0 _ 1 1 Tryz.underlying22 hi hz0 hz1 hz2 rfl (by decide) _ _ _ rfl hown [_] rfl ?c1 _ rfl rfl ?c2 ?c3 ?_)
 case c1 => intro u hu; simp at hu; subst hu; rfl
 case c2 => omega
 case c3 => rw [hz.out]; exact hB
 intro v' w2 hown' hg _
 obtain ⟨A, cp, rfl⟩ := own_form hown'
 have h2 : HasO w2 b (.cells #[.pointer (some ⟨b, 0, none⟩), v] 190 (0, 0)) := h1.grown hg h.ne
 have d1 : w2.cell? ⟨b, 1, none⟩ = some v := h2.cells 1
 have f1 := h2.frozen 1
 have hput := h.put ha hz.out h1 (s := [c]) hown' hg
 go_wp2_with fail
 go_ret
 exact ⟨rfl, _, hput⟩

set_option maxHeartbeats 1000000 in
set_option maxRecDepth 100000 in
theorem writeString_any (base b : Nat) (v : Value) (l s : List UInt8) (w : World) (h : Bld base b v l w) (hl : l.length ≤ 1000000) (hs : s.length ≤ 1000000) (hB : base ≤ w.heap.size) :
  Calls Tryz.prog 130 #[.pointer (some ⟨b, 0, none⟩), .string (str s)] w fun e w' => e = .returned (.tuple #[.int .i64 s.length, .nilIface]) ∧ ∃ v', Bld base b v' (l ++ s) w' ∧ Grow2 b v.ownBlock w w' := by
 obtain ⟨i0, hi, hz0, hz1, hz2⟩ := info_parts Tryz.info5
 obtain ⟨p, hp, ho⟩ := h.hd
 have hss := str_size s
 go_enter Tryz.func130, Tryz.ntmps130
 go_wp2_with fail
 refine (copyCheck_any b p v w hp ho).mono ?_
 rintro e w1 ⟨rfl, h1, ha, hz⟩
 replace hz := Lib.hid hz
 have hown := (h.checked h1 ha).own
 have c1 : w1.cell? ⟨b, 1, none⟩ = some v := h1.cells 1
 go_wp2_with (at_builtin; refine Lib.wpList_append_own_string _ rfl _ _ 22 9 rfl base 5 i0 Tryz.underlying22 Tryz.underlying9 hi hz0 hz1 hz2 _ _ _ rfl hown (str s) rfl ?c3 ?c4 ?c5 ?_)
 case c3 => rw [hss]; unfold maxLen; omega
 case c4 => rw [hss]; omega
 case c5 => rw [hz.out]; exact hB
 intro v' w2 hown' hg _
 rw [strCells_str] at hown'
 obtain ⟨A, cp, rfl⟩ := own_form hown'
 have h2 : HasO w2 b (.cells #[.pointer (some ⟨b, 0, none⟩), v] 190 (0, 0)) := h1.grown hg h.ne
 have d1 : w2.cell? ⟨b, 1, none⟩ = some v := h2.cells 1
 have f1 := h2.frozen 1
 have hput := h.put ha hz.out h1 (s := s) hown' hg
 go_wp2_with fail
 go_ret2
 exact ⟨rfl, _, hput⟩
end Go.Proofs.YtddkhnnpeonbgaaGreatDoor
namespace Go.Proofs.YtddkhnnpeonbgaaGreatDoor
open Go.RowKit

set_option maxHeartbeats 1000000 in
set_option maxRecDepth 100000 in
theorem write_any (base b : Nat) (v : Value) (l s : List UInt8) (g o cp : Nat) (w : World) (h : Bld base b v l w) (hl : l.length ≤ 1000000) (hs : s.length ≤ 1000000) (hB : base ≤ w.heap.size)
  (hg : g < w.heap.size) (hgb : g ≠ b) (hc : ∀ j u, (Lib.byteCells s)[j]? = some u → w.cell? ⟨g, o + j, none⟩ = some u) :
  Calls Tryz.prog 127 #[.pointer (some ⟨b, 0, none⟩), .slice (some ⟨g, o, none⟩) s.length cp] w fun e w' => e = .returned (.tuple #[.int .i64 s.length, .nilIface]) ∧ ∃ v', Bld base b v' (l ++ s) w' ∧ Grow2 b v.ownBlock w w' := by
 obtain ⟨i0, hi, hz0, hz1, hz2⟩ := info_parts Tryz.info5
 obtain ⟨p, hp, ho⟩ := h.hd
 go_enter Tryz.func127, Tryz.ntmps127
 go_wp2_with fail
 refine (copyCheck_any b p v w hp ho).mono ?_
 rintro e w1 ⟨rfl, h1, ha, hz⟩
 replace hz := Lib.hid hz
 have hown := (h.checked h1 ha).own
 have c1 : w1.cell? ⟨b, 1, none⟩ = some v := h1.cells 1
 have hc1 : ∀ j u, (Lib.byteCells s)[j]? = some u → w1.cell? ((⟨g, o, none⟩ : Addr).add j) = some u := fun j u hu => by
  rw [Addr.add_lit]
  exact (World.cell?_of_block (w := w) (ha.block g hg (by omega))).trans (hc j u hu)
 replace hc1 := Lib.hid hc1
 replace hc := Lib.hid hc
 go_wp2_with (at_builtin; refine wpList_append_own _ rfl _ _ 22 rfl base 5 i0 _ 1 1 Tryz.underlying22 hi hz0 hz1 hz2 rfl (by decide) _ _ _ rfl hown ⟨g, o, none⟩ s.length cp (Lib.byteCells s) rfl ?c1 hc1.out ?c2 ?c3 ?c4 ?c5 ?_)
 case c1 => simp [Lib.byteCells_length]
 case c2 => intro u hu; simp [Lib.byteCells] at hu; obtain ⟨x, _, rfl⟩ := hu; rfl
 case c3 => unfold maxLen; omega
 case c4 => omega
 case c5 => rw [hz.out]; exact hB
 intro v' w2 hown' hg _
 obtain ⟨A, cq, rfl⟩ := own_form hown'
 have h2 : HasO w2 b (.cells #[.pointer (some ⟨b, 0, none⟩), v] 190 (0, 0)) := h1.grown hg h.ne
 have d1 : w2.cell? ⟨b, 1, none⟩ = some v := h2.cells 1
 have f1 := h2.frozen 1
 have hput := h.put ha hz.out h1 (s := s) hown' hg
 go_wp2_with fail
 go_ret2
 exact ⟨rfl, _, hput⟩

theorem backward_any (A : Option Addr) (n c : Nat) (w : World) : Calls Tryz.prog 129 #[.slice A n c] w fun e w' => e = .returned (.func (.func 149) #[] #[.pointer (some ⟨w.heap.size, 0, none⟩)]) ∧ w.alloc (.cells #[.slice A n c] 53) = w' := by
 go_enter Tryz.func129, Tryz.ntmps129
 go_wp2_with fail
 go_ret
 exact ⟨rfl, rfl⟩
end Go.Proofs.YtddkhnnpeonbgaaGreatDoor
