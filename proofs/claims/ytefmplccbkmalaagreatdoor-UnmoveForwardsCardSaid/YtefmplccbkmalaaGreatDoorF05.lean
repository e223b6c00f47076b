import Derived.Test.YtefmplccbkmalaaGreatDoorF01
import Derived.Test.YtefmplccbkmalaaGreatDoorF02
import Derived.Test.YtefmplccbkmalaaGreatDoorF03
import Derived.Test.YtefmplccbkmalaaGreatDoorF04
import Derived.Shelf.Small.Bits
import Derived.Shelf.Small.Wraps
import Derived.Shelf.Strconv.Itoa0
import Derived.Ground.Names2Prog
import Derived.Shelf.Slices.SearchI
import Derived.Test.YtefmplccbkmalaaGreatDoorProg
import Derived.Shelf.Strings.Builder1
import Derived.Shelf.Abstract
import Derived.Shelf.RegionOpen
import Derived.Lib.SplitLaws
import Derived.Deep.RegionWith
import Derived.Maps.AppendAt
import Derived.Maps.OwnIn
import Derived.Lib.AppendStr
set_option maxHeartbeats 12800000
/-
 DERIVED: THE SHELF's CONTRACTS AT THIS DUMP, IN PLAIN WORDS (tools/lay-plain.mjs out of 'TryzShelf.lean', which tools/lay-shelf.mjs wrote): THE SAME DECLARATIONS UNDER THE SAME NAMES: 'import', 'namespace', 'open', 'def', 'theorem' AND NOTHING ELSE: no command of the shelf's: FOR A HAND-IN. Each laying: the table of numbers ('.._ren') and one theorem, a field a fact of the dump's own or the kernel's comparison; each contract: ONE APPLICATION.
-/
namespace Go.Proofs
open Go.Shelf
def Tryz.lays125_ren : Go.Shelf.Ren := ⟨fun | 125 => 95 | 128 => 155 | 129 => 156 | n => n, fun | 46 => 135 | 3 => 3 | 51 => 194 | 53 => 63 | 4 => 4 | 5 => 5 | 9 => 9 | n => n, fun | n => n⟩
theorem Tryz.lays125 : Go.Proofs.Lays.n125 Tryz.prog Tryz.lays125_ren := {
 mixed := by kernel_rfl
 f125 := Tryz.func95.trans (congrArg some (by kernel_rfl))
 f128 := Tryz.func155.trans (congrArg some (by kernel_rfl))
 f129 := Tryz.func156.trans (congrArg some (by kernel_rfl))
 t3 := Tryz.underlying3
 a3 := Tryz.isAgg3
 z3 := Tryz.sizeOf3
 v3 := Tryz.zeroValue3
 t4 := Tryz.underlying4
 a4 := Tryz.isAgg4
 z4 := Tryz.sizeOf4
 v4 := Tryz.zeroValue4
 t5 := Tryz.underlying5
 a5 := Tryz.isAgg5
 z5 := Tryz.sizeOf5
 v5 := Tryz.zeroValue5
 t9 := Tryz.underlying9
 a9 := Tryz.isAgg9
 z9 := Tryz.sizeOf9
 v9 := Tryz.zeroValue9
 t46 := Tryz.underlying135
 a46 := Tryz.isAgg135
 z46 := Tryz.sizeOf135
 v46 := Tryz.zeroValue135
 t51 := Tryz.underlying194
 a51 := Tryz.isAgg194
 z51 := Tryz.sizeOf194
 v51 := Tryz.zeroValue194
 t53 := Tryz.underlying63
 a53 := Tryz.isAgg63
 z53 := Tryz.sizeOf63
 v53 := Tryz.zeroValue63 }
theorem Tryz.bits_Len (x : Int) (w : World) (h0 : 0 ≤ x) (h1 : x ≤ 18446744073709551615) :
  Calls Tryz.prog 95 #[.int .u64 x] w fun e w' => e = .returned (.int .i64 (Lib.bitLen x.toNat)) ∧ w' = w := Any.bits_Len Tryz.lays125 x w h0 h1
def Tryz.lays215_ren : Go.Shelf.Ren := ⟨fun | 215 => 107 | n => n, fun | 3 => 3 | 4 => 4 | n => n, fun | n => n⟩
theorem Tryz.lays215 : Go.Proofs.Lays.n215 Tryz.prog Tryz.lays215_ren := {
 mixed := by kernel_rfl
 f215 := Tryz.func107.trans (congrArg some (by kernel_rfl))
 t3 := Tryz.underlying3
 a3 := Tryz.isAgg3
 z3 := Tryz.sizeOf3
 v3 := Tryz.zeroValue3
 t4 := Tryz.underlying4
 a4 := Tryz.isAgg4
 z4 := Tryz.sizeOf4
 v4 := Tryz.zeroValue4 }
open Go.RowKit in
theorem Tryz.cmp_isNaN_int (x : Int) (w : World) :
  Calls Tryz.prog 107 #[.int .i64 x] w fun e w' => e = .returned (.bool false) ∧ w' = w := Any.cmp_isNaN_int Tryz.lays215 x w
end Go.Proofs
namespace Go.Proofs.YtefmplccbkmalaaGreatDoor
open Go.RowKit

theorem own_form {w : World} {base : Nat} {e : TypeId} {size n : Nat} {v : Value} {xs : List Value} (h : w.ownsRow base e size v n xs) : ∃ A c, v = .slice A n c := by
 rcases h.2 with ⟨rfl, rfl⟩ | ⟨g, cap, cur, hv, _⟩
 ·exact ⟨_, _, rfl⟩
 ·exact ⟨_, _, hv⟩
end Go.Proofs.YtefmplccbkmalaaGreatDoor
namespace Go.Proofs.YtefmplccbkmalaaGreatDoor
open Go.RowKit

theorem str_index (l : List UInt8) {i : Nat} (h : i < l.length) (W : World) : (Instr.index 9 (.string (str l)) (.int .i64 i)).run Tryz.prog W = .ok (.int .u8 ((l[i]?.getD 0).toNat : Int)) W := by
 have hz : (str l).size = l.length := str_size l
 have hi : i < (str l).size := by omega
 have e : ((str l)[i]'hi) = l[i]'h := rfl
 simp [Instr.index, go_sem, hz, h, e]
def Arr (k : IntKind) (w : World) (p : Option Addr) (xs : List Int) : Prop :=
 xs = [] ∨ ∃ b o, p = some ⟨b, o, none⟩ ∧ b < w.heap.size ∧ ∀ j, j < xs.length → w.cell? ⟨b, o + j, none⟩ = some (.int k (xs[j]?.getD 0))
theorem Arr.call {k : IntKind} {w w' : World} {p : Option Addr} {xs : List Int} (h : Arr k w p xs) (hb : Below w.heap.size w w') : Arr k w' p xs := by
 rcases h with h | ⟨b, o, rfl, hl, hc⟩
 ·exact .inl h
 ·exact .inr ⟨b, o, rfl, Nat.lt_of_lt_of_le hl hb.size, fun j hj => (hb.cell (p := ⟨b, o + j, none⟩) hl).trans (hc j hj)⟩
theorem Arr.drewN {k : IntKind} {w : World} {p : Option Addr} {xs : List Int} (h : Arr k w p xs) (n : Nat) : Arr k (w.drewN n) p xs := h
theorem Arr.at {k : IntKind} {w : World} {p : Option Addr} {xs : List Int} (h : Arr k w p xs) {i : Nat} (hi : i < xs.length) :
  ∃ b o, p = some ⟨b, o, none⟩ ∧ b < w.heap.size ∧ ∀ j, j < xs.length → w.cell? ⟨b, o + j, none⟩ = some (.int k (xs[j]?.getD 0)) := by
 rcases h with h | h
 ·subst h; simp at hi
 ·exact h
def badP15 (x : Int) : Bool := !pOk x
def badO (x : Int) : Bool := !decide (x = 0) && !oOk x
theorem badP15_any (x : Int) (w : World) : Calls Tryz.prog 134 #[.int .i8 x] w fun e w' => e = .returned (.bool (badP15 x)) ∧ w = w' := by
 go_enter Tryz.func134, Tryz.ntmps134
 go_wp2_with fail
 refine (pValid_any x w).mono ?_
 rintro e w' ⟨rfl, rfl⟩
 go_wp2_with fail
 go_ret
 exact ⟨rfl, rfl⟩
theorem badO_any (x : Int) (w : World) : Calls Tryz.prog 173 #[.int .i8 x] w fun e w' => e = .returned (.bool (badO x)) ∧ w = w' := by
 go_enter Tryz.func173, Tryz.ntmps173
 by_cases h : x = 0
 ·have hb : Hid (badO x = false) := Lib.hid (by simp [badO, h])
  subst h
  go_wp2_with fail
  go_ret
  exact ⟨by rw [hb.out]; rfl, rfl⟩
 ·have hb : Hid (badO x = !oOk x) := Lib.hid (by simp [badO, h])
  go_wp2_with fail
  refine (orth_any x w).mono ?_
  rintro e w' ⟨rfl, rfl⟩
  go_wp2_with fail
  go_ret
  exact ⟨ret_bool (show (x != 0 && !oOk x) = badO x by rw [hb.out]; simp [h]), rfl⟩
set_option maxRecDepth 10000 in
theorem idxFunc_any (fn : Nat) (g : Int → Bool) (hcf : ∀ args w, (callFunc fn args).run Tryz.prog w = .ok (.enter fn args) w) (hf : ∀ x w, Calls Tryz.prog fn #[.int .i8 x] w fun e w' => e = .returned (.bool (g x)) ∧ w = w') (p : Option Addr) (c : Nat) (xs : List Int) (w : World) (hx : Arr .i8 w p xs) (hl : xs.length ≤ 1000000000) :
  Calls Tryz.prog 180 #[.slice p xs.length c, .func (.func fn) #[] #[]] w fun e w' => (∃ k : Int, e = .returned (.int .i64 k) ∧ (0 ≤ k ↔ xs.any g = true)) ∧ Below w.heap.size w w' := by
 go_enter Tryz.func180, Tryz.ntmps180
 go_wp2_with fail
 go_loopg [8] 1000000001 (fun q iv wr => ∃ i : Nat, q + i = 1000000001 ∧ i ≤ xs.length ∧ iv = .int .i64 i ∧ Below w.heap.size w wr ∧ (xs.take i).any g = false)
 case atStart => exact ⟨0, rfl, Nat.zero_le _, rfl, Below.refl _ _, rfl⟩
 case round =>
  obtain ⟨i, hq, hi, rfl, hb, ha⟩ := hrel
  replace ha := Lib.hid ha
  by_cases hlt : i < xs.length
  ·have hii : (i : Int) < xs.length := by omega
   obtain ⟨b, o, rfl, hbl, hc⟩ := (hx.call hb).at hlt
   have hci := hc i hlt
   have hget : xs[i]?.getD 0 = xs[i] := by simp [hlt]
   obtain ⟨x, hxv⟩ : ∃ x, x = xs[i]?.getD 0 := ⟨_, rfl⟩
   rw [← hxv] at hci hget
   replace hget := Lib.hid hget
   clear hc hxv
   go_wp2_with fail
   refine (hf _ _).mono ?_
   rintro e w1 ⟨rfl, rfl⟩
   rcases hbd : g x with _ | _
   ·go_wp2_with fail
    go_roundg (gk - 1)
    case measure => omega
    case rel => exact ⟨i + 1, by omega, by omega, by go_num, hb, by rw [List.take_succ_eq_append_getElem hlt, List.any_append, ha.out]; simp [← hget.out, hbd]⟩
   ·go_wp2_with fail
    go_ret
    refine ⟨⟨i, rfl, ?_⟩, hb⟩
    constructor
    ·intro _; rw [List.any_eq_true]; exact ⟨xs[i], List.getElem_mem hlt, by rw [← hget.out]; exact hbd⟩
    ·intro _; omega
  ·have hii : ¬ (i : Int) < xs.length := by omega
   go_wp2_with fail
   go_ret
   refine ⟨⟨-1, rfl, ?_⟩, hb⟩
   have ha := ha.out
   rw [List.take_of_length_le (by omega)] at ha
   constructor
   ·intro h; omega
   ·rintro ⟨x, hx1, hx2⟩
    rw [List.any_eq_false] at ha
    exact absurd hx2 (by simpa using ha x hx1)
theorem hasFunc_any (fn : Nat) (g : Int → Bool) (hcf : ∀ args w, (callFunc fn args).run Tryz.prog w = .ok (.enter fn args) w) (hf : ∀ x w, Calls Tryz.prog fn #[.int .i8 x] w fun e w' => e = .returned (.bool (g x)) ∧ w = w') (p : Option Addr) (c : Nat) (xs : List Int) (w : World) (hx : Arr .i8 w p xs) (hl : xs.length ≤ 1000000000) :
  Calls Tryz.prog 133 #[.slice p xs.length c, .func (.func fn) #[] #[]] w fun e w' => e = .returned (.bool (xs.any g)) ∧ Below w.heap.size w w' := by
 go_enter Tryz.func133, Tryz.ntmps133
 go_wp2_with fail
 refine (idxFunc_any fn g hcf hf p c xs w hx hl).mono ?_
 rintro e w1 ⟨⟨k, rfl, hk⟩, hb⟩
 replace hk := Lib.hid hk
 by_cases h : 0 ≤ k
 ·have hb2 := Lib.hid (hk.out.1 h)
  go_wp2_with fail
  go_ret
  exact ⟨by rw [hb2.out]; rfl, hb⟩
 ·have hb2 : Hid (xs.any g = false) := Lib.hid (by rcases h2 : xs.any g with _ | _; rfl; exact absurd (hk.out.2 h2) h)
  go_wp2_with fail
  go_ret
  exact ⟨ret_bool (show decide (0 ≤ k) = _ by rw [hb2.out]; simp; omega), hb⟩
def idxI (xs : List Int) (x : Int) : Int := if xs.any (· == x) then (xs.findIdx (· == x) : Nat) else -1
theorem idxI_at {xs : List Int} {x : Int} {i : Nat} (h1 : (xs.take i).any (· == x) = false) (hlt : i < xs.length) (h2 : xs[i]?.getD 0 = x) : idxI xs x = i := by
 have hg : xs[i] = x := by simpa [hlt] using h2
 have h3 : xs.any (· == x) = true := by rw [List.any_eq_true]; exact ⟨xs[i], List.getElem_mem hlt, by simp [hg]⟩
 unfold idxI
 rw [if_pos h3]
 congr 1
 rw [List.findIdx_eq hlt]
 refine ⟨by simp [hg], fun j hj => ?_⟩
 rw [List.any_eq_false] at h1
 have := h1 xs[j] (by rw [List.mem_take_iff_getElem]; exact ⟨j, by omega, rfl⟩)
 simpa using this
theorem idxI_none {xs : List Int} {x : Int} (h : xs.any (· == x) = false) : idxI xs x = -1 := by
 unfold idxI; rw [h]; rfl
theorem idxI_lt {xs : List Int} {x : Int} : -1 ≤ idxI xs x ∧ idxI xs x < xs.length := by
 unfold idxI
 split
 ·rename_i h
  rw [List.any_eq_true] at h
  have := List.findIdx_lt_length_of_exists (p := (· == x)) h
  omega
 ·omega
theorem index_any (p : Option Addr) (c : Nat) (xs : List Int) (x : Int) (w : World) (hx : Arr .i8 w p xs) (hl : xs.length ≤ 1000000000) :
  Calls Tryz.prog 181 #[.slice p xs.length c, .int .i8 x] w fun e w' => e = .returned (.int .i64 (idxI xs x)) ∧ Below w.heap.size w w' := by
 go_enter Tryz.func181, Tryz.ntmps181
 go_wp2_with fail
 go_loopg [8] 1000000001 (fun q iv wr => ∃ i : Nat, q + i = 1000000001 ∧ i ≤ xs.length ∧ iv = .int .i64 i ∧ Below w.heap.size w wr ∧ (xs.take i).any (· == x) = false)
 case atStart => exact ⟨0, rfl, Nat.zero_le _, rfl, Below.refl _ _, rfl⟩
 case round =>
  obtain ⟨i, hq, hi, rfl, hb, ha⟩ := hrel
  replace ha := Lib.hid ha
  by_cases hlt : i < xs.length
  ·have hii : (i : Int) < xs.length := by omega
   obtain ⟨b, o, rfl, hbl, hc⟩ := (hx.call hb).at hlt
   have hci := hc i hlt
   have hget : xs[i]?.getD 0 = xs[i] := by simp [hlt]
   obtain ⟨y, hxv⟩ : ∃ y, y = xs[i]?.getD 0 := ⟨_, rfl⟩
   rw [← hxv] at hci hget
   replace hget := Lib.hid hget
   replace hxv := Lib.hid hxv
   clear hc
   by_cases hyx : x = y
   ·have e1 : Hid (idxI xs x = i) := Lib.hid (idxI_at ha.out hlt (by rw [← hxv.out]; exact hyx.symm))
    subst hyx
    go_wp2_with fail
    go_ret
    exact ⟨by rw [e1.out]; rfl, hb⟩
   ·go_wp2_with fail
    go_roundg (gk - 1)
    case measure => omega
    case rel => exact ⟨i + 1, by omega, by omega, by go_num, hb, by rw [List.take_succ_eq_append_getElem hlt, List.any_append, ha.out]; simp [← hget.out]; exact fun h => hyx h.symm⟩
  ·have hii : ¬ (i : Int) < xs.length := by omega
   have e1 : Hid (idxI xs x = -1) := Lib.hid (idxI_none (by have ha := ha.out; rwa [List.take_of_length_le (by omega)] at ha))
   go_wp2_with fail
   go_ret
   exact ⟨by rw [e1.out]; rfl, hb⟩
theorem contains_any (p : Option Addr) (c : Nat) (xs : List Int) (x : Int) (w : World) (hx : Arr .i8 w p xs) (hl : xs.length ≤ 1000000000) :
  Calls Tryz.prog 137 #[.slice p xs.length c, .int .i8 x] w fun e w' => e = .returned (.bool (xs.any (· == x))) ∧ Below w.heap.size w w' := by
 go_enter Tryz.func137, Tryz.ntmps137
 go_wp2_with fail
 refine (index_any p c xs x w hx hl).mono ?_
 rintro e w1 ⟨rfl, hb⟩
 have e1 : Hid (decide (0 ≤ idxI xs x) = xs.any (· == x)) := Lib.hid (by
  unfold idxI
  rcases h : xs.any (· == x) with _ | _ <;> simp)
 go_wp2_with fail
 go_ret
 exact ⟨ret_bool e1.out, hb⟩
abbrev bdCs (f r : Int) (p : Option Addr) (n c : Nat) : List Value := [.int .i64 f, .int .i64 r, .slice p n c]
def orB (x : Int) : Bool := decide (-6 ≤ x) && decide (x ≤ 6)
def boardB (f r : Int) (xs : List Int) : Bool := sizeB f r && (decide ((xs.length : Int) = f * r) && xs.all pOk)
def orthB (f r : Int) (xs : List Int) : Bool := boardB f r xs && xs.all orB
theorem boardB_false {f r : Int} {xs : List Int} (h : sizeB f r = false) : boardB f r xs = false := by simp [boardB, h]
theorem boardB_len {f r : Int} {xs : List Int} (h : (xs.length : Int) ≠ f * r) : boardB f r xs = false := by simp [boardB, h]
theorem boardB_bad {f r : Int} {xs : List Int} {i : Nat} (hi : i < xs.length) {x : Int} (hx : xs[i] = x) (h : pOk x = false) : boardB f r xs = false := by
 have : xs.all pOk = false := by rw [List.all_eq_false]; exact ⟨x, by rw [← hx]; exact List.getElem_mem hi, by simp [h]⟩
 simp [boardB, this]
theorem boardB_fact {f r : Int} {xs : List Int} (h : boardB f r xs = true) : sizeB f r = true ∧ (xs.length : Int) = f * r ∧ ∀ x ∈ xs, pOk x = true := by
 simp only [boardB, Bool.and_eq_true, decide_eq_true_eq, List.all_eq_true] at h
 exact ⟨h.1, h.2.1, h.2.2⟩
theorem boardB_of {f r : Int} {xs : List Int} (h1 : sizeB f r = true) (h2 : (xs.length : Int) = f * r) (h3 : xs.all pOk = true) : boardB f r xs = true := by
 simp [boardB, h1, h2, h3]
theorem orthB_bad {f r : Int} {xs : List Int} {i : Nat} (hi : i < xs.length) {x : Int} (hx : xs[i] = x) (h : orB x = false) : orthB f r xs = false := by
 have : xs.all orB = false := by rw [List.all_eq_false]; exact ⟨x, by rw [← hx]; exact List.getElem_mem hi, by simp [h]⟩
 simp [orthB, this]
theorem orB_iff (x : Int) : orB x = (decide (x = 0) || oOk x) := by
 by_cases h : x = 0
 ·subst h; rfl
 ·simp [orB, oOk, h]
theorem badO_or (x : Int) : badO x = !orB x := by
 rw [orB_iff]; simp [badO]
theorem take_all {xs : List Int} {g : Int → Bool} {i : Nat} (hlt : i < xs.length) (h : (xs.take i).all g = true) {x : Int} (hx : xs[i] = x) (hg : g x = true) : (xs.take (i + 1)).all g = true := by
 rw [List.take_succ_eq_append_getElem hlt, List.all_append, h]; simp [hx, hg]

theorem refBoard_any (f r : Int) (p : Option Addr) (c : Nat) (xs : List Int) (w : World) (hx : Arr .i8 w p xs) :
  Calls Tryz.prog 96 #[.agg (bdCs f r p xs.length c).toArray] w fun e w' => e = .returned (.bool (boardB f r xs)) ∧ Below w.heap.size w w' := by
 have hb := below_box w (.cells (bdCs f r p xs.length c).toArray 68)
 have hA := HasO.new w (.cells (bdCs f r p xs.length c).toArray 68)
 go_enter Tryz.func96, Tryz.ntmps96
 go_wp2_with fail
 refine (size_any f r _).mono ?_
 rintro e w1 ⟨rfl, hb1⟩
 have hb' := below_call hb hb.size hb1
 have hA1 := hA.call hb1
 have hc1 := hA1.cells
 have hl1 := hA1.lt
 rcases hs : sizeB f r with _ | _
 ·have e0 := Lib.hid (boardB_false (xs := xs) hs)
  go_wp2_with fail
  go_ret
  exact ⟨by rw [e0.out]; rfl, hb'⟩
 ·have hm := size_mul hs
  have e1 : wrap64 (f * r) = f * r := IntWalk.wrap64_in _ (by omega)
  by_cases hlen : (xs.length : Int) = f * r
  ·have hlen64 : xs.length ≤ 64 := by omega
   have hx1 := hx.call hb'
   have hb2 : (((xs.length : Int)) != f * r) = false := by rw [hlen]; simp
   replace hs := Lib.hid hs
   clear hb1 hA hb hx
   replace hlen := Lib.hid hlen
   go_wp2_with fail
   clear hc1
   go_loopg [3] 65 (fun q iv wr => ∃ i : Nat, q + i = 65 ∧ i ≤ xs.length ∧ iv = .int .i64 i ∧ Below w1.heap.size w1 wr ∧ (xs.take i).all pOk = true)
   case atStart => exact ⟨0, rfl, Nat.zero_le _, rfl, Below.refl _ _, rfl⟩
   case round =>
    obtain ⟨i, hq, hi, rfl, hbr, ha⟩ := hrel
    replace ha := Lib.hid ha
    have hcr := (hA1.call hbr).cells
    have hlr := (hA1.call hbr).lt
    have hbr' := below_call hb' hb'.size hbr
    by_cases hlt : i < xs.length
    ·have hii : (i : Int) < xs.length := by omega
     obtain ⟨b, o, rfl, hbl, hc⟩ := (hx1.call hbr).at hlt
     have hci := hc i hlt
     have hget : xs[i]?.getD 0 = xs[i] := by simp [hlt]
     obtain ⟨x, hxv⟩ : ∃ x, x = xs[i]?.getD 0 := ⟨_, rfl⟩
     rw [← hxv] at hci hget
     replace hget := Lib.hid hget
     clear hc hxv
     go_wp2_with fail
     refine (refPValid_any _ _).mono ?_
     rintro e w2 ⟨rfl, rfl⟩
     rcases hbd : pOk x with _ | _
     ·have e0 := Lib.hid (boardB_bad (f := f) (r := r) hlt hget.out.symm hbd)
      go_wp2_with fail
      go_ret
      exact ⟨by rw [e0.out]; rfl, hbr'⟩
     ·go_wp2_with fail
      go_roundg (gk - 1)
      case measure => omega
      case rel => exact ⟨i + 1, by omega, by omega, by go_num, hbr, take_all hlt ha.out hget.out.symm hbd⟩
    ·have hii : ¬ (i : Int) < xs.length := by omega
     have e0 := Lib.hid (boardB_of hs.out hlen.out (by have ha := ha.out; rwa [List.take_of_length_le (by omega)] at ha))
     go_wp2_with fail
     go_ret
     exact ⟨by rw [e0.out]; rfl, hbr'⟩
  ·have e0 := Lib.hid (boardB_len hlen)
   have hb2 : (((xs.length : Int)) != f * r) = true := by simp [hlen]
   replace hs := Lib.hid hs
   clear hb1 hA hb hx
   go_wp2_with fail
   go_ret
   exact ⟨by rw [e0.out]; rfl, hb'⟩
theorem refOrthB_any (f r : Int) (p : Option Addr) (c : Nat) (xs : List Int) (w : World) (hx : Arr .i8 w p xs) :
  Calls Tryz.prog 36 #[.agg (bdCs f r p xs.length c).toArray] w fun e w' => e = .returned (.bool (orthB f r xs)) ∧ Below w.heap.size w w' := by
 have hb := below_box w (.cells (bdCs f r p xs.length c).toArray 68)
 have hA := HasO.new w (.cells (bdCs f r p xs.length c).toArray 68)
 have hc0 := hA.cells
 have hl0 := hA.lt
 go_enter Tryz.func36, Tryz.ntmps36
 go_wp2_with fail
 refine (refBoard_any f r p c xs _ (hx.call hb)).mono ?_
 rintro e w1 ⟨rfl, hb1⟩
 have hb' := below_call hb hb.size hb1
 have hA1 := hA.call hb1
 rcases hs : boardB f r xs with _ | _
 ·have e0 : Hid (orthB f r xs = false) := Lib.hid (by simp [orthB, hs])
  go_wp2_with fail
  go_ret
  exact ⟨by rw [e0.out]; rfl, hb'⟩
 ·obtain ⟨hs1, hlen, hall⟩ := boardB_fact hs
  have hm := size_mul hs1
  have hlen64 : xs.length ≤ 64 := by omega
  have hx1 := hx.call hb'
  clear hb1 hA hb hx hc0 hl0 hs1 hlen hm hall
  go_wp2_with fail
  go_loopg [3] 65 (fun q iv wr => ∃ i : Nat, q + i = 65 ∧ i ≤ xs.length ∧ iv = .int .i64 i ∧ Below w1.heap.size w1 wr ∧ (xs.take i).all orB = true)
  case atStart => exact ⟨0, rfl, Nat.zero_le _, rfl, Below.refl _ _, rfl⟩
  case round =>
   obtain ⟨i, hq, hi, rfl, hbr, ha⟩ := hrel
   replace ha := Lib.hid ha
   have hcr := (hA1.call hbr).cells
   have hlr := (hA1.call hbr).lt
   have hbr' := below_call hb' hb'.size hbr
   by_cases hlt : i < xs.length
   ·have hii : (i : Int) < xs.length := by omega
    obtain ⟨b, o, rfl, hbl, hc⟩ := (hx1.call hbr).at hlt
    have hci := hc i hlt
    have hget : xs[i]?.getD 0 = xs[i] := by simp [hlt]
    obtain ⟨x, hxv⟩ : ∃ x, x = xs[i]?.getD 0 := ⟨_, rfl⟩
    rw [← hxv] at hci hget
    replace hget := Lib.hid hget
    clear hc hxv
    by_cases h0 : x = 0
    ·have ht := Lib.hid (take_all hlt ha.out hget.out.symm (show orB x = true by subst h0; rfl))
     have h00 : (x != 0) = false := by simp [h0]
     go_wp2_with fail
     go_roundg (gk - 1)
     case measure => omega
     case rel => exact ⟨i + 1, by omega, by omega, by go_num, hbr, ht.out⟩
    ·have h00 : (x != 0) = true := by simp [h0]
     go_wp2_with fail
     refine (refOrth_any _ _).mono ?_
     rintro e w2 ⟨rfl, rfl⟩
     rcases hbd : oOk x with _ | _
     ·have e0 := Lib.hid (orthB_bad (f := f) (r := r) hlt hget.out.symm (by rw [orB_iff, hbd]; simp [h0]))
      go_wp2_with fail
      go_ret
      exact ⟨by rw [e0.out]; rfl, hbr'⟩
     ·have ht := Lib.hid (take_all hlt ha.out hget.out.symm (show orB x = true by rw [orB_iff, hbd]; simp))
      go_wp2_with fail
      go_roundg (gk - 1)
      case measure => omega
      case rel => exact ⟨i + 1, by omega, by omega, by go_num, hbr, ht.out⟩
   ·have hii : ¬ (i : Int) < xs.length := by omega
    have e0 : Hid (orthB f r xs = true) := Lib.hid (by have ha := ha.out; rw [List.take_of_length_le (by omega)] at ha; simp [orthB, hs, ha])
    go_wp2_with fail
    go_ret
    exact ⟨by rw [e0.out]; rfl, hbr'⟩
theorem wp_region_relL {P : Program} {id : Nat} {ops : Array Oper} {Q : Exit → Act → World → Prop} {a : Act} {w : World} (hm : P.follows .mixedOrders = true) (hb : edgesBack .any ops = true)
  (ds : List (Option Tmp)) (hds : ops.toList.map (·.dst) = ds) (hok : dstsOk ds = true)
  (R : (Nat → Bool) → (Nat → Value) → World → Prop) (hcong : ∀ S S' f w, (∀ i, i < ops.size → S i = S' i) → R S f w → R S' f w) (h0 : ∀ f, R (fun _ => false) f w.drew)
  (hstep : ∀ S i o f w, ops[i]? = some o → i < ops.size → S i = false → (∀ e ∈ o.after, Region.binds .any e = true → S e.on = true) →
   (∀ j o', S j = true → ops[j]? = some o' → ∀ e ∈ o'.after, Region.binds .any e = true → S e.on = true) → R S f w →
   ∀ K : Act → World → Prop, (∀ u w', R (upd S i) (fun j => if j = i then u else f j) w' → K ((putL ds f 0 a).put o.dst u) w') →
   if Region.wanted o (yielded ops (putL ds f 0 a).tmps) = true then o.wp P (putL ds f 0 a) w K Q else K ((putL ds f 0 a).put o.dst undef) w)
  (hend : ∀ S f w, (∀ i, i < ops.size → S i = true) → R S f w → Q .normal (putL ds f 0 a) w) : (Code.region id ops true).wp P Q a w := by
 refine wp_region_inv hm hb (fun S a' w => ∃ f, a' = putL ds f 0 a ∧ R S f w ∧
  (∀ j o', S j = true → ops[j]? = some o' → ∀ e ∈ o'.after, Region.binds .any e = true → S e.on = true)) ?_ ⟨tmps0 ds a, (putL_self _ _ _ _ (fun i t h => by simp [tmps0, h]) hok).symm, h0 _, fun j o' h => (by cases h)⟩ ?_ ?_
 ·rintro S S' a' w hS ⟨f, h1, h2, h4⟩
  refine ⟨f, h1, hcong _ _ _ _ hS h2, fun j o' hj ho e he hbd => ?_⟩
  have hj2 : j < ops.size := (Array.getElem?_eq_some_iff.1 ho).1
  have hb' := hb
  unfold edgesBack at hb'
  rw [List.all_eq_true] at hb'
  have h := hb' j (List.mem_range.2 hj2)
  rw [ho] at h
  simp only [Option.map_some, Option.getD_some] at h
  rw [Array.all_eq_true] at h
  obtain ⟨k, hk, rfl⟩ := Array.getElem_of_mem he
  have h5 := h k hk
  rw [hbd] at h5
  simp only [Bool.not_true, Bool.false_or, decide_eq_true_eq] at h5
  rw [← hS _ (by omega)]
  exact h4 j o' (by rw [hS _ hj2]; exact hj) ho _ he hbd
 ·rintro S a' w i hi hSi hpre ⟨f, rfl, hR, hcl⟩
  refine hstep S i _ f w (Array.getElem?_eq_getElem hi) hi hSi hpre hcl hR _ ?_
  intro u w' hR'
  refine ⟨_, by have := putL_at ds hok f 0 a i _ (dst_at hds hi) u; rw [Nat.zero_add] at this; exact this, hR', fun j o' hj ho e he hbd => ?_⟩
  unfold upd at hj ⊢
  by_cases e2 : e.on = i
  ·simp [e2]
  ·simp only [e2, if_false]
   by_cases e3 : j = i
   ·subst e3
    have : o' = ops[j] := by rw [Array.getElem?_eq_getElem hi] at ho; exact (Option.some.inj ho).symm
    subst this
    exact hpre e he hbd
   ·simp only [e3, if_false] at hj
    exact hcl j o' hj ho e he hbd
 ·rintro S a' w hS ⟨f, rfl, hR, _⟩
  exact hend S f w hS hR

structure Put2 (q : Nat) (v : Value) (w w' : World) : Prop where
 os : w'.os = w.os
 tape : w'.tape = w.tape
 output : w'.output = w.output
 size : w.heap.size ≤ w'.heap.size
 block : ∀ k, k < w.heap.size → k ≠ q → v.ownBlock ≠ some k → w'.heap[k]? = w.heap[k]?
theorem Put2.refl (q : Nat) (v : Value) (w : World) : Put2 q v w w := ⟨rfl, rfl, rfl, Nat.le_refl _, fun _ _ _ _ => rfl⟩
def Near (w : World) (v v' : Value) : Prop := ∀ k, v'.ownBlock = some k → v.ownBlock = some k ∨ w.heap.size ≤ k
theorem Near.refl (w : World) (v : Value) : Near w v v := fun _ h => .inl h
theorem Near.trans {w w' : World} {v v' v'' : Value} (h : Near w v v') (h2 : Near w' v' v'') (hs : w.heap.size ≤ w'.heap.size) : Near w v v'' := by
 intro k hk
 rcases h2 k hk with h3 | h3
 ·exact h k h3
 ·exact .inr (Nat.le_trans hs h3)
theorem Put2.trans {q : Nat} {v v' : Value} {w w' w'' : World} (h : Put2 q v w w') (hn : Near w v v') (h2 : Put2 q v' w' w'') : Put2 q v w w'' :=
 ⟨h2.os.trans h.os, h2.tape.trans h.tape, h2.output.trans h.output, Nat.le_trans h.size h2.size, fun k hk hq hv => (h2.block k (Nat.lt_of_lt_of_le hk h.size) hq (fun e => by
  rcases hn k e with h3 | h3
  ·exact hv h3
  ·omega)).trans (h.block k hk hq hv)⟩
theorem Put2.hasO {q k : Nat} {v : Value} {w w' : World} {o : Obj} (h : Put2 q v w w') (ho : HasO w k o) (hq : k ≠ q) (hv : v.ownBlock ≠ some k) : HasO w' k o := (h.block k ho.lt hq hv).trans ho
theorem Put2.below {q B : Nat} {v : Value} {w0 w w' : World} (h : Put2 q v w w') (hb : Below B w0 w) (hB : B ≤ w.heap.size) (hq : B ≤ q) (hv : ∀ k, v.ownBlock = some k → B ≤ k) : Below B w0 w' :=
 hb.trans ⟨h.os, h.tape, h.output, h.size, fun k hk => h.block k (by omega) (by omega) (fun e => by have := hv k e; omega)⟩
theorem Put2.drewN {q : Nat} {v : Value} {w w' : World} (h : Put2 q v w w') (n : Nat) : Put2 q v w (w'.drewN n) := ⟨h.os, h.tape, h.output, h.size, h.block⟩
theorem Put2.drew {q : Nat} {v : Value} {w w' : World} (h : Put2 q v w w') : Put2 q v w w'.drew := ⟨h.os, h.tape, h.output, h.size, h.block⟩
theorem Put2.setCell {q : Nat} {v : Value} {w w' : World} (h : Put2 q v w w') (i : Nat) (u : Value) : Put2 q v w (w'.setCell ⟨q, i, none⟩ u) :=
 ⟨h.os, h.tape, h.output, by simp [World.setCell]; exact h.size, fun k hk hq hv => (Below.heap_setCell w' ⟨q, i, none⟩ u k (fun e => hq e)).trans (h.block k hk hq hv)⟩
theorem Put2.alloc {q : Nat} {v : Value} {w w' : World} (h : Put2 q v w w') (o : Obj) : Put2 q v w (w'.alloc o) :=
 ⟨h.os, h.tape, h.output, Nat.le_trans h.size (by simp), fun k hk hq hv => (Below.heap_alloc w' o k (Nat.lt_of_lt_of_le hk h.size)).trans (h.block k hk hq hv)⟩
theorem Put2.grown {q : Nat} {v v' : Value} {w w' w'' : World} (h : Put2 q v w w') (hn : Near w v v') (hg : w'.grownBy w'' v'.ownBlock) : Put2 q v w w'' :=
 h.trans hn ⟨hg.os, hg.tape, hg.output, hg.size, fun k hk _ hv => hg.block k hk (fun e => hv e.symm)⟩

theorem wpList_push_at {P : Program} {W : World} {ops : Array Oper} {rest : List Oper} {o : Oper} {a : Act} {Q : Exit → Act → World → Prop} (hgd : o.guard = none) (s x : Operand) (t : TypeId)
  (ho : o.op = .call { callee := .builtin .append, args := #[s, x], argTypes := #[t, t] })
  (base : Nat) (e : TypeId) (i : TypeInfo) (z : Value) (bytes : Nat) (ht : P.underlying t = some (.slice e)) (hi : P.info? e = some i) (hz : i.zero = some z)
  (hsize : i.size = 1) (hby : i.bytes = bytes) (hzs : z.cells.size = 1)
  (v : Value) (n : Nat) (xs : List Value) (hs : a.eval s = v) (hown : W.ownsRow base e 1 v n xs)
  (m : Nat) (news : List Value) (hl : news.length = m) (h1 : ∀ u ∈ news, u.oneCell' = true) (q : Nat) (hq : q = W.heap.size) (hx : a.eval x = .slice (some ⟨q, 0, none⟩) m m)
  (hbytes : (n + m) * (bytes + 1) ≤ 140737488355328) (hbase : base ≤ W.heap.size)
  (h : ∀ v' w', w'.ownsRow base e 1 v' (n + m) (xs ++ news) → (W.alloc (.cells news.toArray e)).grownBy w' v.ownBlock → Near W v v' → wpList P ops Q rest (a.put o.dst v') w') :
  wpList P ops Q (o :: rest) a (W.alloc (.cells news.toArray e)) := by
 subst hq
 have hb1 : (n + m) * bytes ≤ 140737488355328 := Nat.le_trans (Nat.mul_le_mul_left _ (by omega)) hbytes
 have hb2 : n + m ≤ maxLen := by
  have : (n + m) * 1 ≤ (n + m) * (bytes + 1) := Nat.mul_le_mul_left _ (by omega)
  unfold maxLen; omega
 refine wpList_append_own_at _ hgd s x t ho base e i z 1 bytes ht hi hz hsize hby hzs (by decide) v n xs hs (hown.alloc _) ⟨W.heap.size, 0, none⟩ m m news hx (by omega) ?_ h1 hb2 hb1 (by simp; omega) ?_
 ·intro j u hu
  rw [Addr.add_lit]
  have := (HasO.new W (.cells news.toArray e)).cells j
  rw [Nat.zero_add, this]
  simpa using hu
 ·intro v' w' ho' hg _ hloc
  refine h v' w' ho' hg (fun k hk => ?_)
  rcases hloc with e2 | e2
  ·rw [e2] at hk; exact .inl hk
  ·rw [e2] at hk
   injection hk with hk
   simp at hk
   right; omega
theorem own_new (W : World) (base : Nat) (e : TypeId) (vs : List Value) (hb : base ≤ W.heap.size) (hl : vs.length ≤ maxLen) :
  (W.alloc (.cells vs.toArray e)).ownsRow base e 1 (.slice (some ⟨W.heap.size, 0, none⟩) vs.length vs.length) vs.length vs := by
 refine ⟨by omega, .inr ⟨W.heap.size, vs.length, vs.toArray, rfl, hb, HasO.new _ _, Nat.le_refl _, hl, by simp, by simp⟩⟩

end Go.Proofs.YtefmplccbkmalaaGreatDoor
