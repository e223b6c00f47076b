import Derived.Test.YtddkhnnpeonbgaaGreatDoorH03
import Derived.Test.YtddkhnnpeonbgaaGreatDoorH05
import Derived.Test.YtddkhnnpeonbgaaGreatDoorH11
import Derived.Laws.StructEq
import Derived.ChangeKeysEq
namespace Go.Proofs.YtddkhnnpeonbgaaGreatDoor
open Go.RowKit

def badP15 (x : Int) : Bool := !pOk x
def badO (x : Int) : Bool := !decide (x = 0) && !oOk x
theorem badP15_any (x : Int) (w : World) : Calls Tryz.prog 98 #[.int .i8 x] w fun e w' => e = .returned (.bool (badP15 x)) ∧ w = w' := by
 go_enter Tryz.func98, Tryz.ntmps98
 go_wp2_with fail
 refine (pValid_any x w).mono ?_
 rintro e w' ⟨rfl, rfl⟩
 go_wp2_with fail
 go_ret
 exact ⟨rfl, rfl⟩
theorem badO_any (x : Int) (w : World) : Calls Tryz.prog 143 #[.int .i8 x] w fun e w' => e = .returned (.bool (badO x)) ∧ w = w' := by
 go_enter Tryz.func143, Tryz.ntmps143
 by_cases h : x = 0
 ·have hb : Hid (badO x = false) := Lib.hid (by simp [badO, h])
  subst h
  go_wp2_with fail
  go_ret
  exact ⟨by rw [hb.out]; rfl, rfl⟩
 ·have hb : Hid (badO x = !oOk x) := Lib.hid (by simp [badO, h])
  go_wp2_with fail
  refine (orth_any x w).mono ?_
  rintro e w' ⟨rfl, rfl⟩
  go_wp2_with fail
  go_ret
  exact ⟨ret_bool (show (x != 0 && !oOk x) = badO x by rw [hb.out]; simp [h]), rfl⟩
set_option maxRecDepth 10000 in
theorem idxFunc_any (fn : Nat) (g : Int → Bool) (hcf : ∀ args w, (callFunc fn args).run Tryz.prog w = .ok (.enter fn args) w) (hf : ∀ x w, Calls Tryz.prog fn #[.int .i8 x] w fun e w' => e = .returned (.bool (g x)) ∧ w = w') (p : Option Addr) (c : Nat) (xs : List Int) (w : World) (hx : Arr .i8 w p xs) (hl : xs.length ≤ 1000000000) :
  Calls Tryz.prog 122 #[.slice p xs.length c, .func (.func fn) #[] #[]] w fun e w' => (∃ k : Int, e = .returned (.int .i64 k) ∧ (0 ≤ k ↔ xs.any g = true)) ∧ Below w.heap.size w w' := by
 go_enter Tryz.func122, Tryz.ntmps122
 go_wp2_with fail
 go_loopg [8] 1000000001 (fun q iv wr => ∃ i : Nat, q + i = 1000000001 ∧ i ≤ xs.length ∧ iv = .int .i64 i ∧ Below w.heap.size w wr ∧ (xs.take i).any g = false)
 case atStart => exact ⟨0, rfl, Nat.zero_le _, rfl, Below.refl _ _, rfl⟩
 case round =>
  obtain ⟨i, hq, hi, rfl, hb, ha⟩ := hrel
  replace ha := Lib.hid ha
  by_cases hlt : i < xs.length
  ·have hii : (i : Int) < xs.length := by omega
   obtain ⟨b, o, rfl, hbl, hc⟩ := (hx.call hb).at hlt
   have hci := hc i hlt
   have hget : xs[i]?.getD 0 = xs[i] := by simp [hlt]
   obtain ⟨x, hxv⟩ : ∃ x, x = xs[i]?.getD 0 := ⟨_, rfl⟩
   rw [← hxv] at hci hget
   replace hget := Lib.hid hget
   clear hc hxv
   go_wp2_with fail
   refine (hf _ _).mono ?_
   rintro e w1 ⟨rfl, rfl⟩
   rcases hbd : g x with _ | _
   ·go_wp2_with fail
    go_roundg (gk - 1)
    case measure => omega
    case rel => exact ⟨i + 1, by omega, by omega, by go_num, hb, by rw [List.take_succ_eq_append_getElem hlt, List.any_append, ha.out]; simp [← hget.out, hbd]⟩
   ·go_wp2_with fail
    go_ret
    refine ⟨⟨i, rfl, ?_⟩, hb⟩
    constructor
    ·intro _; rw [List.any_eq_true]; exact ⟨xs[i], List.getElem_mem hlt, by rw [← hget.out]; exact hbd⟩
    ·intro _; omega
  ·have hii : ¬ (i : Int) < xs.length := by omega
   go_wp2_with fail
   go_ret
   refine ⟨⟨-1, rfl, ?_⟩, hb⟩
   have ha := ha.out
   rw [List.take_of_length_le (by omega)] at ha
   constructor
   ·intro h; omega
   ·rintro ⟨x, hx1, hx2⟩
    rw [List.any_eq_false] at ha
    exact absurd hx2 (by simpa using ha x hx1)
theorem hasFunc_any (fn : Nat) (g : Int → Bool) (hcf : ∀ args w, (callFunc fn args).run Tryz.prog w = .ok (.enter fn args) w) (hf : ∀ x w, Calls Tryz.prog fn #[.int .i8 x] w fun e w' => e = .returned (.bool (g x)) ∧ w = w') (p : Option Addr) (c : Nat) (xs : List Int) (w : World) (hx : Arr .i8 w p xs) (hl : xs.length ≤ 1000000000) :
  Calls Tryz.prog 97 #[.slice p xs.length c, .func (.func fn) #[] #[]] w fun e w' => e = .returned (.bool (xs.any g)) ∧ Below w.heap.size w w' := by
 go_enter Tryz.func97, Tryz.ntmps97
 go_wp2_with fail
 refine (idxFunc_any fn g hcf hf p c xs w hx hl).mono ?_
 rintro e w1 ⟨⟨k, rfl, hk⟩, hb⟩
 replace hk := Lib.hid hk
 by_cases h : 0 ≤ k
 ·have hb2 := Lib.hid (hk.out.1 h)
  go_wp2_with fail
  go_ret
  exact ⟨by rw [hb2.out]; rfl, hb⟩
 ·have hb2 : Hid (xs.any g = false) := Lib.hid (by rcases h2 : xs.any g with _ | _; rfl; exact absurd (hk.out.2 h2) h)
  go_wp2_with fail
  go_ret
  exact ⟨ret_bool (show decide (0 ≤ k) = _ by rw [hb2.out]; simp; omega), hb⟩
def idxI (xs : List Int) (x : Int) : Int := if xs.any (· == x) then (xs.findIdx (· == x) : Nat) else -1
theorem idxI_at {xs : List Int} {x : Int} {i : Nat} (h1 : (xs.take i).any (· == x) = false) (hlt : i < xs.length) (h2 : xs[i]?.getD 0 = x) : idxI xs x = i := by
 have hg : xs[i] = x := by simpa [hlt] using h2
 have h3 : xs.any (· == x) = true := by rw [List.any_eq_true]; exact ⟨xs[i], List.getElem_mem hlt, by simp [hg]⟩
 unfold idxI
 rw [if_pos h3]
 congr 1
 rw [List.findIdx_eq hlt]
 refine ⟨by simp [hg], fun j hj => ?_⟩
 rw [List.any_eq_false] at h1
 have := h1 xs[j] (by rw [List.mem_take_iff_getElem]; exact ⟨j, by omega, rfl⟩)
 simpa using this
theorem idxI_none {xs : List Int} {x : Int} (h : xs.any (· == x) = false) : idxI xs x = -1 := by
 unfold idxI; rw [h]; rfl
theorem idxI_lt {xs : List Int} {x : Int} : -1 ≤ idxI xs x ∧ idxI xs x < xs.length := by
 unfold idxI
 split
 ·rename_i h
  rw [List.any_eq_true] at h
  have := List.findIdx_lt_length_of_exists (p := (· == x)) h
  omega
 ·omega
theorem index_any (p : Option Addr) (c : Nat) (xs : List Int) (x : Int) (w : World) (hx : Arr .i8 w p xs) (hl : xs.length ≤ 1000000000) :
  Calls Tryz.prog 65 #[.slice p xs.length c, .int .i8 x] w fun e w' => e = .returned (.int .i64 (idxI xs x)) ∧ Below w.heap.size w w' := by
 go_enter Tryz.func65, Tryz.ntmps65
 go_wp2_with fail
 go_loopg [8] 1000000001 (fun q iv wr => ∃ i : Nat, q + i = 1000000001 ∧ i ≤ xs.length ∧ iv = .int .i64 i ∧ Below w.heap.size w wr ∧ (xs.take i).any (· == x) = false)
 case atStart => exact ⟨0, rfl, Nat.zero_le _, rfl, Below.refl _ _, rfl⟩
 case round =>
  obtain ⟨i, hq, hi, rfl, hb, ha⟩ := hrel
  replace ha := Lib.hid ha
  by_cases hlt : i < xs.length
  ·have hii : (i : Int) < xs.length := by omega
   obtain ⟨b, o, rfl, hbl, hc⟩ := (hx.call hb).at hlt
   have hci := hc i hlt
   have hget : xs[i]?.getD 0 = xs[i] := by simp [hlt]
   obtain ⟨y, hxv⟩ : ∃ y, y = xs[i]?.getD 0 := ⟨_, rfl⟩
   rw [← hxv] at hci hget
   replace hget := Lib.hid hget
   replace hxv := Lib.hid hxv
   clear hc
   by_cases hyx : x = y
   ·have e1 : Hid (idxI xs x = i) := Lib.hid (idxI_at ha.out hlt (by rw [← hxv.out]; exact hyx.symm))
    subst hyx
    go_wp2_with fail
    go_ret
    exact ⟨by rw [e1.out]; rfl, hb⟩
   ·go_wp2_with fail
    go_roundg (gk - 1)
    case measure => omega
    case rel => exact ⟨i + 1, by omega, by omega, by go_num, hb, by rw [List.take_succ_eq_append_getElem hlt, List.any_append, ha.out]; simp [← hget.out]; exact fun h => hyx h.symm⟩
  ·have hii : ¬ (i : Int) < xs.length := by omega
   have e1 : Hid (idxI xs x = -1) := Lib.hid (idxI_none (by have ha := ha.out; rwa [List.take_of_length_le (by omega)] at ha))
   go_wp2_with fail
   go_ret
   exact ⟨by rw [e1.out]; rfl, hb⟩
theorem contains_any (p : Option Addr) (c : Nat) (xs : List Int) (x : Int) (w : World) (hx : Arr .i8 w p xs) (hl : xs.length ≤ 1000000000) :
  Calls Tryz.prog 102 #[.slice p xs.length c, .int .i8 x] w fun e w' => e = .returned (.bool (xs.any (· == x))) ∧ Below w.heap.size w w' := by
 go_enter Tryz.func102, Tryz.ntmps102
 go_wp2_with fail
 refine (index_any p c xs x w hx hl).mono ?_
 rintro e w1 ⟨rfl, hb⟩
 have e1 : Hid (decide (0 ≤ idxI xs x) = xs.any (· == x)) := Lib.hid (by
  unfold idxI
  rcases h : xs.any (· == x) with _ | _ <;> simp)
 go_wp2_with fail
 go_ret
 exact ⟨ret_bool e1.out, hb⟩
end Go.Proofs.YtddkhnnpeonbgaaGreatDoor
namespace Go.Proofs.YtddkhnnpeonbgaaGreatDoor
open Go.RowKit

abbrev bdCs (f r : Int) (p : Option Addr) (n c : Nat) : List Value := [.int .i64 f, .int .i64 r, .slice p n c]
def orB (x : Int) : Bool := decide (-6 ≤ x) && decide (x ≤ 6)
def boardB (f r : Int) (xs : List Int) : Bool := sizeB f r && (decide ((xs.length : Int) = f * r) && xs.all pOk)
def orthB (f r : Int) (xs : List Int) : Bool := boardB f r xs && xs.all orB
theorem boardB_false {f r : Int} {xs : List Int} (h : sizeB f r = false) : boardB f r xs = false := by simp [boardB, h]
theorem boardB_len {f r : Int} {xs : List Int} (h : (xs.length : Int) ≠ f * r) : boardB f r xs = false := by simp [boardB, h]
theorem boardB_bad {f r : Int} {xs : List Int} {i : Nat} (hi : i < xs.length) {x : Int} (hx : xs[i] = x) (h : pOk x = false) : boardB f r xs = false := by
 have : xs.all pOk = false := by rw [List.all_eq_false]; exact ⟨x, by rw [← hx]; exact List.getElem_mem hi, by simp [h]⟩
 simp [boardB, this]
theorem boardB_fact {f r : Int} {xs : List Int} (h : boardB f r xs = true) : sizeB f r = true ∧ (xs.length : Int) = f * r ∧ ∀ x ∈ xs, pOk x = true := by
 simp only [boardB, Bool.and_eq_true, decide_eq_true_eq, List.all_eq_true] at h
 exact ⟨h.1, h.2.1, h.2.2⟩
theorem boardB_of {f r : Int} {xs : List Int} (h1 : sizeB f r = true) (h2 : (xs.length : Int) = f * r) (h3 : xs.all pOk = true) : boardB f r xs = true := by
 simp [boardB, h1, h2, h3]
theorem orthB_bad {f r : Int} {xs : List Int} {i : Nat} (hi : i < xs.length) {x : Int} (hx : xs[i] = x) (h : orB x = false) : orthB f r xs = false := by
 have : xs.all orB = false := by rw [List.all_eq_false]; exact ⟨x, by rw [← hx]; exact List.getElem_mem hi, by simp [h]⟩
 simp [orthB, this]
theorem orB_iff (x : Int) : orB x = (decide (x = 0) || oOk x) := by
 by_cases h : x = 0
 ·subst h; rfl
 ·simp [orB, oOk, h]
theorem badO_or (x : Int) : badO x = !orB x := by
 rw [orB_iff]; simp [badO]
theorem take_all {xs : List Int} {g : Int → Bool} {i : Nat} (hlt : i < xs.length) (h : (xs.take i).all g = true) {x : Int} (hx : xs[i] = x) (hg : g x = true) : (xs.take (i + 1)).all g = true := by
 rw [List.take_succ_eq_append_getElem hlt, List.all_append, h]; simp [hx, hg]

set_option maxHeartbeats 800000 in
theorem refBoard_any (f r : Int) (p : Option Addr) (c : Nat) (xs : List Int) (w : World) (hx : Arr .i8 w p xs) :
  Calls Tryz.prog 80 #[.agg (bdCs f r p xs.length c).toArray] w fun e w' => e = .returned (.bool (boardB f r xs)) ∧ Below w.heap.size w w' := by
 have hb := below_box w (.cells (bdCs f r p xs.length c).toArray 90)
 have hA := HasO.new w (.cells (bdCs f r p xs.length c).toArray 90)
 go_enter Tryz.func80, Tryz.ntmps80
 go_wp2_with fail
 refine (size_any f r _).mono ?_
 rintro e w1 ⟨rfl, hb1⟩
 have hb' := below_call hb hb.size hb1
 have hA1 := hA.call hb1
 have hc1 := hA1.cells
 have hl1 := hA1.lt
 rcases hs : sizeB f r with _ | _
 ·have e0 := Lib.hid (boardB_false (xs := xs) hs)
  go_wp2_with fail
  go_ret
  exact ⟨by rw [e0.out]; rfl, hb'⟩
 ·have hm := size_mul hs
  have e1 : wrap64 (f * r) = f * r := IntWalk.wrap64_in _ (by omega)
  by_cases hlen : (xs.length : Int) = f * r
  ·have hlen64 : xs.length ≤ 64 := by omega
   have hx1 := hx.call hb'
   have hb2 : (((xs.length : Int)) != f * r) = false := by rw [hlen]; simp
   replace hs := Lib.hid hs
   clear hb1 hA hb hx
   replace hlen := Lib.hid hlen
   go_wp2_with fail
   clear hc1
   go_loopg [3] 65 (fun q iv wr => ∃ i : Nat, q + i = 65 ∧ i ≤ xs.length ∧ iv = .int .i64 i ∧ Below w1.heap.size w1 wr ∧ (xs.take i).all pOk = true)
   case atStart => exact ⟨0, rfl, Nat.zero_le _, rfl, Below.refl _ _, rfl⟩
   case round =>
    obtain ⟨i, hq, hi, rfl, hbr, ha⟩ := hrel
    replace ha := Lib.hid ha
    have hcr := (hA1.call hbr).cells
    have hlr := (hA1.call hbr).lt
    have hbr' := below_call hb' hb'.size hbr
    by_cases hlt : i < xs.length
    ·have hii : (i : Int) < xs.length := by omega
     obtain ⟨b, o, rfl, hbl, hc⟩ := (hx1.call hbr).at hlt
     have hci := hc i hlt
     have hget : xs[i]?.getD 0 = xs[i] := by simp [hlt]
     obtain ⟨x, hxv⟩ : ∃ x, x = xs[i]?.getD 0 := ⟨_, rfl⟩
     rw [← hxv] at hci hget
     replace hget := Lib.hid hget
     clear hc hxv
     go_wp2_with fail
     refine (refPValid_any _ _).mono ?_
     rintro e w2 ⟨rfl, rfl⟩
     rcases hbd : pOk x with _ | _
     ·have e0 := Lib.hid (boardB_bad (f := f) (r := r) hlt hget.out.symm hbd)
      go_wp2_with fail
      go_ret
      exact ⟨by rw [e0.out]; rfl, hbr'⟩
     ·go_wp2_with fail
      go_roundg (gk - 1)
      case measure => omega
      case rel => exact ⟨i + 1, by omega, by omega, by go_num, hbr, take_all hlt ha.out hget.out.symm hbd⟩
    ·have hii : ¬ (i : Int) < xs.length := by omega
     have e0 := Lib.hid (boardB_of hs.out hlen.out (by have ha := ha.out; rwa [List.take_of_length_le (by omega)] at ha))
     go_wp2_with fail
     go_ret
     exact ⟨by rw [e0.out]; rfl, hbr'⟩
  ·have e0 := Lib.hid (boardB_len hlen)
   have hb2 : (((xs.length : Int)) != f * r) = true := by simp [hlen]
   replace hs := Lib.hid hs
   clear hb1 hA hb hx
   go_wp2_with fail
   go_ret
   exact ⟨by rw [e0.out]; rfl, hb'⟩
set_option maxHeartbeats 800000 in
theorem refOrthB_any (f r : Int) (p : Option Addr) (c : Nat) (xs : List Int) (w : World) (hx : Arr .i8 w p xs) :
  Calls Tryz.prog 35 #[.agg (bdCs f r p xs.length c).toArray] w fun e w' => e = .returned (.bool (orthB f r xs)) ∧ Below w.heap.size w w' := by
 have hb := below_box w (.cells (bdCs f r p xs.length c).toArray 90)
 have hA := HasO.new w (.cells (bdCs f r p xs.length c).toArray 90)
 have hc0 := hA.cells
 have hl0 := hA.lt
 go_enter Tryz.func35, Tryz.ntmps35
 go_wp2_with fail
 refine (refBoard_any f r p c xs _ (hx.call hb)).mono ?_
 rintro e w1 ⟨rfl, hb1⟩
 have hb' := below_call hb hb.size hb1
 have hA1 := hA.call hb1
 rcases hs : boardB f r xs with _ | _
 ·have e0 : Hid (orthB f r xs = false) := Lib.hid (by simp [orthB, hs])
  go_wp2_with fail
  go_ret
  exact ⟨by rw [e0.out]; rfl, hb'⟩
 ·obtain ⟨hs1, hlen, hall⟩ := boardB_fact hs
  have hm := size_mul hs1
  have hlen64 : xs.length ≤ 64 := by omega
  have hx1 := hx.call hb'
  clear hb1 hA hb hx hc0 hl0 hs1 hlen hm hall
  go_wp2_with fail
  go_loopg [3] 65 (fun q iv wr => ∃ i : Nat, q + i = 65 ∧ i ≤ xs.length ∧ iv = .int .i64 i ∧ Below w1.heap.size w1 wr ∧ (xs.take i).all orB = true)
  case atStart => exact ⟨0, rfl, Nat.zero_le _, rfl, Below.refl _ _, rfl⟩
  case round =>
   obtain ⟨i, hq, hi, rfl, hbr, ha⟩ := hrel
   replace ha := Lib.hid ha
   have hcr := (hA1.call hbr).cells
   have hlr := (hA1.call hbr).lt
   have hbr' := below_call hb' hb'.size hbr
   by_cases hlt : i < xs.length
   ·have hii : (i : Int) < xs.length := by omega
    obtain ⟨b, o, rfl, hbl, hc⟩ := (hx1.call hbr).at hlt
    have hci := hc i hlt
    have hget : xs[i]?.getD 0 = xs[i] := by simp [hlt]
    obtain ⟨x, hxv⟩ : ∃ x, x = xs[i]?.getD 0 := ⟨_, rfl⟩
    rw [← hxv] at hci hget
    replace hget := Lib.hid hget
    clear hc hxv
    by_cases h0 : x = 0
    ·have ht := Lib.hid (take_all hlt ha.out hget.out.symm (show orB x = true by subst h0; rfl))
     have h00 : (x != 0) = false := by simp [h0]
     go_wp2_with fail
     go_roundg (gk - 1)
     case measure => omega
     case rel => exact ⟨i + 1, by omega, by omega, by go_num, hbr, ht.out⟩
    ·have h00 : (x != 0) = true := by simp [h0]
     go_wp2_with fail
     refine (refOrth_any _ _).mono ?_
     rintro e w2 ⟨rfl, rfl⟩
     rcases hbd : oOk x with _ | _
     ·have e0 := Lib.hid (orthB_bad (f := f) (r := r) hlt hget.out.symm (by rw [orB_iff, hbd]; simp [h0]))
      go_wp2_with fail
      go_ret
      exact ⟨by rw [e0.out]; rfl, hbr'⟩
     ·have ht := Lib.hid (take_all hlt ha.out hget.out.symm (show orB x = true by rw [orB_iff, hbd]; simp))
      go_wp2_with fail
      go_roundg (gk - 1)
      case measure => omega
      case rel => exact ⟨i + 1, by omega, by omega, by go_num, hbr, ht.out⟩
   ·have hii : ¬ (i : Int) < xs.length := by omega
    have e0 : Hid (orthB f r xs = true) := Lib.hid (by have ha := ha.out; rw [List.take_of_length_le (by omega)] at ha; simp [orthB, hs, ha])
    go_wp2_with fail
    go_ret
    exact ⟨by rw [e0.out]; rfl, hbr'⟩
end Go.Proofs.YtddkhnnpeonbgaaGreatDoor
namespace Go.Proofs.YtddkhnnpeonbgaaGreatDoor
open Go.RowKit

def vv1 (m : Men) (B : Nat) : Nat → Value
 | 0 => .pointer (some ⟨B, 0, none⟩) | 1 => .agg m.cs.toArray | 2 => .bool false | 3 => .bool true | 4 => .bool true | 9 => .bool true | 10 => .bool true | 18 => .bool true | _ => undef
def vv2 (m : Men) (B : Nat) : Nat → Value
 | 0 => .pointer (some ⟨B, 0, none⟩) | 1 => .agg m.cs.toArray | 2 => .bool true | 3 => .bool false | 4 => .bool false
 | 5 => .pointer (some ⟨B, 0, none⟩) | 6 => .agg m.cs.toArray | 7 => .int .i64 (countN m) | 8 => .bool true | 9 => .bool true | 10 => .bool true | 18 => .bool true | _ => undef
def vv3 (m : Men) (B : Nat) (p : Option Addr) (n c : Nat) (b : Bool) : Nat → Value
 | 0 => .pointer (some ⟨B, 0, none⟩) | 1 => .agg m.cs.toArray | 2 => .bool true | 3 => .bool false | 4 => .bool false
 | 5 => .pointer (some ⟨B, 0, none⟩) | 6 => .agg m.cs.toArray | 7 => .int .i64 (countN m) | 8 => .bool false | 9 => .bool false | 10 => .bool false
 | 11 => .pointer (some ⟨B, 12, none⟩) | 12 => .slice p n c | 13 => .int .i64 n | 14 => .pointer (some ⟨B, 0, none⟩) | 15 => .agg m.cs.toArray | 16 => .int .i64 (countN m) | 17 => .bool b | 18 => .bool b | _ => undef

set_option maxRecDepth 100000 in
set_option maxHeartbeats 1000000 in
theorem refTab_any (m : Men) (p : Option Addr) (c : Nat) (xs : List Int) (w : World) (hx : Arr .i16 w p xs) (hl : xs.length ≤ 1000000000) :
  Calls Tryz.prog 10 #[.agg (tabCs m p xs.length c).toArray] w fun e w' => e = .returned (.bool (tabOk m xs)) ∧ Below w.heap.size w w' := by
 have hT : HasO (w.alloc (.cells (tabCs m p xs.length c).toArray 44)) w.heap.size (.cells (tabCs m p xs.length c).toArray 44 (0, 0)) := HasO.new _ _
 have hb0 := below_box w (.cells (tabCs m p xs.length c).toArray 44)
 have hx0 := hx.call hb0
 go_enter Tryz.func10, Tryz.ntmps10
 go_wp2_with fail
 have hC0 : Loc w w.heap.size (.cells (tabCs m p xs.length c).toArray 44 (0, 0)) (w.alloc (.cells (tabCs m p xs.length c).toArray 44)) := ⟨hb0, hT⟩
 rcases hv : validB m with _ | _
 ·have ht : Hid (tabOk m xs = false) := Lib.hid (by simp [tabOk, hv])
  refine wp_region_valsL (by kernel_rfl) (by kernel_rfl) [some 4, some 5, some 6, some 7, some 8, some 9, some 10, some 11, some 12, some 13, some 14, some 15, some 16, some 17, some 18, some 19, some 20, some 21, some 22] (by rfl) (by rfl)
   (vv1 m w.heap.size) (Loc w w.heap.size (.cells (tabCs m p xs.length c).toArray 44 (0, 0))) hC0.drew ?hstep ?hend
  case hstep =>
   intro i o f w1 ho hi hC hf K hK
   have hc := hC.2.cells
   have hi : i < 19 := hi
   rcases (by omega : i = 0 ∨ i = 1 ∨ i = 2 ∨ i = 3 ∨ i = 4 ∨ i = 5 ∨ i = 6 ∨ i = 7 ∨ i = 8 ∨ i = 9 ∨ i = 10 ∨ i = 11 ∨ i = 12 ∨ i = 13 ∨ i = 14 ∨ i = 15 ∨ i = 16 ∨ i = 17 ∨ i = 18) with rfl | rfl | rfl | rfl | rfl | rfl | rfl | rfl | rfl | rfl | rfl | rfl | rfl | rfl | rfl | rfl | rfl | rfl | rfl
   all_goals (injection ho with ho; subst ho)
   all_goals (simp [Region.binds] at hf)
   all_goals (simp only [putL, vv1] at hK hf ⊢)
   all_goals (try simp only [hf] at hK ⊢)
   all_goals (revert hK)
   all_goals (try go_simp)
   all_goals (try (intro hK; exact hK _ hC))
   case inr.inr.inl =>
    intro hK
    refine (refValid_any m _).mono ?_
    rintro e w' ⟨rfl, hb⟩
    go_simp
    exact hK _ (hC.call hb)
  case hend =>
   intro w1 hC
   simp only [putL, vv1]
   go_simp
   go_wp2_with fail
   go_ret
   exact ⟨ret_bool (by rw [ht.out]), hC.1⟩
 ·have hV := Lib.hid hv
  by_cases h1 : countN m ≤ 262144
  ·have h1' : ¬ (262144 : Int) < countN m := by omega
   have hs : Hid (tabOk m xs = (decide (countN m = xs.length) && !(xs.any badE))) := Lib.hid (by simp [tabOk, hv, h1])
   refine wp_region_valsL (by kernel_rfl) (by kernel_rfl) [some 4, some 5, some 6, some 7, some 8, some 9, some 10, some 11, some 12, some 13, some 14, some 15, some 16, some 17, some 18, some 19, some 20, some 21, some 22] (by rfl) (by rfl)
    (vv3 m w.heap.size p xs.length c (decide ((xs.length : Int) ≠ (countN m : Int)))) (Loc w w.heap.size (.cells (tabCs m p xs.length c).toArray 44 (0, 0))) hC0.drew ?hstep ?hend
   case hstep =>
    intro i o f w1 ho hi hC hf K hK
    have hc := hC.2.cells
    have hi : i < 19 := hi
    rcases (by omega : i = 0 ∨ i = 1 ∨ i = 2 ∨ i = 3 ∨ i = 4 ∨ i = 5 ∨ i = 6 ∨ i = 7 ∨ i = 8 ∨ i = 9 ∨ i = 10 ∨ i = 11 ∨ i = 12 ∨ i = 13 ∨ i = 14 ∨ i = 15 ∨ i = 16 ∨ i = 17 ∨ i = 18) with rfl | rfl | rfl | rfl | rfl | rfl | rfl | rfl | rfl | rfl | rfl | rfl | rfl | rfl | rfl | rfl | rfl | rfl | rfl
    all_goals (injection ho with ho; subst ho)
    all_goals (simp [Region.binds] at hf)
    all_goals (simp only [putL, vv3] at hK hf ⊢)
    all_goals (try simp only [hf] at hK ⊢)
    all_goals (revert hK)
    all_goals (try go_simp)
    all_goals (try (intro hK; exact hK _ hC))
    case inr.inr.inl =>
     intro hK
     refine (refValid_any m _).mono ?_
     rintro e w' ⟨rfl, hb⟩
     go_simp
     exact hK _ (hC.call hb)
    case inr.inr.inr.inr.inr.inr.inr.inl =>
     intro hK
     refine (refCount_any m _ hV).mono ?_
     rintro e w' ⟨rfl, hb⟩
     go_simp
     exact hK _ (hC.call hb)
    case inr.inr.inr.inr.inr.inr.inr.inr.inr.inr.inr.inr.inr.inr.inr.inr.inl =>
     intro hK
     refine (refCount_any m _ hV).mono ?_
     rintro e w' ⟨rfl, hb⟩
     go_simp
     exact hK _ (hC.call hb)
   case hend =>
    intro w1 hC
    by_cases h2 : (xs.length : Int) = (countN m : Int)
    ·have hdb : decide ((xs.length : Int) ≠ (countN m : Int)) = false := by simp [h2]
     rw [hdb]
     have ht : Hid (tabOk m xs = !(xs.any badE)) := Lib.hid (by rw [hs.out, show decide (countN m = xs.length) = true by simp; omega]; simp)
     simp only [putL, vv3]
     go_simp
     have hx1 := hx.call hC.1
     have hc := hC.2.cells
     have hlt1 := hC.2.lt
     replace h2 := Lib.hid h2
     clear hdb hs
     go_wp2_with fail
     go_loopg [3] 1000000001 (fun q iv wr => ∃ i : Nat, q + i = 1000000001 ∧ i ≤ xs.length ∧ iv = .int .i64 i ∧ Loc w w.heap.size (.cells (tabCs m p xs.length c).toArray 44 (0, 0)) wr ∧ (xs.take i).any badE = false)
     case atStart => exact ⟨0, rfl, Nat.zero_le _, rfl, hC, rfl⟩
     case round =>
      clear hc hx1 hlt1 hC
      obtain ⟨i, hq, hi, rfl, hC, ha⟩ := hrel
      replace ha := Lib.hid ha
      have hc := hC.2.cells
      have hlt1 := hC.2.lt
      by_cases hlt : i < xs.length
      ·have hii : (i : Int) < xs.length := by omega
       obtain ⟨b, o, rfl, hbl, hcc⟩ := (hx.call hC.1).at hlt
       have hci := hcc i hlt
       have hget : xs[i]?.getD 0 = xs[i] := by simp [hlt]
       obtain ⟨x, hxv⟩ : ∃ x, x = xs[i]?.getD 0 := ⟨_, rfl⟩
       rw [← hxv] at hci hget
       replace hget := Lib.hid hget
       clear hcc hxv
       by_cases hx0 : x < 0
       ·have hbd : Hid (xs.any badE = true) := Lib.hid (by rw [List.any_eq_true]; exact ⟨xs[i], List.getElem_mem hlt, by rw [← hget.out]; simp [badE, hx0]⟩)
        go_wp2_with fail
        go_ret
        exact ⟨ret_bool (by rw [ht.out, hbd.out]; rfl), hC.1⟩
       ·by_cases hx2 : 10002 < x
        ·have hbd : Hid (xs.any badE = true) := Lib.hid (by rw [List.any_eq_true]; exact ⟨xs[i], List.getElem_mem hlt, by rw [← hget.out]; simp [badE, hx2]⟩)
         go_wp2_with fail
         go_ret
         exact ⟨ret_bool (by rw [ht.out, hbd.out]; rfl), hC.1⟩
        ·have hbd : Hid (badE x = false) := Lib.hid (by simp [badE, hx0, hx2])
         go_wp2_with fail
         go_roundg (gk - 1)
         case measure => omega
         case rel => exact ⟨i + 1, by omega, by omega, by go_num, hC, by rw [List.take_succ_eq_append_getElem hlt, List.any_append, ha.out]; simp [← hget.out, hbd.out]⟩
      ·have hii : ¬ (i : Int) < xs.length := by omega
       go_wp2_with fail
       go_ret
       refine ⟨ret_bool ?_, hC.1⟩
       have ha := ha.out
       rw [List.take_of_length_le (by omega)] at ha
       rw [ht.out, ha]; rfl
    ·have hdb : decide ((xs.length : Int) ≠ (countN m : Int)) = true := by simp [h2]
     rw [hdb]
     have ht : Hid (tabOk m xs = false) := Lib.hid (by rw [hs.out, show decide (countN m = xs.length) = false by simp; omega]; simp)
     simp only [putL, vv3]
     go_simp
     go_wp2_with fail
     go_ret
     exact ⟨ret_bool (by rw [ht.out]), hC.1⟩
  ·have h1' : (262144 : Int) < countN m := by omega
   have ht : Hid (tabOk m xs = false) := Lib.hid (by simp [tabOk, hv, h1])
   refine wp_region_valsL (by kernel_rfl) (by kernel_rfl) [some 4, some 5, some 6, some 7, some 8, some 9, some 10, some 11, some 12, some 13, some 14, some 15, some 16, some 17, some 18, some 19, some 20, some 21, some 22] (by rfl) (by rfl)
    (vv2 m w.heap.size) (Loc w w.heap.size (.cells (tabCs m p xs.length c).toArray 44 (0, 0))) hC0.drew ?hstep ?hend
   case hstep =>
    intro i o f w1 ho hi hC hf K hK
    have hc := hC.2.cells
    have hi : i < 19 := hi
    rcases (by omega : i = 0 ∨ i = 1 ∨ i = 2 ∨ i = 3 ∨ i = 4 ∨ i = 5 ∨ i = 6 ∨ i = 7 ∨ i = 8 ∨ i = 9 ∨ i = 10 ∨ i = 11 ∨ i = 12 ∨ i = 13 ∨ i = 14 ∨ i = 15 ∨ i = 16 ∨ i = 17 ∨ i = 18) with rfl | rfl | rfl | rfl | rfl | rfl | rfl | rfl | rfl | rfl | rfl | rfl | rfl | rfl | rfl | rfl | rfl | rfl | rfl
    all_goals (injection ho with ho; subst ho)
    all_goals (simp [Region.binds] at hf)
    all_goals (simp only [putL, vv2] at hK hf ⊢)
    all_goals (try simp only [hf] at hK ⊢)
    all_goals (revert hK)
    all_goals (try go_simp)
    all_goals (try (intro hK; exact hK _ hC))
    case inr.inr.inl =>
     intro hK
     refine (refValid_any m _).mono ?_
     rintro e w' ⟨rfl, hb⟩
     go_simp
     exact hK _ (hC.call hb)
    case inr.inr.inr.inr.inr.inr.inr.inl =>
     intro hK
     refine (refCount_any m _ hV).mono ?_
     rintro e w' ⟨rfl, hb⟩
     go_simp
     exact hK _ (hC.call hb)
   case hend =>
    intro w1 hC
    simp only [putL, vv2]
    go_simp
    go_wp2_with fail
    go_ret
    exact ⟨ret_bool (by rw [ht.out]), hC.1⟩
end Go.Proofs.YtddkhnnpeonbgaaGreatDoor
namespace Go.Proofs.YtddkhnnpeonbgaaGreatDoor
open Go.RowKit

theorem Tryz.cells3 : Tryz.prog.cellsOf 3 = 1 := by kernel_rfl
theorem Tryz.has3 : (Tryz.prog.info? 3).isSome = true := by kernel_rfl
theorem five_eq (d : Nat) (a0 a1 a2 a3 a4 b0 b1 b2 b3 b4 : Int) (W : World) : (Op.equalIn (d + 2) 39 (.agg #[.int .i64 a0, .int .i64 a1, .int .i64 a2, .int .i64 a3, .int .i64 a4]) (.agg #[.int .i64 b0, .int .i64 b1, .int .i64 b2, .int .i64 b3, .int .i64 b4])).run Tryz.prog W = .ok (a0 == b0 && (a1 == b1 && (a2 == b2 && (a3 == b3 && a4 == b4)))) W := by
 obtain ⟨i, hi⟩ := Option.isSome_iff_exists.1 Tryz.has3
 rw [run_equalIn_array W (d + 1) _ _ Tryz.underlying39 hi, Tryz.cells3]
 rw [show List.range 5 = [0, 1, 2, 3, 4] from rfl]
 simp only [Op.eqItems, go_sem]
 simp [go_sem]
 by_cases h0 : a0 = b0 <;> by_cases h1 : a1 = b1 <;> by_cases h2 : a2 = b2 <;> by_cases h3 : a3 = b3 <;> by_cases h4 : a4 = b4 <;> simp [h0, h1, h2, h3, h4]
theorem men_eqs (m m' : Men) (W : World) : (Op.equalIn 10000 41 (.agg m.cs.toArray) (.agg m'.cs.toArray)).run Tryz.prog W = .ok (decide (m = m')) W := by
 have e := fun a0 a1 a2 a3 a4 b0 b1 b2 b3 b4 => five_eq 9997 a0 a1 a2 a3 a4 b0 b1 b2 b3 b4 W
 simp [go_sem, e]
 obtain ⟨f, r, w0, w1, w2, w3, w4, b0, b1, b2, b3, b4⟩ := m
 obtain ⟨f', r', w0', w1', w2', w3', w4', b0', b1', b2', b3', b4'⟩ := m'
 simp only [Men.mk.injEq]
 by_cases h0 : f = f' <;> by_cases h1 : r = r' <;> simp [h0, h1]
 clear e
 by_cases h2 : w0 = w0' <;> by_cases h3 : w1 = w1' <;> by_cases h4 : w2 = w2' <;> by_cases h5 : w3 = w3' <;> by_cases h6 : w4 = w4' <;> simp [h2, h3, h4, h5, h6]
 by_cases g2 : b0 = b0' <;> by_cases g3 : b1 = b1' <;> by_cases g4 : b2 = b2' <;> by_cases g5 : b3 = b3' <;> by_cases g6 : b4 = b4' <;> simp [g2, g3, g4, g5, g6]
theorem men_neq (m m' : Men) (W : World) : (binOp .neq 41 (.agg m.cs.toArray) (.agg m'.cs.toArray)).run Tryz.prog W = .ok (.bool (!decide (m = m'))) W := by
 rw [run_neq_struct, men_eqs]; rfl
theorem men_eql (m m' : Men) (W : World) : (binOp .eql 41 (.agg m.cs.toArray) (.agg m'.cs.toArray)).run Tryz.prog W = .ok (.bool (decide (m = m'))) W := by
 rw [run_eql_struct, men_eqs]; rfl
theorem men_guard (op : BinOp) (x y : Operand) (xs ys : Array Value) (W : World) : (eqGuard op 41 x y (.agg xs) (.agg ys)).run Tryz.prog W = .ok () W := run_eqGuard_agg _ op 41 x y xs ys (by kernel_rfl)
set_option maxRecDepth 100000 in
set_option maxHeartbeats 1000000 in
theorem same_any (m : Men) (p1 p2 : Option Addr) (c1 c2 : Nat) (xs : List Int) (w : World) (hx : Arr .i16 w p1 xs) (hy : Arr .i16 w p2 xs) (hl : xs.length ≤ 1000000000) :
  Calls Tryz.prog 13 #[.agg (tabCs m p1 xs.length c1).toArray, .agg (tabCs m p2 xs.length c2).toArray] w fun e w' => e = .returned (.bool true) ∧ Below w.heap.size w w' := by
 have hT : HasO (w.alloc (.cells (tabCs m p1 xs.length c1).toArray 44)) w.heap.size (.cells (tabCs m p1 xs.length c1).toArray 44 (0, 0)) := HasO.new _ _
 have hU : HasO ((w.alloc (.cells (tabCs m p1 xs.length c1).toArray 44)).alloc (.cells (tabCs m p2 xs.length c2).toArray 44)) (w.heap.size + 1) (.cells (tabCs m p2 xs.length c2).toArray 44 (0, 0)) := HasO.new' _ _ (by simp)
 have hT1 := hT.alloc (.cells (tabCs m p2 xs.length c2).toArray 44)
 have hb0 := (below_box w (.cells (tabCs m p1 xs.length c1).toArray 44)).alloc (by simp) (.cells (tabCs m p2 xs.length c2).toArray 44)
 have hx0 := hx.call hb0
 have hy0 := hy.call hb0
 clear hT
 go_enter Tryz.func13, Tryz.ntmps13
 have hc := hT1.cells
 have hd := hU.cells
 have hlt1 := hT1.lt
 have hlt2 := hU.lt
 have hne : ∀ W : World, (binOp .neq 41 (.agg m.cs.toArray) (.agg m.cs.toArray)).run Tryz.prog W = .ok (.bool false) W := fun W => by rw [men_neq]; simp
 have hgd := fun x y W => men_guard .neq x y m.cs.toArray m.cs.toArray W
 go_wp2_with fail
 clear hne hgd hc hd hlt1 hlt2
 go_loopg [5] 1000000001 (fun q iv wr => ∃ i : Nat, q + i = 1000000001 ∧ i ≤ xs.length ∧ iv = .int .i64 i ∧ Below w.heap.size w wr ∧ HasO wr w.heap.size (.cells (tabCs m p1 xs.length c1).toArray 44 (0, 0)) ∧ HasO wr (w.heap.size + 1) (.cells (tabCs m p2 xs.length c2).toArray 44 (0, 0)))
 case atStart => exact ⟨0, rfl, Nat.zero_le _, rfl, hb0, hT1, hU⟩
 case round =>
  clear hb0 hT1 hU hx0 hy0
  obtain ⟨i, hq, hi, rfl, hb, hT, hU⟩ := hrel
  have hc := hT.cells
  have hd := hU.cells
  have hlt1 := hT.lt
  have hlt2 := hU.lt
  by_cases hlt : i < xs.length
  ·have hii : (i : Int) < xs.length := by omega
   obtain ⟨b, o, rfl, hbl, hcc⟩ := (hx.call hb).at hlt
   obtain ⟨b2, o2, rfl, hbl2, hdd⟩ := (hy.call hb).at hlt
   have hci := hcc i hlt
   have hdi := hdd i hlt
   obtain ⟨x, hxv⟩ : ∃ x, x = xs[i]?.getD 0 := ⟨_, rfl⟩
   rw [← hxv] at hci hdi
   clear hcc hxv hdd
   go_wp2_with fail
   go_quiet (fail)
   go_wp2_with fail
   go_roundg (gk - 1)
   case measure => omega
   case rel => exact ⟨i + 1, by omega, by omega, by go_num, below_drewN hb _, hT.drewN _, hU.drewN _⟩
  ·have hii : ¬ (i : Int) < xs.length := by omega
   go_wp2_with fail
   go_ret
   exact ⟨rfl, hb⟩
end Go.Proofs.YtddkhnnpeonbgaaGreatDoor
