import Derived.Test.YtnpomigmeieofaaGreatDoorS12
import Derived.Laws.BitsAllLaws
set_option maxHeartbeats 12800000
namespace Go.Proofs.YtnpomigmeieofaaGreatDoor
open Go.RowKit

set_option maxRecDepth 100000 in
theorem board_any (f r : Int) (p : Option Addr) (c : Nat) (xs : List Int) (w : World) (hx : Arr .i8 w p xs) :
  Calls Tryz.prog 96 #[.agg (bdCs f r p xs.length c).toArray] w fun e w' => e = .returned (.bool (boardB f r xs)) ∧ Below w.heap.size w w' := by
 have hb := below_box w (.cells (bdCs f r p xs.length c).toArray 91)
 have hA := HasO.new w (.cells (bdCs f r p xs.length c).toArray 91)
 go_enter Tryz.func96, Tryz.ntmps96
 go_wp2_with fail
 refine (sqCount_any f r _).mono ?_
 rintro e w1 ⟨rfl, hb1⟩
 have hb' := below_call hb hb.size hb1
 have hA1 := hA.call hb1
 have hc1 := hA1.cells
 have hl1 := hA1.lt
 rcases hs : sizeB f r with _ | _
 ·have e0 := Lib.hid (boardB_false (xs := xs) hs)
  have e2 : sqCntE f r = (0, 2) := by simp [sqCntE, hs]
  rw [e2]
  go_wp2_with fail
  go_ret
  exact ⟨by rw [e0.out]; rfl, hb'⟩
 ·have hm := size_mul hs
  have e2 : sqCntE f r = (f * r, 0) := by simp [sqCntE, hs]
  rw [e2]
  by_cases hlen : (xs.length : Int) = f * r
  ·have hlen64 : xs.length ≤ 64 := by omega
   have hx1 := hx.call hb'
   have hb2 : (((xs.length : Int)) == f * r) = true := by rw [hlen]; simp
   clear e2
   replace hlen := Lib.hid hlen
   replace hs := Lib.hid hs
   clear hb1 hA hb hx
   go_wp2_with fail
   refine (hasFunc_any 139 badP15 (fun _ _ => rfl) badP15_any p c xs w1 hx1 (by omega)).mono ?_
   rintro e w2 ⟨rfl, hb3⟩
   have e0 : Hid (boardB f r xs = !xs.any badP15) := Lib.hid (by
    have : (!xs.any badP15) = xs.all pOk := by
     rw [List.any_eq_not_all_not]; simp [badP15]
    rw [this]; simp [boardB, hs.out, hlen.out])
   go_wp2_with fail
   go_ret
   exact ⟨ret_bool e0.out.symm, below_call hb' hb'.size hb3⟩
  ·have e0 := Lib.hid (boardB_len hlen)
   have hb2 : (((xs.length : Int)) == f * r) = false := by simp [hlen]
   clear e2
   replace hs := Lib.hid hs
   clear hb1 hA hb hx
   go_wp2_with fail
   go_ret
   exact ⟨by rw [e0.out]; rfl, hb'⟩
set_option maxRecDepth 100000 in
theorem orthodox_any (f r : Int) (p : Option Addr) (c : Nat) (xs : List Int) (w : World) (hx : Arr .i8 w p xs) :
  Calls Tryz.prog 176 #[.agg (bdCs f r p xs.length c).toArray] w fun e w' => e = .returned (.bool (orthB f r xs)) ∧ Below w.heap.size w w' := by
 have hb := below_box w (.cells (bdCs f r p xs.length c).toArray 91)
 have hA := HasO.new w (.cells (bdCs f r p xs.length c).toArray 91)
 have hc0 := hA.cells
 have hl0 := hA.lt
 go_enter Tryz.func176, Tryz.ntmps176
 go_wp2_with fail
 refine (board_any f r p c xs _ (hx.call hb)).mono ?_
 rintro e w1 ⟨rfl, hb1⟩
 have hb' := below_call hb hb.size hb1
 have hA1 := hA.call hb1
 have hc1 := hA1.cells
 have hl1 := hA1.lt
 rcases hs : boardB f r xs with _ | _
 ·have e0 : Hid (orthB f r xs = false) := Lib.hid (by simp [orthB, hs])
  go_wp2_with fail
  go_ret
  exact ⟨by rw [e0.out]; rfl, hb'⟩
 ·obtain ⟨hs1, hlen, hall⟩ := boardB_fact hs
  have hm := size_mul hs1
  have hlen64 : xs.length ≤ 64 := by omega
  have hx1 := hx.call hb'
  clear hb1 hA hb hx hc0 hl0 hs1 hlen hm hall
  go_wp2_with fail
  refine (hasFunc_any 191 badO (fun _ _ => rfl) badO_any p c xs w1 hx1 (by omega)).mono ?_
  rintro e w2 ⟨rfl, hb3⟩
  have e0 : Hid (orthB f r xs = !xs.any badO) := Lib.hid (by
   have : (!xs.any badO) = xs.all orB := by
    rw [List.any_eq_not_all_not]; simp [badO_or]
   rw [this]; simp [orthB, hs])
  go_wp2_with fail
  go_ret
  exact ⟨ret_bool e0.out.symm, below_call hb' hb'.size hb3⟩
abbrev posCs (f r : Int) (p : Option Addr) (n c : Nat) (bl : Bool) (ca pa ha fu : Int) : List Value := [.int .i64 f, .int .i64 r, .slice p n c, .bool bl, .int .u8 ca, .int .i64 pa, .int .i64 ha, .int .i64 fu]
theorem refOf_any (f r ca pa ha fu : Int) (bl : Bool) (p : Option Addr) (n c : Nat) (w : World) :
  Calls Tryz.prog 52 #[.agg (posCs f r p n c bl ca pa ha fu).toArray] w fun e w' => e = .returned (.agg (bdCs f r p n c).toArray) ∧ Below w.heap.size w w' := by
 have hA := HasO.new w (.cells (posCs f r p n c bl ca pa ha fu).toArray 40)
 have hB := hA.alloc (.cells #[.int .i64 0, .int .i64 0, .slice none 0 0] 91)
 have hC := HasO.new' (w.alloc (.cells (posCs f r p n c bl ca pa ha fu).toArray 40)) (.cells #[.int .i64 0, .int .i64 0, .slice none 0 0] 91) (q := w.heap.size + 1) (by simp)
 have hD := HasO.new' (w.alloc (.cells (posCs f r p n c bl ca pa ha fu).toArray 40)) (.cells (bdCs f r p n c).toArray 91) (q := w.heap.size + 1) (by simp)
 have hb := (below_box w (.cells (posCs f r p n c bl ca pa ha fu).toArray 40)).alloc (by simp) (.cells (bdCs f r p n c).toArray 91)
 have hc0 := hB.cells
 have hl0 := hB.lt
 have hl1 := hC.lt
 go_enter Tryz.func52, Tryz.ntmps52
 go_wp2_with fail
 refine bodyPost_ret (results_cell (fn := Tryz.f52) Tryz.results52 rfl hD (by kernel_rfl)) rfl ?_
 exact ⟨rfl, hb⟩

def setW (g : Int → Bool) (xs : List Int) : Nat → Nat
 | 0 => 0
 | k + 1 => if g (xs[k]?.getD 0) then setW g xs k ||| 2 ^ k else setW g xs k
theorem setW_lt (g : Int → Bool) (xs : List Int) {k : Nat} (hk : k ≤ 64) : setW g xs k < 18446744073709551616 := by
 have h : ∀ k, setW g xs k < 2 ^ k := by
  intro k
  induction k with
  | zero => simp [setW]
  | succ k ih =>
   have h2 : setW g xs k < 2 ^ (k + 1) := Nat.lt_of_lt_of_le ih (Nat.pow_le_pow_right (by decide) (by omega))
   simp only [setW]
   split
   ·exact Nat.or_lt_two_pow h2 (Nat.pow_lt_pow_right (by decide) (by omega))
   ·exact h2
 exact Nat.lt_of_lt_of_le (h k) (Nat.pow_le_pow_right (n := 2) (by decide) hk)
theorem setW_bit (g : Int → Bool) (xs : List Int) (k i : Nat) : (setW g xs k).testBit i = (decide (i < k) && g (xs[i]?.getD 0)) := by
 induction k with
 | zero => simp [setW]
 | succ k ih =>
  simp only [setW]
  by_cases hg : g (xs[k]?.getD 0) = true
  ·rw [if_pos hg, Nat.testBit_or, ih, Nat.testBit_two_pow]
   by_cases e : k = i
   ·subst e; simp [hg]
   ·have : decide (i < k + 1) = decide (i < k) := by congr 1; simp; omega
    simp [e, this]
  ·rw [if_neg hg, ih]
   by_cases e : k = i
   ·subst e; simp [hg]
   ·have : decide (i < k + 1) = decide (i < k) := by congr 1; simp; omega
    rw [this]
theorem u64_pow {i : Nat} (hi : i < 64) : IntKind.u64.wrap (2 ^ i) = ((2 ^ i : Nat) : Int) := by
 have h : (2 ^ i : Nat) < 18446744073709551616 := Nat.pow_lt_pow_right (n := 64) (by decide) hi
 have h2 : ((2 : Int) ^ i) = ((2 ^ i : Nat) : Int) := by simp
 obtain ⟨n, hn⟩ : ∃ n : Nat, n = 2 ^ i := ⟨_, rfl⟩
 rw [h2, ← hn]
 rw [← hn] at h
 simp only [IntKind.wrap, IntKind.bits, IntKind.signed]
 simp
 omega
theorem or_bit {a i : Nat} (ha : a < 18446744073709551616) (hi : i < 64) : bits .or .u64 (a : Int) (IntKind.u64.wrap (2 ^ i)) = ((a ||| 2 ^ i : Nat) : Int) := by
 have h : (2 ^ i : Nat) < 18446744073709551616 := Nat.pow_lt_pow_right (n := 64) (by decide) hi
 rw [u64_pow hi, u64_or_nat _ _ ha h]
def whR (w : World) (g : Int → Bool) (xs : List Int) (i : Nat) (sv iv : Value) (wr : World) : Prop :=
 i ≤ xs.length ∧ iv = .int .i64 i ∧ sv = .int .u64 (setW g xs i : Nat) ∧ Below w.heap.size w wr
set_option maxRecDepth 100000 in
theorem where_any (fn : Nat) (g : Int → Bool) (hcf : ∀ args w, (callFunc fn args).run Tryz.prog w = .ok (.enter fn args) w) (hf : ∀ x w, Calls Tryz.prog fn #[.int .i8 x] w fun e w' => e = .returned (.bool (g x)) ∧ w = w')
  (f r : Int) (p : Option Addr) (c : Nat) (xs : List Int) (w : World) (hx : Arr .i8 w p xs) (hl : xs.length ≤ 64) :
  Calls Tryz.prog 209 #[.agg (bdCs f r p xs.length c).toArray, .func (.func fn) #[] #[]] w fun e w' => e = .returned (.int .u64 (setW g xs xs.length : Nat)) ∧ Below w.heap.size w w' := by
 have hb := below_box w (.cells (bdCs f r p xs.length c).toArray 91)
 have hA := HasO.new w (.cells (bdCs f r p xs.length c).toArray 91)
 have hc0 := hA.cells
 have hl0 := hA.lt
 go_enter Tryz.func209, Tryz.ntmps209
 go_wp2_with fail
 go_loopg [5, 11] 65 (fun q sv iv wr => ∃ i : Nat, q + i = 65 ∧ whR w g xs i sv iv wr)
 case atStart => exact ⟨0, rfl, Nat.zero_le _, rfl, rfl, hb⟩
 case round =>
  obtain ⟨i, hq, hi, rfl, rfl, hbr⟩ := hrel
  by_cases hlt : i < xs.length
  ·have hii : (i : Int) < xs.length := by omega
   obtain ⟨b, o, rfl, hbl, hc⟩ := (hx.call hbr).at hlt
   have hci := hc i hlt
   obtain ⟨x, hxv⟩ : ∃ x, x = xs[i]?.getD 0 := ⟨_, rfl⟩
   rw [← hxv] at hci
   replace hxv := Lib.hid hxv
   clear hc hc0
   go_wp2_with fail
   refine (hf _ _).mono ?_
   rintro e w1 ⟨rfl, rfl⟩
   rcases hbd : g x with _ | _
   ·go_wp2_with fail
    go_roundg (gk - 1)
    case measure => omega
    case rel => exact ⟨i + 1, by omega, by omega, by go_num, by simp only [setW, ← hxv.out, hbd]; rfl, hbr⟩
   ·have hi64 : i < 64 := by omega
    go_wp2_with fail
    go_roundg (gk - 1)
    case measure => omega
    case rel => exact ⟨i + 1, by omega, by omega, by go_num, by rw [or_bit (setW_lt g xs (by omega)) hi64]; simp only [setW, ← hxv.out, hbd]; rfl, hbr⟩
  ·have hii : ¬ (i : Int) < xs.length := by omega
   obtain rfl : i = xs.length := by omega
   go_wp2_with fail
   go_ret
   exact ⟨rfl, hbr⟩
def gPos (x : Int) : Bool := decide (0 < x)
def gNeg (x : Int) : Bool := decide (x < 0)
def gNon (x : Int) : Bool := !decide (x = 0)
theorem gPos_any (x : Int) (w : World) : Calls Tryz.prog 210 #[.int .i8 x] w fun e w' => e = .returned (.bool (gPos x)) ∧ w = w' := by
 go_enter Tryz.func210, Tryz.ntmps210
 go_wp2_with fail
 go_ret
 exact ⟨rfl, rfl⟩
theorem gNeg_any (x : Int) (w : World) : Calls Tryz.prog 211 #[.int .i8 x] w fun e w' => e = .returned (.bool (gNeg x)) ∧ w = w' := by
 go_enter Tryz.func211, Tryz.ntmps211
 go_wp2_with fail
 go_ret
 exact ⟨rfl, rfl⟩
theorem setW_or (xs : List Int) (k : Nat) : setW gPos xs k ||| setW gNeg xs k = setW gNon xs k := by
 apply Nat.eq_of_testBit_eq
 intro i
 rw [Nat.testBit_or, setW_bit, setW_bit, setW_bit]
 by_cases h : i < k
 ·simp only [h, decide_true, Bool.true_and, gPos, gNeg, gNon]
  by_cases h1 : xs[i]?.getD 0 = 0
  ·simp [h1]
  ·by_cases h2 : 0 < xs[i]?.getD 0
   ·simp [h1, h2]
   ·have : xs[i]?.getD 0 < 0 := by omega
    simp [h1, this]
 ·simp [h]
set_option maxRecDepth 100000 in
theorem sides_any (f r : Int) (p : Option Addr) (c : Nat) (xs : List Int) (w : World) (hx : Arr .i8 w p xs) (hok : boardB f r xs = true) :
  Calls Tryz.prog 203 #[.agg (bdCs f r p xs.length c).toArray] w fun e w' => e = .returned (.tuple #[.int .u64 (setW gPos xs xs.length : Nat), .int .u64 (setW gNeg xs xs.length : Nat), .int .i64 0]) ∧ Below w.heap.size w w' := by
 obtain ⟨hs1, hlen, _⟩ := boardB_fact hok
 have hm := size_mul hs1
 have hl : xs.length ≤ 64 := by omega
 have hb := below_box w (.cells (bdCs f r p xs.length c).toArray 91)
 have hA := HasO.new w (.cells (bdCs f r p xs.length c).toArray 91)
 have hc0 := hA.cells
 have hl0 := hA.lt
 clear hs1 hlen hm
 go_enter Tryz.func203, Tryz.ntmps203
 go_wp2_with fail
 refine (board_any f r p c xs _ (hx.call hb)).mono ?_
 rintro e w1 ⟨rfl, hb1⟩
 have hb' := below_call hb hb.size hb1
 have hx1 := hx.call hb'
 have hA1 := hA.call hb1
 clear hb1 hA hb hx hc0 hl0
 rw [hok]
 go_wp2_with fail
 refine wp_region_valsL (by kernel_rfl) (by kernel_rfl) [some 8, some 9, some 10, some 11, some 2, some 3, some 4] (by rfl) (by rfl) (fun i => match i with | 0 => .agg (bdCs f r p xs.length c).toArray | 1 => .int .u64 (setW gPos xs xs.length : Nat) | 2 => .agg (bdCs f r p xs.length c).toArray | 3 => .int .u64 (setW gNeg xs xs.length : Nat) | 4 => .int .u64 (setW gPos xs xs.length : Nat) | 5 => .int .u64 (setW gNeg xs xs.length : Nat) | 6 => .int .i64 0 | _ => undef) (fun W => Below w1.heap.size w1 W) (Below.refl _ _).drew ?hstep ?hend
 case hstep =>
  intro i9 o9 f9 W ho hi hC hf K hK
  have hi : i9 < 7 := hi
  rcases i9 with _ | _ | _ | _ | _ | _ | _ | i9
  ·exact st_loadA (og ho) 91 (.tmp 1) (oo ho) (rd_out rfl rfl) (bdCs f r p xs.length c) (by kernel_rfl) (fun j v hv => by rw [Nat.zero_add, (hA1.call hC).cells j]; simpa using hv) (hK _ hC)
  ·exact st_call2 (og ho) 209 (.tmp 8) (.func 210) #[91, 143] (oo ho) (ri 0 (da ho hf 0)) rfl (fun _ _ => rfl) (where_any 210 gPos (fun _ _ => rfl) gPos_any f r p c xs W (hx1.call hC) hl) (by rintro u w9 ⟨h9, hb9⟩; injection h9 with h9; subst h9; exact hK _ (below_call hC hC.size hb9)) (fun _ _ h => nomatch h.1) (fun _ h => nomatch h.1)
  ·exact st_loadA (og ho) 91 (.tmp 1) (oo ho) (rd_out rfl rfl) (bdCs f r p xs.length c) (by kernel_rfl) (fun j v hv => by rw [Nat.zero_add, (hA1.call hC).cells j]; simpa using hv) (hK _ hC)
  ·exact st_call2 (og ho) 209 (.tmp 10) (.func 211) #[91, 143] (oo ho) (ri 2 (da ho hf 2)) rfl (fun _ _ => rfl) (where_any 211 gNeg (fun _ _ => rfl) gNeg_any f r p c xs W (hx1.call hC) hl) (by rintro u w9 ⟨h9, hb9⟩; injection h9 with h9; subst h9; exact hK _ (below_call hC hC.size hb9)) (fun _ _ h => nomatch h.1) (fun _ h => nomatch h.1)
  ·exact st_assign (og ho) (.tmp 9) (oo ho) (ri 1 (da ho hf 1)) (hK _ hC)
  ·exact st_assign (og ho) (.tmp 11) (oo ho) (ri 3 (da ho hf 3)) (hK _ hC)
  ·exact st_assign (og ho) (.const (.int .i64 0)) (oo ho) rfl (hK _ hC)
  ·omega
 case hend =>
  intro W hC
  go_wp2_with fail
  refine bodyPost_ret (results_tmp3 (fn := Tryz.f203) Tryz.results203 _ _ _) (by rw [putL_defers]) ?_
  refine ⟨?_, below_call hb' hb'.size hC⟩
  rw [slot_in rfl 4 rfl (by simp) rfl, slot_in rfl 5 rfl (by simp) rfl, slot_in rfl 6 rfl (by simp) rfl]
  rfl
theorem occupied_any (f r : Int) (p : Option Addr) (c : Nat) (xs : List Int) (w : World) (hx : Arr .i8 w p xs) (hok : boardB f r xs = true) :
  Calls Tryz.prog 193 #[.agg (bdCs f r p xs.length c).toArray] w fun e w' => e = .returned (.int .u64 (setW gNon xs xs.length : Nat)) ∧ Below w.heap.size w w' := by
 obtain ⟨hs1, hlen, _⟩ := boardB_fact hok
 have hm := size_mul hs1
 have hl : xs.length ≤ 64 := by omega
 have hb := below_box w (.cells (bdCs f r p xs.length c).toArray 91)
 have hA := HasO.new w (.cells (bdCs f r p xs.length c).toArray 91)
 have hc0 := hA.cells
 have hl0 := hA.lt
 have e1 : bits .or .u64 (setW gPos xs xs.length : Nat) (setW gNeg xs xs.length : Nat) = ((setW gNon xs xs.length : Nat) : Int) := by
  rw [u64_or_nat _ _ (setW_lt _ _ hl) (setW_lt _ _ hl), setW_or]
 clear hs1 hlen hm
 go_enter Tryz.func193, Tryz.ntmps193
 go_wp2_with fail
 refine (sides_any f r p c xs _ (hx.call hb) hok).mono ?_
 rintro e w1 ⟨rfl, hb1⟩
 have hb' := below_call hb hb.size hb1
 go_wp2_with fail
 go_ret
 exact ⟨by rw [← e1]; rfl, hb'⟩

def idxs (g : Int → Bool) (xs : List Int) : Nat → List Int
 | 0 => []
 | k + 1 => if g (xs[k]?.getD 0) then idxs g xs k ++ [(k : Int)] else idxs g xs k
theorem idxs_len (g : Int → Bool) (xs : List Int) (k : Nat) : (idxs g xs k).length ≤ k := by
 induction k with
 | zero => simp [idxs]
 | succ k ih =>
  simp only [idxs]
  split
  ·simp; omega
  ·omega
def lsR (w : World) (g : Int → Bool) (xs : List Int) (i : Nat) (sv iv : Value) (wr : World) : Prop :=
 i ≤ xs.length ∧ iv = .int .i64 i ∧ wr.ownsRow w.heap.size 3 1 sv (idxs g xs i).length ((idxs g xs i).map (.int .i64)) ∧ Below w.heap.size w wr
set_option maxRecDepth 100000 in
theorem refList_any (f r x : Int) (p : Option Addr) (c : Nat) (xs : List Int) (w : World) (hx : Arr .i8 w p xs) (hl : xs.length ≤ 64) :
  Calls Tryz.prog 111 #[.agg (bdCs f r p xs.length c).toArray, .int .i8 x] w fun e w' => (∃ v, e = .returned v ∧ w'.ownsRow w.heap.size 3 1 v (idxs (· == x) xs xs.length).length ((idxs (· == x) xs xs.length).map (.int .i64))) ∧ Below w.heap.size w w' := by
 obtain ⟨i3, hi3, hz3, hs3, hy3⟩ := info_parts Tryz.info3
 have hb := below_box w (.cells (bdCs f r p xs.length c).toArray 91)
 have hA := HasO.new w (.cells (bdCs f r p xs.length c).toArray 91)
 go_enter Tryz.func111, Tryz.ntmps111
 go_wp2_with fail
 show Code.wp _ _ _ _ (w.alloc (.cells (bdCs f r p xs.length c).toArray 91))
 obtain ⟨w1, hw1⟩ : ∃ x, x = w.alloc (.cells (bdCs f r p xs.length c).toArray 91) := ⟨_, rfl⟩
 have hx1 := hx.call hb
 rw [← hw1] at hA hb hx1 ⊢
 clear hw1 hx
 go_loopg [5, 6] 65 (fun q sv iv wr => ∃ i : Nat, q + i = 65 ∧ lsR w1 (· == x) xs i sv iv wr)
 case atStart => exact ⟨0, rfl, ⟨Nat.zero_le _, rfl, World.ownsRow_nil _ _ _ _, Below.refl _ _⟩⟩
 case round =>
  obtain ⟨i, hq, ⟨hi, rfl, hown, hbr⟩⟩ := hrel
  have hcr := (hA.call hbr).cells
  have hlr := (hA.call hbr).lt
  by_cases hlt : i < xs.length
  ·have hii : (i : Int) < xs.length := by omega
   obtain ⟨b, o, rfl, hbl, hc⟩ := (hx1.call hbr).at hlt
   have hci := hc i hlt
   obtain ⟨y, hyv⟩ : ∃ y, y = xs[i]?.getD 0 := ⟨_, rfl⟩
   rw [← hyv] at hci
   have hlen := idxs_len (· == x) xs i
   have hnx : idxs (· == x) xs (i + 1) = if (· == x) y then idxs (· == x) xs i ++ [(i : Int)] else idxs (· == x) xs i := by rw [hyv]; rfl
   replace hyv := Lib.hid hyv
   clear hc
   rcases hyx : (y == x) with _ | _
   ·replace hnx : idxs (· == x) xs (i + 1) = idxs (· == x) xs i := by rw [hnx, if_neg (by simp; simpa using hyx)]
    replace hnx := Lib.hid hnx
    go_wp2_with fail
    go_roundg (gk - 1)
    case measure => omega
    case rel => exact ⟨i + 1, by omega, ⟨by omega, by go_num, by rw [hnx.out]; exact hown, hbr⟩⟩
   ·replace hnx : idxs (· == x) xs (i + 1) = idxs (· == x) xs i ++ [(i : Int)] := by rw [hnx, if_pos (by simpa using hyx)]
    replace hnx := Lib.hid hnx
    go_wp2_with (at_builtin; refine wpList_push_at rfl (.tmp 21) (.tmp 23) 132 rfl w1.heap.size 3 i3 (.int .i64 0) 8 Tryz.underlying132 hi3 hz3 hs3 hy3 rfl _ (idxs (· == x) xs i).length ((idxs (· == x) xs i).map (.int .i64)) rfl hown 1 [.int .i64 (i : Int)] rfl (by intro u hu; simp at hu; subst hu; rfl) _ rfl rfl (by omega) hbr.size ?_)
    intro v' w9 hown9 hg9 _
    have hb9 := (hbr.alloc hbr.size (.cells #[.int .i64 (i : Int)] 3)).grown hg9 (Nat.le_trans hbr.size (by simp)) (fun j e => (hown.lt j e).1)
    replace hown9 : w9.ownsRow w1.heap.size 3 1 v' (idxs (· == x) xs (i + 1)).length ((idxs (· == x) xs (i + 1)).map (.int .i64)) := by rw [hnx.out]; simpa using hown9
    clear hown hg9
    go_wp2_with fail
    go_roundg (gk - 1)
    case measure => omega
    case rel => exact ⟨i + 1, by omega, ⟨by omega, by go_num, hown9, hb9⟩⟩
  ·have hii : ¬ (i : Int) < xs.length := by omega
   obtain rfl : i = xs.length := by omega
   go_wp2_with fail
   go_ret
   exact ⟨⟨_, rfl, own_mono hown hb.size⟩, below_call hb hb.size hbr⟩
set_option maxRecDepth 100000 in
theorem refSideL_any (f r d : Int) (p : Option Addr) (c : Nat) (xs : List Int) (w : World) (hx : Arr .i8 w p xs) (hl : xs.length ≤ 64) :
  Calls Tryz.prog 148 #[.agg (bdCs f r p xs.length c).toArray, .int .i64 d] w fun e w' => (∃ v, e = .returned v ∧ w'.ownsRow w.heap.size 3 1 v (idxs (fun z => sgnI z == d) xs xs.length).length ((idxs (fun z => sgnI z == d) xs xs.length).map (.int .i64))) ∧ Below w.heap.size w w' := by
 obtain ⟨i3, hi3, hz3, hs3, hy3⟩ := info_parts Tryz.info3
 have hb := below_box w (.cells (bdCs f r p xs.length c).toArray 91)
 have hA := HasO.new w (.cells (bdCs f r p xs.length c).toArray 91)
 go_enter Tryz.func148, Tryz.ntmps148
 go_wp2_with fail
 show Code.wp _ _ _ _ (w.alloc (.cells (bdCs f r p xs.length c).toArray 91))
 obtain ⟨w1, hw1⟩ : ∃ x, x = w.alloc (.cells (bdCs f r p xs.length c).toArray 91) := ⟨_, rfl⟩
 have hx1 := hx.call hb
 rw [← hw1] at hA hb hx1 ⊢
 clear hw1 hx
 go_loopg [5, 6] 65 (fun q sv iv wr => ∃ i : Nat, q + i = 65 ∧ lsR w1 (fun z => sgnI z == d) xs i sv iv wr)
 case atStart => exact ⟨0, rfl, ⟨Nat.zero_le _, rfl, World.ownsRow_nil _ _ _ _, Below.refl _ _⟩⟩
 case round =>
  obtain ⟨i, hq, ⟨hi, rfl, hown, hbr⟩⟩ := hrel
  have hcr := (hA.call hbr).cells
  have hlr := (hA.call hbr).lt
  by_cases hlt : i < xs.length
  ·have hii : (i : Int) < xs.length := by omega
   obtain ⟨b, o, rfl, hbl, hc⟩ := (hx1.call hbr).at hlt
   have hci := hc i hlt
   obtain ⟨y, hyv⟩ : ∃ y, y = xs[i]?.getD 0 := ⟨_, rfl⟩
   rw [← hyv] at hci
   have hlen := idxs_len (fun z => sgnI z == d) xs i
   have hnx : idxs (fun z => sgnI z == d) xs (i + 1) = if (fun z => sgnI z == d) y then idxs (fun z => sgnI z == d) xs i ++ [(i : Int)] else idxs (fun z => sgnI z == d) xs i := by rw [hyv]; rfl
   replace hyv := Lib.hid hyv
   clear hc
   go_wp2_with fail
   refine (refSide_any y _).mono ?_
   rintro e w2 ⟨rfl, rfl⟩
   rcases hyx : (sgnI y == d) with _ | _
   ·replace hnx : idxs (fun z => sgnI z == d) xs (i + 1) = idxs (fun z => sgnI z == d) xs i := by rw [hnx, if_neg (by simp; simpa using hyx)]
    replace hnx := Lib.hid hnx
    go_wp2_with fail
    go_roundg (gk - 1)
    case measure => omega
    case rel => exact ⟨i + 1, by omega, ⟨by omega, by go_num, by rw [hnx.out]; exact hown, hbr⟩⟩
   ·replace hnx : idxs (fun z => sgnI z == d) xs (i + 1) = idxs (fun z => sgnI z == d) xs i ++ [(i : Int)] := by rw [hnx, if_pos (by simpa using hyx)]
    replace hnx := Lib.hid hnx
    go_wp2_with (at_builtin; refine wpList_push_at rfl (.tmp 22) (.tmp 24) 132 rfl w1.heap.size 3 i3 (.int .i64 0) 8 Tryz.underlying132 hi3 hz3 hs3 hy3 rfl _ (idxs (fun z => sgnI z == d) xs i).length ((idxs (fun z => sgnI z == d) xs i).map (.int .i64)) rfl hown 1 [.int .i64 (i : Int)] rfl (by intro u hu; simp at hu; subst hu; rfl) _ rfl rfl (by omega) hbr.size ?_)
    intro v' w9 hown9 hg9 _
    have hb9 := (hbr.alloc hbr.size (.cells #[.int .i64 (i : Int)] 3)).grown hg9 (Nat.le_trans hbr.size (by simp)) (fun j e => (hown.lt j e).1)
    replace hown9 : w9.ownsRow w1.heap.size 3 1 v' (idxs (fun z => sgnI z == d) xs (i + 1)).length ((idxs (fun z => sgnI z == d) xs (i + 1)).map (.int .i64)) := by rw [hnx.out]; simpa using hown9
    clear hown hg9
    go_wp2_with fail
    go_roundg (gk - 1)
    case measure => omega
    case rel => exact ⟨i + 1, by omega, ⟨by omega, by go_num, hown9, hb9⟩⟩
  ·have hii : ¬ (i : Int) < xs.length := by omega
   obtain rfl : i = xs.length := by omega
   go_wp2_with fail
   go_ret
   exact ⟨⟨_, rfl, own_mono hown hb.size⟩, below_call hb hb.size hbr⟩
def hasS (S : Nat) (x : Int) : Bool := decide (0 ≤ x) && (decide (x < 64) && S.testBit x.toNat)
theorem hasS_out {S : Nat} {x : Int} (h : ¬ (0 ≤ x ∧ x < 64)) : hasS S x = false := by
 unfold hasS
 by_cases h1 : 0 ≤ x
 ·have : ¬ x < 64 := fun h2 => h ⟨h1, h2⟩
  simp [this]
 ·simp [h1]
theorem hasS_nat (S n : Nat) (hn : n < 64) : hasS S n = S.testBit n := by
 unfold hasS
 have : (n : Int) < 64 := by omega
 simp [this]
theorem div_pow_nat (S n : Nat) : ((S : Int) / 2 ^ n) = ((S / 2 ^ n : Nat) : Int) := by simp
theorem bit_tmod (S n : Nat) : (((S : Int) / 2 ^ n).tmod 2 == 1) = S.testBit n := by
 rw [div_pow_nat, Nat.testBit_eq_decide_div_mod_eq]
 obtain ⟨m, hm⟩ : ∃ m, m = S / 2 ^ n := ⟨_, rfl⟩
 rw [← hm]
 have h : ((m : Int)).tmod 2 = ((m % 2 : Nat) : Int) := rfl
 rw [h]
 by_cases h2 : m % 2 = 1
 ·simp [h2]
 ·have : m % 2 = 0 := by omega
  simp [this]
theorem refHas_any (S : Nat) (x : Int) (w : World) : Calls Tryz.prog 196 #[.int .u64 (S : Nat), .int .i64 x] w fun e w' => e = .returned (.bool (hasS S x)) ∧ w = w' := by
 go_enter Tryz.func196, Tryz.ntmps196
 by_cases h : 0 ≤ x ∧ x < 64
 ·obtain ⟨n, rfl⟩ : ∃ n : Nat, x = n := ⟨x.toNat, by omega⟩
  have h2 : (n : Int) < 64 := h.2
  rw [hasS_nat S n (by omega)]
  go_wp2_with fail
  go_ret
  exact ⟨ret_bool (bit_tmod S n), rfl⟩
 ·have e0 := Lib.hid (hasS_out (S := S) h)
  by_cases h1 : 0 ≤ x
  ·have h2 : ¬ x < 64 := fun h3 => h ⟨h1, h3⟩
   go_wp2_with fail
   go_ret
   exact ⟨by rw [e0.out]; rfl, rfl⟩
  ·go_wp2_with fail
   go_ret
   exact ⟨by rw [e0.out]; rfl, rfl⟩
def elI (l : List Int) (x : Int) : Bool := l.any (· == x)
theorem refHasL_any (p : Option Addr) (c : Nat) (xs : List Int) (x : Int) (w : World) (hx : Arr .i64 w p xs) (hl : xs.length ≤ 1000) :
  Calls Tryz.prog 180 #[.slice p xs.length c, .int .i64 x] w fun e w' => e = .returned (.bool (elI xs x)) ∧ Below w.heap.size w w' := by
 go_enter Tryz.func180, Tryz.ntmps180
 go_wp2_with fail
 go_loopg [5] 1001 (fun q iv wr => ∃ i : Nat, q + i = 1001 ∧ i ≤ xs.length ∧ iv = .int .i64 i ∧ Below w.heap.size w wr ∧ elI (xs.take i) x = false)
 case atStart => exact ⟨0, rfl, Nat.zero_le _, rfl, Below.refl _ _, rfl⟩
 case round =>
  obtain ⟨i, hq, hi, rfl, hb, ha⟩ := hrel
  replace ha := Lib.hid ha
  by_cases hlt : i < xs.length
  ·have hii : (i : Int) < xs.length := by omega
   obtain ⟨b, o, rfl, hbl, hc⟩ := (hx.call hb).at hlt
   have hci := hc i hlt
   have hget : xs[i]?.getD 0 = xs[i] := by simp [hlt]
   obtain ⟨y, hxv⟩ : ∃ y, y = xs[i]?.getD 0 := ⟨_, rfl⟩
   rw [← hxv] at hci hget
   replace hget := Lib.hid hget
   clear hc hxv
   by_cases hyx : y = x
   ·have e1 : Hid (elI xs x = true) := Lib.hid (by unfold elI; rw [List.any_eq_true]; exact ⟨xs[i], List.getElem_mem hlt, by rw [← hget.out]; simp [hyx]⟩)
    have hyx2 : (y == x) = true := by simp [hyx]
    go_wp2_with fail
    go_ret
    exact ⟨by rw [e1.out]; rfl, hb⟩
   ·have hyx2 : (y == x) = false := by simp [hyx]
    go_wp2_with fail
    go_roundg (gk - 1)
    case measure => omega
    case rel => exact ⟨i + 1, by omega, by omega, by go_num, hb, by have ha := ha.out; unfold elI at ha ⊢; rw [List.take_succ_eq_append_getElem hlt, List.any_append, ha]; simp [← hget.out]; exact hyx⟩
  ·have hii : ¬ (i : Int) < xs.length := by omega
   have e1 : Hid (elI xs x = false) := Lib.hid (by have ha := ha.out; rwa [List.take_of_length_le (by omega)] at ha)
   go_wp2_with fail
   go_ret
   exact ⟨by rw [e1.out]; rfl, hb⟩
def freeL (l : List Int) (S : Nat) : Bool := l.all fun x => !hasS S x
theorem refFree_any (p : Option Addr) (c : Nat) (xs : List Int) (S : Nat) (w : World) (hx : Arr .i64 w p xs) (hl : xs.length ≤ 1000) :
  Calls Tryz.prog 200 #[.slice p xs.length c, .int .u64 (S : Nat)] w fun e w' => e = .returned (.bool (freeL xs S)) ∧ Below w.heap.size w w' := by
 go_enter Tryz.func200, Tryz.ntmps200
 go_wp2_with fail
 go_loopg [5] 1001 (fun q iv wr => ∃ i : Nat, q + i = 1001 ∧ i ≤ xs.length ∧ iv = .int .i64 i ∧ Below w.heap.size w wr ∧ freeL (xs.take i) S = true)
 case atStart => exact ⟨0, rfl, Nat.zero_le _, rfl, Below.refl _ _, rfl⟩
 case round =>
  obtain ⟨i, hq, hi, rfl, hb, ha⟩ := hrel
  replace ha := Lib.hid ha
  by_cases hlt : i < xs.length
  ·have hii : (i : Int) < xs.length := by omega
   obtain ⟨b, o, rfl, hbl, hc⟩ := (hx.call hb).at hlt
   have hci := hc i hlt
   have hget : xs[i]?.getD 0 = xs[i] := by simp [hlt]
   obtain ⟨y, hxv⟩ : ∃ y, y = xs[i]?.getD 0 := ⟨_, rfl⟩
   rw [← hxv] at hci hget
   replace hget := Lib.hid hget
   clear hc hxv
   go_wp2_with fail
   refine (refHas_any S y _).mono ?_
   rintro e w2 ⟨rfl, rfl⟩
   rcases hyx : hasS S y with _ | _
   ·go_wp2_with fail
    go_roundg (gk - 1)
    case measure => omega
    case rel => exact ⟨i + 1, by omega, by omega, by go_num, hb, take_all hlt ha.out hget.out.symm (by rw [hyx]; rfl)⟩
   ·have e1 : Hid (freeL xs S = false) := Lib.hid (by unfold freeL; rw [List.all_eq_false]; exact ⟨xs[i], List.getElem_mem hlt, by rw [← hget.out]; simp [hyx]⟩)
    go_wp2_with fail
    go_ret
    exact ⟨by rw [e1.out]; rfl, hb⟩
  ·have hii : ¬ (i : Int) < xs.length := by omega
   have e1 : Hid (freeL xs S = true) := Lib.hid (by have ha := ha.out; rwa [List.take_of_length_le (by omega)] at ha)
   go_wp2_with fail
   go_ret
   exact ⟨by rw [e1.out]; rfl, hb⟩
end Go.Proofs.YtnpomigmeieofaaGreatDoor
