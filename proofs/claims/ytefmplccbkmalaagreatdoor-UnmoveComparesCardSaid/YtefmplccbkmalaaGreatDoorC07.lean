import Derived.Test.YtefmplccbkmalaaGreatDoorC06
set_option maxHeartbeats 12800000
namespace Go.Proofs.YtefmplccbkmalaaGreatDoor
open Go.RowKit

theorem occupied_any (f r : Int) (p : Option Addr) (c : Nat) (xs : List Int) (w : World) (hx : Arr .i8 w p xs) (hok : boardB f r xs = true) :
  Calls Tryz.prog 175 #[.agg (bdCs f r p xs.length c).toArray] w fun e w' => e = .returned (.int .u64 (setW gNon xs xs.length : Nat)) ∧ Below w.heap.size w w' := by
 obtain ⟨hs1, hlen, _⟩ := boardB_fact hok
 have hm := size_mul hs1
 have hl : xs.length ≤ 64 := by omega
 have hb := below_box w (.cells (bdCs f r p xs.length c).toArray 68)
 have hA := HasO.new w (.cells (bdCs f r p xs.length c).toArray 68)
 have hc0 := hA.cells
 have hl0 := hA.lt
 have e1 : bits .or .u64 (setW gPos xs xs.length : Nat) (setW gNeg xs xs.length : Nat) = ((setW gNon xs xs.length : Nat) : Int) := by
  rw [u64_or_nat _ _ (setW_lt _ _ hl) (setW_lt _ _ hl), setW_or]
 clear hs1 hlen hm
 go_enter Tryz.func175, Tryz.ntmps175
 go_wp2_with fail
 refine (sides_any f r p c xs _ (hx.call hb) hok).mono ?_
 rintro e w1 ⟨rfl, hb1⟩
 have hb' := below_call hb hb.size hb1
 go_wp2_with fail
 go_ret
 exact ⟨by rw [← e1]; rfl, hb'⟩

def idxs (g : Int → Bool) (xs : List Int) : Nat → List Int
 | 0 => []
 | k + 1 => if g (xs[k]?.getD 0) then idxs g xs k ++ [(k : Int)] else idxs g xs k
theorem idxs_len (g : Int → Bool) (xs : List Int) (k : Nat) : (idxs g xs k).length ≤ k := by
 induction k with
 | zero => simp [idxs]
 | succ k ih =>
  simp only [idxs]
  split
  ·simp; omega
  ·omega
def lsR (w : World) (g : Int → Bool) (xs : List Int) (i : Nat) (sv iv : Value) (wr : World) : Prop :=
 i ≤ xs.length ∧ iv = .int .i64 i ∧ wr.ownsRow w.heap.size 3 1 sv (idxs g xs i).length ((idxs g xs i).map (.int .i64)) ∧ Below w.heap.size w wr
set_option maxRecDepth 100000 in
theorem refList_any (f r x : Int) (p : Option Addr) (c : Nat) (xs : List Int) (w : World) (hx : Arr .i8 w p xs) (hl : xs.length ≤ 64) :
  Calls Tryz.prog 98 #[.agg (bdCs f r p xs.length c).toArray, .int .i8 x] w fun e w' => (∃ v, e = .returned v ∧ w'.ownsRow w.heap.size 3 1 v (idxs (· == x) xs xs.length).length ((idxs (· == x) xs xs.length).map (.int .i64))) ∧ Below w.heap.size w w' := by
 obtain ⟨i3, hi3, hz3, hs3, hy3⟩ := info_parts Tryz.info3
 have hb := below_box w (.cells (bdCs f r p xs.length c).toArray 68)
 have hA := HasO.new w (.cells (bdCs f r p xs.length c).toArray 68)
 go_enter Tryz.func98, Tryz.ntmps98
 go_wp2_with fail
 show Code.wp _ _ _ _ (w.alloc (.cells (bdCs f r p xs.length c).toArray 68))
 obtain ⟨w1, hw1⟩ : ∃ x, x = w.alloc (.cells (bdCs f r p xs.length c).toArray 68) := ⟨_, rfl⟩
 have hx1 := hx.call hb
 rw [← hw1] at hA hb hx1 ⊢
 clear hw1 hx
 go_loopg [5, 6] 65 (fun q sv iv wr => ∃ i : Nat, q + i = 65 ∧ lsR w1 (· == x) xs i sv iv wr)
 case atStart => exact ⟨0, rfl, ⟨Nat.zero_le _, rfl, World.ownsRow_nil _ _ _ _, Below.refl _ _⟩⟩
 case round =>
  obtain ⟨i, hq, ⟨hi, rfl, hown, hbr⟩⟩ := hrel
  have hcr := (hA.call hbr).cells
  have hlr := (hA.call hbr).lt
  by_cases hlt : i < xs.length
  ·have hii : (i : Int) < xs.length := by omega
   obtain ⟨b, o, rfl, hbl, hc⟩ := (hx1.call hbr).at hlt
   have hci := hc i hlt
   obtain ⟨y, hyv⟩ : ∃ y, y = xs[i]?.getD 0 := ⟨_, rfl⟩
   rw [← hyv] at hci
   have hlen := idxs_len (· == x) xs i
   have hnx : idxs (· == x) xs (i + 1) = if (· == x) y then idxs (· == x) xs i ++ [(i : Int)] else idxs (· == x) xs i := by rw [hyv]; rfl
   replace hyv := Lib.hid hyv
   clear hc
   rcases hyx : (y == x) with _ | _
   ·replace hnx : idxs (· == x) xs (i + 1) = idxs (· == x) xs i := by rw [hnx, if_neg (by simp; simpa using hyx)]
    replace hnx := Lib.hid hnx
    go_wp2_with fail
    go_roundg (gk - 1)
    case measure => omega
    case rel => exact ⟨i + 1, by omega, ⟨by omega, by go_num, by rw [hnx.out]; exact hown, hbr⟩⟩
   ·replace hnx : idxs (· == x) xs (i + 1) = idxs (· == x) xs i ++ [(i : Int)] := by rw [hnx, if_pos (by simpa using hyx)]
    replace hnx := Lib.hid hnx
    go_wp2_with (at_builtin; refine wpList_push_at rfl (.tmp 21) (.tmp 23) 136 rfl w1.heap.size 3 i3 (.int .i64 0) 8 Tryz.underlying136 hi3 hz3 hs3 hy3 rfl _ (idxs (· == x) xs i).length ((idxs (· == x) xs i).map (.int .i64)) rfl hown 1 [.int .i64 (i : Int)] rfl (by intro u hu; simp at hu; subst hu; rfl) _ rfl rfl (by omega) hbr.size ?_)
    intro v' w9 hown9 hg9 _
    have hb9 := (hbr.alloc hbr.size (.cells #[.int .i64 (i : Int)] 3)).grown hg9 (Nat.le_trans hbr.size (by simp)) (fun j e => (hown.lt j e).1)
    replace hown9 : w9.ownsRow w1.heap.size 3 1 v' (idxs (· == x) xs (i + 1)).length ((idxs (· == x) xs (i + 1)).map (.int .i64)) := by rw [hnx.out]; simpa using hown9
    clear hown hg9
    go_wp2_with fail
    go_roundg (gk - 1)
    case measure => omega
    case rel => exact ⟨i + 1, by omega, ⟨by omega, by go_num, hown9, hb9⟩⟩
  ·have hii : ¬ (i : Int) < xs.length := by omega
   obtain rfl : i = xs.length := by omega
   go_wp2_with fail
   go_ret
   exact ⟨⟨_, rfl, own_mono hown hb.size⟩, below_call hb hb.size hbr⟩
set_option maxRecDepth 100000 in
theorem refSideL_any (f r d : Int) (p : Option Addr) (c : Nat) (xs : List Int) (w : World) (hx : Arr .i8 w p xs) (hl : xs.length ≤ 64) :
  Calls Tryz.prog 158 #[.agg (bdCs f r p xs.length c).toArray, .int .i64 d] w fun e w' => (∃ v, e = .returned v ∧ w'.ownsRow w.heap.size 3 1 v (idxs (fun z => sgnI z == d) xs xs.length).length ((idxs (fun z => sgnI z == d) xs xs.length).map (.int .i64))) ∧ Below w.heap.size w w' := by
 obtain ⟨i3, hi3, hz3, hs3, hy3⟩ := info_parts Tryz.info3
 have hb := below_box w (.cells (bdCs f r p xs.length c).toArray 68)
 have hA := HasO.new w (.cells (bdCs f r p xs.length c).toArray 68)
 go_enter Tryz.func158, Tryz.ntmps158
 go_wp2_with fail
 show Code.wp _ _ _ _ (w.alloc (.cells (bdCs f r p xs.length c).toArray 68))
 obtain ⟨w1, hw1⟩ : ∃ x, x = w.alloc (.cells (bdCs f r p xs.length c).toArray 68) := ⟨_, rfl⟩
 have hx1 := hx.call hb
 rw [← hw1] at hA hb hx1 ⊢
 clear hw1 hx
 go_loopg [5, 6] 65 (fun q sv iv wr => ∃ i : Nat, q + i = 65 ∧ lsR w1 (fun z => sgnI z == d) xs i sv iv wr)
 case atStart => exact ⟨0, rfl, ⟨Nat.zero_le _, rfl, World.ownsRow_nil _ _ _ _, Below.refl _ _⟩⟩
 case round =>
  obtain ⟨i, hq, ⟨hi, rfl, hown, hbr⟩⟩ := hrel
  have hcr := (hA.call hbr).cells
  have hlr := (hA.call hbr).lt
  by_cases hlt : i < xs.length
  ·have hii : (i : Int) < xs.length := by omega
   obtain ⟨b, o, rfl, hbl, hc⟩ := (hx1.call hbr).at hlt
   have hci := hc i hlt
   obtain ⟨y, hyv⟩ : ∃ y, y = xs[i]?.getD 0 := ⟨_, rfl⟩
   rw [← hyv] at hci
   have hlen := idxs_len (fun z => sgnI z == d) xs i
   have hnx : idxs (fun z => sgnI z == d) xs (i + 1) = if (fun z => sgnI z == d) y then idxs (fun z => sgnI z == d) xs i ++ [(i : Int)] else idxs (fun z => sgnI z == d) xs i := by rw [hyv]; rfl
   replace hyv := Lib.hid hyv
   clear hc
   go_wp2_with fail
   refine (refSide_any y _).mono ?_
   rintro e w2 ⟨rfl, rfl⟩
   rcases hyx : (sgnI y == d) with _ | _
   ·replace hnx : idxs (fun z => sgnI z == d) xs (i + 1) = idxs (fun z => sgnI z == d) xs i := by rw [hnx, if_neg (by simp; simpa using hyx)]
    replace hnx := Lib.hid hnx
    go_wp2_with fail
    go_roundg (gk - 1)
    case measure => omega
    case rel => exact ⟨i + 1, by omega, ⟨by omega, by go_num, by rw [hnx.out]; exact hown, hbr⟩⟩
   ·replace hnx : idxs (fun z => sgnI z == d) xs (i + 1) = idxs (fun z => sgnI z == d) xs i ++ [(i : Int)] := by rw [hnx, if_pos (by simpa using hyx)]
    replace hnx := Lib.hid hnx
    go_wp2_with (at_builtin; refine wpList_push_at rfl (.tmp 22) (.tmp 24) 136 rfl w1.heap.size 3 i3 (.int .i64 0) 8 Tryz.underlying136 hi3 hz3 hs3 hy3 rfl _ (idxs (fun z => sgnI z == d) xs i).length ((idxs (fun z => sgnI z == d) xs i).map (.int .i64)) rfl hown 1 [.int .i64 (i : Int)] rfl (by intro u hu; simp at hu; subst hu; rfl) _ rfl rfl (by omega) hbr.size ?_)
    intro v' w9 hown9 hg9 _
    have hb9 := (hbr.alloc hbr.size (.cells #[.int .i64 (i : Int)] 3)).grown hg9 (Nat.le_trans hbr.size (by simp)) (fun j e => (hown.lt j e).1)
    replace hown9 : w9.ownsRow w1.heap.size 3 1 v' (idxs (fun z => sgnI z == d) xs (i + 1)).length ((idxs (fun z => sgnI z == d) xs (i + 1)).map (.int .i64)) := by rw [hnx.out]; simpa using hown9
    clear hown hg9
    go_wp2_with fail
    go_roundg (gk - 1)
    case measure => omega
    case rel => exact ⟨i + 1, by omega, ⟨by omega, by go_num, hown9, hb9⟩⟩
  ·have hii : ¬ (i : Int) < xs.length := by omega
   obtain rfl : i = xs.length := by omega
   go_wp2_with fail
   go_ret
   exact ⟨⟨_, rfl, own_mono hown hb.size⟩, below_call hb hb.size hbr⟩
def hasS (S : Nat) (x : Int) : Bool := decide (0 ≤ x) && (decide (x < 64) && S.testBit x.toNat)
theorem hasS_out {S : Nat} {x : Int} (h : ¬ (0 ≤ x ∧ x < 64)) : hasS S x = false := by
 unfold hasS
 by_cases h1 : 0 ≤ x
 ·have : ¬ x < 64 := fun h2 => h ⟨h1, h2⟩
  simp [this]
 ·simp [h1]
theorem hasS_nat (S n : Nat) (hn : n < 64) : hasS S n = S.testBit n := by
 unfold hasS
 have : (n : Int) < 64 := by omega
 simp [this]
theorem div_pow_nat (S n : Nat) : ((S : Int) / 2 ^ n) = ((S / 2 ^ n : Nat) : Int) := by simp
theorem bit_tmod (S n : Nat) : (((S : Int) / 2 ^ n).tmod 2 == 1) = S.testBit n := by
 rw [div_pow_nat, Nat.testBit_eq_decide_div_mod_eq]
 obtain ⟨m, hm⟩ : ∃ m, m = S / 2 ^ n := ⟨_, rfl⟩
 rw [← hm]
 have h : ((m : Int)).tmod 2 = ((m % 2 : Nat) : Int) := rfl
 rw [h]
 by_cases h2 : m % 2 = 1
 ·simp [h2]
 ·have : m % 2 = 0 := by omega
  simp [this]
theorem refHas_any (S : Nat) (x : Int) (w : World) : Calls Tryz.prog 204 #[.int .u64 (S : Nat), .int .i64 x] w fun e w' => e = .returned (.bool (hasS S x)) ∧ w = w' := by
 go_enter Tryz.func204, Tryz.ntmps204
 by_cases h : 0 ≤ x ∧ x < 64
 ·obtain ⟨n, rfl⟩ : ∃ n : Nat, x = n := ⟨x.toNat, by omega⟩
  have h2 : (n : Int) < 64 := h.2
  rw [hasS_nat S n (by omega)]
  go_wp2_with fail
  go_ret
  exact ⟨ret_bool (bit_tmod S n), rfl⟩
 ·have e0 := Lib.hid (hasS_out (S := S) h)
  by_cases h1 : 0 ≤ x
  ·have h2 : ¬ x < 64 := fun h3 => h ⟨h1, h3⟩
   go_wp2_with fail
   go_ret
   exact ⟨by rw [e0.out]; rfl, rfl⟩
  ·go_wp2_with fail
   go_ret
   exact ⟨by rw [e0.out]; rfl, rfl⟩
def elI (l : List Int) (x : Int) : Bool := l.any (· == x)
theorem refHasL_any (p : Option Addr) (c : Nat) (xs : List Int) (x : Int) (w : World) (hx : Arr .i64 w p xs) (hl : xs.length ≤ 1000) :
  Calls Tryz.prog 190 #[.slice p xs.length c, .int .i64 x] w fun e w' => e = .returned (.bool (elI xs x)) ∧ Below w.heap.size w w' := by
 go_enter Tryz.func190, Tryz.ntmps190
 go_wp2_with fail
 go_loopg [5] 1001 (fun q iv wr => ∃ i : Nat, q + i = 1001 ∧ i ≤ xs.length ∧ iv = .int .i64 i ∧ Below w.heap.size w wr ∧ elI (xs.take i) x = false)
 case atStart => exact ⟨0, rfl, Nat.zero_le _, rfl, Below.refl _ _, rfl⟩
 case round =>
  obtain ⟨i, hq, hi, rfl, hb, ha⟩ := hrel
  replace ha := Lib.hid ha
  by_cases hlt : i < xs.length
  ·have hii : (i : Int) < xs.length := by omega
   obtain ⟨b, o, rfl, hbl, hc⟩ := (hx.call hb).at hlt
   have hci := hc i hlt
   have hget : xs[i]?.getD 0 = xs[i] := by simp [hlt]
   obtain ⟨y, hxv⟩ : ∃ y, y = xs[i]?.getD 0 := ⟨_, rfl⟩
   rw [← hxv] at hci hget
   replace hget := Lib.hid hget
   clear hc hxv
   by_cases hyx : y = x
   ·have e1 : Hid (elI xs x = true) := Lib.hid (by unfold elI; rw [List.any_eq_true]; exact ⟨xs[i], List.getElem_mem hlt, by rw [← hget.out]; simp [hyx]⟩)
    have hyx2 : (y == x) = true := by simp [hyx]
    go_wp2_with fail
    go_ret
    exact ⟨by rw [e1.out]; rfl, hb⟩
   ·have hyx2 : (y == x) = false := by simp [hyx]
    go_wp2_with fail
    go_roundg (gk - 1)
    case measure => omega
    case rel => exact ⟨i + 1, by omega, by omega, by go_num, hb, by have ha := ha.out; unfold elI at ha ⊢; rw [List.take_succ_eq_append_getElem hlt, List.any_append, ha]; simp [← hget.out]; exact hyx⟩
  ·have hii : ¬ (i : Int) < xs.length := by omega
   have e1 : Hid (elI xs x = false) := Lib.hid (by have ha := ha.out; rwa [List.take_of_length_le (by omega)] at ha)
   go_wp2_with fail
   go_ret
   exact ⟨by rw [e1.out]; rfl, hb⟩
def freeL (l : List Int) (S : Nat) : Bool := l.all fun x => !hasS S x
theorem refFree_any (p : Option Addr) (c : Nat) (xs : List Int) (S : Nat) (w : World) (hx : Arr .i64 w p xs) (hl : xs.length ≤ 1000) :
  Calls Tryz.prog 198 #[.slice p xs.length c, .int .u64 (S : Nat)] w fun e w' => e = .returned (.bool (freeL xs S)) ∧ Below w.heap.size w w' := by
 go_enter Tryz.func198, Tryz.ntmps198
 go_wp2_with fail
 go_loopg [5] 1001 (fun q iv wr => ∃ i : Nat, q + i = 1001 ∧ i ≤ xs.length ∧ iv = .int .i64 i ∧ Below w.heap.size w wr ∧ freeL (xs.take i) S = true)
 case atStart => exact ⟨0, rfl, Nat.zero_le _, rfl, Below.refl _ _, rfl⟩
 case round =>
  obtain ⟨i, hq, hi, rfl, hb, ha⟩ := hrel
  replace ha := Lib.hid ha
  by_cases hlt : i < xs.length
  ·have hii : (i : Int) < xs.length := by omega
   obtain ⟨b, o, rfl, hbl, hc⟩ := (hx.call hb).at hlt
   have hci := hc i hlt
   have hget : xs[i]?.getD 0 = xs[i] := by simp [hlt]
   obtain ⟨y, hxv⟩ : ∃ y, y = xs[i]?.getD 0 := ⟨_, rfl⟩
   rw [← hxv] at hci hget
   replace hget := Lib.hid hget
   clear hc hxv
   go_wp2_with fail
   refine (refHas_any S y _).mono ?_
   rintro e w2 ⟨rfl, rfl⟩
   rcases hyx : hasS S y with _ | _
   ·go_wp2_with fail
    go_roundg (gk - 1)
    case measure => omega
    case rel => exact ⟨i + 1, by omega, by omega, by go_num, hb, take_all hlt ha.out hget.out.symm (by rw [hyx]; rfl)⟩
   ·have e1 : Hid (freeL xs S = false) := Lib.hid (by unfold freeL; rw [List.all_eq_false]; exact ⟨xs[i], List.getElem_mem hlt, by rw [← hget.out]; simp [hyx]⟩)
    go_wp2_with fail
    go_ret
    exact ⟨by rw [e1.out]; rfl, hb⟩
  ·have hii : ¬ (i : Int) < xs.length := by omega
   have e1 : Hid (freeL xs S = true) := Lib.hid (by have ha := ha.out; rwa [List.take_of_length_le (by omega)] at ha)
   go_wp2_with fail
   go_ret
   exact ⟨by rw [e1.out]; rfl, hb⟩
def cellP (w1 : World) (S : Nat → Bool) (f : Nat → Value) (W : World) (i j : Nat) (P : Array Value) : Prop :=
 S i = true → ∃ q, f i = .pointer (some ⟨q, 0, none⟩) ∧ w1.heap.size ≤ q ∧ ∃ old, HasO W q (.cells old 85 (0, 0)) ∧ old.size = 2 ∧ (S j = true → old = P)
def twoR (w1 : World) (sz : Array Value) (A B : Int) (P1 P2 : Array Value) (S : Nat → Bool) (f : Nat → Value) (W : World) : Prop :=
 Below w1.heap.size w1 W ∧ (S 0 = true → f 0 = .agg sz) ∧ (S 1 = true → f 1 = .int .i64 A) ∧ (S 2 = true → f 2 = .agg P1) ∧ (S 3 = true → f 3 = .agg sz) ∧ (S 4 = true → f 4 = .int .i64 B) ∧ (S 5 = true → f 5 = .agg P2) ∧
 cellP w1 S f W 6 8 P1 ∧ cellP w1 S f W 7 9 P2 ∧ (S 6 = true → S 7 = true → f 6 ≠ f 7)
theorem twoR_congr {w1 : World} {sz : Array Value} {A B : Int} {P1 P2 : Array Value} (S S' : Nat → Bool) (f : Nat → Value) (W : World) (h : ∀ i, i < 10 → S i = S' i) (hR : twoR w1 sz A B P1 P2 S f W) : twoR w1 sz A B P1 P2 S' f W := by
 unfold twoR cellP at hR ⊢
 rw [← h 0 (by decide), ← h 1 (by decide), ← h 2 (by decide), ← h 3 (by decide), ← h 4 (by decide), ← h 5 (by decide), ← h 6 (by decide), ← h 7 (by decide), ← h 8 (by decide), ← h 9 (by decide)]
 exact hR
theorem twoR_init {w1 : World} {sz : Array Value} {A B : Int} {P1 P2 : Array Value} (f : Nat → Value) : twoR w1 sz A B P1 P2 (fun _ => false) f w1.drew :=
 ⟨(Below.refl _ _).drew, (fun h => by cases h), (fun h => by cases h), (fun h => by cases h), (fun h => by cases h), (fun h => by cases h), (fun h => by cases h), (fun h => by cases h), (fun h => by cases h), (fun h => by cases h)⟩
theorem cellP_keep {w1 : World} {S : Nat → Bool} {f : Nat → Value} {W W' : World} {i j k : Nat} {P : Array Value} (h : cellP w1 S f W i j P) (hk : k ≠ i ∧ k ≠ j) (v : Value) (hb : Below W.heap.size W W') :
  cellP w1 (upd S k) (fun x => if x = k then v else f x) W' i j P := by
 intro hi
 have hi' : S i = true := by simpa [upd, Ne.symm hk.1] using hi
 obtain ⟨q, e1, e2, old, e3, e4, e5⟩ := h hi'
 refine ⟨q, by simp [Ne.symm hk.1, e1], e2, old, e3.call hb, e4, fun hj => e5 (by simpa [upd, Ne.symm hk.2] using hj)⟩
theorem twoR_val {w1 : World} {sz : Array Value} {A B : Int} {P1 P2 : Array Value} {S : Nat → Bool} {f : Nat → Value} {W W' : World} (hR : twoR w1 sz A B P1 P2 S f W) (i : Nat) (v : Value) (hb : Below W.heap.size W W')
  (hi : i < 6) (hv : (i = 0 → v = .agg sz) ∧ (i = 1 → v = .int .i64 A) ∧ (i = 2 → v = .agg P1) ∧ (i = 3 → v = .agg sz) ∧ (i = 4 → v = .int .i64 B) ∧ (i = 5 → v = .agg P2)) :
  twoR w1 sz A B P1 P2 (upd S i) (fun j => if j = i then v else f j) W' := by
 obtain ⟨h, h0, h1, h2, h3, h4, h5, h6, h7, h8⟩ := hR
 obtain ⟨v0, v1, v2, v3, v4, v5⟩ := hv
 refine ⟨below_call h h.size hb, ?_, ?_, ?_, ?_, ?_, ?_, cellP_keep h6 (by omega) v hb, cellP_keep h7 (by omega) v hb, fun a b => ?_⟩
 ·intro hs; by_cases e : 0 = i
  ·show (if _ = i then v else f _) = _; rw [if_pos e]; exact v0 e.symm
  ·show (if _ = i then _ else f _) = _; rw [if_neg e]; exact h0 (by simpa [upd, e] using hs)
 ·intro hs; by_cases e : 1 = i
  ·show (if _ = i then v else f _) = _; rw [if_pos e]; exact v1 e.symm
  ·show (if _ = i then _ else f _) = _; rw [if_neg e]; exact h1 (by simpa [upd, e] using hs)
 ·intro hs; by_cases e : 2 = i
  ·show (if _ = i then v else f _) = _; rw [if_pos e]; exact v2 e.symm
  ·show (if _ = i then _ else f _) = _; rw [if_neg e]; exact h2 (by simpa [upd, e] using hs)
 ·intro hs; by_cases e : 3 = i
  ·show (if _ = i then v else f _) = _; rw [if_pos e]; exact v3 e.symm
  ·show (if _ = i then _ else f _) = _; rw [if_neg e]; exact h3 (by simpa [upd, e] using hs)
 ·intro hs; by_cases e : 4 = i
  ·show (if _ = i then v else f _) = _; rw [if_pos e]; exact v4 e.symm
  ·show (if _ = i then _ else f _) = _; rw [if_neg e]; exact h4 (by simpa [upd, e] using hs)
 ·intro hs; by_cases e : 5 = i
  ·show (if _ = i then v else f _) = _; rw [if_pos e]; exact v5 e.symm
  ·show (if _ = i then _ else f _) = _; rw [if_neg e]; exact h5 (by simpa [upd, e] using hs)
 ·have e6 : ¬ 6 = i := by omega
  have e7 : ¬ 7 = i := by omega
  show (if 6 = i then v else f 6) ≠ (if 7 = i then v else f 7)
  rw [if_neg e6, if_neg e7]
  exact h8 (by simpa [upd, e6] using a) (by simpa [upd, e7] using b)
theorem cellP_lt {w1 : World} {S : Nat → Bool} {f : Nat → Value} {W : World} {i j : Nat} {P : Array Value} (h : cellP w1 S f W i j P) (hi : S i = true) : f i ≠ .pointer (some ⟨W.heap.size, 0, none⟩) := by
 obtain ⟨q, e1, e2, old, e3, _⟩ := h hi
 rw [e1]
 intro e
 injection e with e; injection e with e; injection e with e
 have := e3.lt
 omega
theorem twoR_new {w1 : World} {sz : Array Value} {A B : Int} {P1 P2 : Array Value} {S : Nat → Bool} {f : Nat → Value} {W : World} (hR : twoR w1 sz A B P1 P2 S f W) (i : Nat) (hi : i = 6 ∨ i = 7) (hS : S (i + 2) = false) :
  twoR w1 sz A B P1 P2 (upd S i) (fun j => if j = i then .pointer (some ⟨W.heap.size, 0, none⟩) else f j) (W.alloc (.cells #[.int .i64 0, .int .i64 0] 85)) := by
 obtain ⟨h, h0, h1, h2, h3, h4, h5, h6, h7, h8⟩ := hR
 have hb := below_box W (.cells #[.int .i64 0, .int .i64 0] 85)
 have hO := HasO.new W (.cells #[.int .i64 0, .int .i64 0] 85)
 refine ⟨below_call h h.size hb, ?_, ?_, ?_, ?_, ?_, ?_, ?_, ?_, ?_⟩
 ·intro hs; have e : ¬ 0 = i := by omega
  show (if _ = i then _ else f _) = _; rw [if_neg e]; exact h0 (by simpa [upd, e] using hs)
 ·intro hs; have e : ¬ 1 = i := by omega
  show (if _ = i then _ else f _) = _; rw [if_neg e]; exact h1 (by simpa [upd, e] using hs)
 ·intro hs; have e : ¬ 2 = i := by omega
  show (if _ = i then _ else f _) = _; rw [if_neg e]; exact h2 (by simpa [upd, e] using hs)
 ·intro hs; have e : ¬ 3 = i := by omega
  show (if _ = i then _ else f _) = _; rw [if_neg e]; exact h3 (by simpa [upd, e] using hs)
 ·intro hs; have e : ¬ 4 = i := by omega
  show (if _ = i then _ else f _) = _; rw [if_neg e]; exact h4 (by simpa [upd, e] using hs)
 ·intro hs; have e : ¬ 5 = i := by omega
  show (if _ = i then _ else f _) = _; rw [if_neg e]; exact h5 (by simpa [upd, e] using hs)
 ·rcases hi with rfl | rfl
  ·intro _
   exact ⟨_, rfl, h.size, _, hO, rfl, fun hj => by have hj : S 8 = true := hj; rw [hS] at hj; cases hj⟩
  ·exact cellP_keep h6 (by omega) _ hb
 ·rcases hi with rfl | rfl
  ·exact cellP_keep h7 (by omega) _ hb
  ·intro _
   exact ⟨_, rfl, h.size, _, hO, rfl, fun hj => by have hj : S 9 = true := hj; rw [hS] at hj; cases hj⟩
 ·rcases hi with rfl | rfl
  ·intro _ b
   have b : S 7 = true := b
   exact (cellP_lt h7 b).symm
  ·intro a _
   have a : S 6 = true := a
   exact cellP_lt h6 a
theorem cellP_set {w1 : World} {S : Nat → Bool} {f : Nat → Value} {W : World} {i j k : Nat} {P : Array Value} (h : cellP w1 S f W i j P) (hk : k ≠ i ∧ k ≠ j) (v : Value) {g : Nat} {cs : Array Value} (hg : S i = true → f i ≠ .pointer (some ⟨g, 0, none⟩)) :
  cellP w1 (upd S k) (fun x => if x = k then v else f x) (W.setRow g cs) i j P := by
 intro hi
 have hi' : S i = true := by simpa [upd, Ne.symm hk.1] using hi
 obtain ⟨q, e1, e2, old, e3, e4, e5⟩ := h hi'
 have hne : q ≠ g := fun e => hg hi' (by rw [e1, e])
 exact ⟨q, by simp [Ne.symm hk.1, e1], e2, old, e3.setRow_far hne, e4, fun hj => e5 (by simpa [upd, Ne.symm hk.2] using hj)⟩
theorem twoR_set1 {w1 : World} {sz : Array Value} {A B : Int} {P1 P2 : Array Value} {S : Nat → Bool} {f : Nat → Value} {W : World} (hR : twoR w1 sz A B P1 P2 S f W) (hS : S 6 = true) (h2' : P1.size = 2) (v : Value) {q : Nat} (hq : f 6 = .pointer (some ⟨q, 0, none⟩)) :
  twoR w1 sz A B P1 P2 (upd S 8) (fun j => if j = 8 then v else f j) (W.setRow q P1) := by
 obtain ⟨h, h0, h1, h2, h3, h4, h5, h6, h7, h8⟩ := hR
 obtain ⟨q', e1, e2, old, e3, e4, e5⟩ := h6 hS
 obtain rfl : q = q' := by rw [hq] at e1; injection e1 with e1; injection e1 with e1; injection e1
 refine ⟨setRow_below h e2 h.size, h0, h1, h2, h3, h4, h5, fun _ => ⟨q, hq, e2, P1, setRow_hasO e3, h2', fun _ => rfl⟩, cellP_set h7 (by decide) v (fun h7' => ?_), h8⟩
 rw [← hq]
 exact (h8 hS h7').symm
theorem twoR_set2 {w1 : World} {sz : Array Value} {A B : Int} {P1 P2 : Array Value} {S : Nat → Bool} {f : Nat → Value} {W : World} (hR : twoR w1 sz A B P1 P2 S f W) (hS : S 7 = true) (h2' : P2.size = 2) (v : Value) {q : Nat} (hq : f 7 = .pointer (some ⟨q, 0, none⟩)) :
  twoR w1 sz A B P1 P2 (upd S 9) (fun j => if j = 9 then v else f j) (W.setRow q P2) := by
 obtain ⟨h, h0, h1, h2, h3, h4, h5, h6, h7, h8⟩ := hR
 obtain ⟨q', e1, e2, old, e3, e4, e5⟩ := h7 hS
 obtain rfl : q = q' := by rw [hq] at e1; injection e1 with e1; injection e1 with e1; injection e1
 refine ⟨setRow_below h e2 h.size, h0, h1, h2, h3, h4, h5, cellP_set h6 (by decide) v (fun h6' => ?_), fun _ => ⟨q, hq, e2, P2, setRow_hasO e3, h2', fun _ => rfl⟩, h8⟩
 rw [← hq]
 exact h8 h6' hS
theorem alloc99 (W : World) : (Instr.alloc 85 true (.tuple #[])).run Tryz.prog W = .ok (.pointer (some ⟨W.heap.size, 0, none⟩)) (W.alloc (.cells #[.int .i64 0, .int .i64 0] 85)) := by kernel_rfl
theorem unwanted_undef {o : Oper} {ops : Array Oper} {ds : List (Option Tmp)} {f : Nat → Value} {a : Act} (hok : dstsOk ds = true) (j : Nat) (want : Bool) (tm : Tmp) (hgu : o.guard = some (j, want)) (hd : (ops[j]?).bind (·.dst) = some tm) (hi : ds[j]? = some (some tm)) (hs : tm < a.tmps.size) (hf : f j = undef) :
  Region.wanted o (yielded ops (putL ds f 0 a).tmps) = false := by
 have h1 := slot_in (f := f) hok j hi hs hf
 have hsz : tm < (putL ds f 0 a).tmps.size := by rw [putL_size]; exact hs
 have h2 : (putL ds f 0 a).tmps[tm]? = some undef := by
  rw [Array.getD_eq_getD_getElem?] at h1
  rcases h : (putL ds f 0 a).tmps[tm]? with _ | u
  ·rw [Array.getElem?_eq_none_iff] at h; exact absurd hsz (Nat.not_lt.2 h)
  ·rw [h] at h1; exact congrArg some h1
 have hd' : (Option.bind (ops[j]?) fun x => x.dst) = some tm := hd
 have hy : yielded ops (putL ds f 0 a).tmps j = none := by
  unfold yielded
  rw [hd', Option.bind_some, h2]
  rfl
 unfold Region.wanted
 rw [hgu]
 simp only [hy]
 rfl
theorem bin_subE {x y d : Int} {W : World} (h : IntKind.i64.wrap (x - y) = d) : (binOp .sub 3 (.int .i64 x) (.int .i64 y)).run Tryz.prog W = .ok (.int .i64 d) W := by rw [bin_sub, h]
theorem bin_eqlE {x y : Int} {d : Bool} {W : World} (h : (x == y) = d) : (binOp .eql 3 (.int .i64 x) (.int .i64 y)).run Tryz.prog W = .ok (.bool d) W := by rw [bin_eql, h]
theorem bin_addE {x y d : Int} {W : World} (h : IntKind.i64.wrap (x + y) = d) : (binOp .add 3 (.int .i64 x) (.int .i64 y)).run Tryz.prog W = .ok (.int .i64 d) W := by rw [bin_add, h]
theorem bin_mulE {x y d : Int} {W : World} (h : IntKind.i64.wrap (x * y) = d) : (binOp .mul 3 (.int .i64 x) (.int .i64 y)).run Tryz.prog W = .ok (.int .i64 d) W := by rw [bin_mul, h]
end Go.Proofs.YtefmplccbkmalaaGreatDoor
