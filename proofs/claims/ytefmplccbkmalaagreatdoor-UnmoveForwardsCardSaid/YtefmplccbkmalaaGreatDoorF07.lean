import Derived.Test.YtefmplccbkmalaaGreatDoorF06
set_option maxHeartbeats 12800000
namespace Go.Proofs.YtefmplccbkmalaaGreatDoor
open Go.RowKit

theorem occupied_any (f r : Int) (p : Option Addr) (c : Nat) (xs : List Int) (w : World) (hx : Arr .i8 w p xs) (hok : boardB f r xs = true) :
  Calls Tryz.prog 175 #[.agg (bdCs f r p xs.length c).toArray] w fun e w' => e = .returned (.int .u64 (setW gNon xs xs.length : Nat)) ∧ Below w.heap.size w w' := by
 obtain ⟨hs1, hlen, _⟩ := boardB_fact hok
 have hm := size_mul hs1
 have hl : xs.length ≤ 64 := by omega
 have hb := below_box w (.cells (bdCs f r p xs.length c).toArray 68)
 have hA := HasO.new w (.cells (bdCs f r p xs.length c).toArray 68)
 have hc0 := hA.cells
 have hl0 := hA.lt
 have e1 : bits .or .u64 (setW gPos xs xs.length : Nat) (setW gNeg xs xs.length : Nat) = ((setW gNon xs xs.length : Nat) : Int) := by
  rw [u64_or_nat _ _ (setW_lt _ _ hl) (setW_lt _ _ hl), setW_or]
 clear hs1 hlen hm
 go_enter Tryz.func175, Tryz.ntmps175
 go_wp2_with fail
 refine (sides_any f r p c xs _ (hx.call hb) hok).mono ?_
 rintro e w1 ⟨rfl, hb1⟩
 have hb' := below_call hb hb.size hb1
 go_wp2_with fail
 go_ret
 exact ⟨by rw [← e1]; rfl, hb'⟩

def idxs (g : Int → Bool) (xs : List Int) : Nat → List Int
 | 0 => []
 | k + 1 => if g (xs[k]?.getD 0) then idxs g xs k ++ [(k : Int)] else idxs g xs k
theorem idxs_len (g : Int → Bool) (xs : List Int) (k : Nat) : (idxs g xs k).length ≤ k := by
 induction k with
 | zero => simp [idxs]
 | succ k ih =>
  simp only [idxs]
  split
  ·simp; omega
  ·omega
def lsR (w : World) (g : Int → Bool) (xs : List Int) (i : Nat) (sv iv : Value) (wr : World) : Prop :=
 i ≤ xs.length ∧ iv = .int .i64 i ∧ wr.ownsRow w.heap.size 3 1 sv (idxs g xs i).length ((idxs g xs i).map (.int .i64)) ∧ Below w.heap.size w wr
set_option maxRecDepth 100000 in
theorem refList_any (f r x : Int) (p : Option Addr) (c : Nat) (xs : List Int) (w : World) (hx : Arr .i8 w p xs) (hl : xs.length ≤ 64) :
  Calls Tryz.prog 98 #[.agg (bdCs f r p xs.length c).toArray, .int .i8 x] w fun e w' => (∃ v, e = .returned v ∧ w'.ownsRow w.heap.size 3 1 v (idxs (· == x) xs xs.length).length ((idxs (· == x) xs xs.length).map (.int .i64))) ∧ Below w.heap.size w w' := by
 obtain ⟨i3, hi3, hz3, hs3, hy3⟩ := info_parts Tryz.info3
 have hb := below_box w (.cells (bdCs f r p xs.length c).toArray 68)
 have hA := HasO.new w (.cells (bdCs f r p xs.length c).toArray 68)
 go_enter Tryz.func98, Tryz.ntmps98
 go_wp2_with fail
 show Code.wp _ _ _ _ (w.alloc (.cells (bdCs f r p xs.length c).toArray 68))
 obtain ⟨w1, hw1⟩ : ∃ x, x = w.alloc (.cells (bdCs f r p xs.length c).toArray 68) := ⟨_, rfl⟩
 have hx1 := hx.call hb
 rw [← hw1] at hA hb hx1 ⊢
 clear hw1 hx
 go_loopg [5, 6] 65 (fun q sv iv wr => ∃ i : Nat, q + i = 65 ∧ lsR w1 (· == x) xs i sv iv wr)
 case atStart => exact ⟨0, rfl, ⟨Nat.zero_le _, rfl, World.ownsRow_nil _ _ _ _, Below.refl _ _⟩⟩
 case round =>
  obtain ⟨i, hq, ⟨hi, rfl, hown, hbr⟩⟩ := hrel
  have hcr := (hA.call hbr).cells
  have hlr := (hA.call hbr).lt
  by_cases hlt : i < xs.length
  ·have hii : (i : Int) < xs.length := by omega
   obtain ⟨b, o, rfl, hbl, hc⟩ := (hx1.call hbr).at hlt
   have hci := hc i hlt
   obtain ⟨y, hyv⟩ : ∃ y, y = xs[i]?.getD 0 := ⟨_, rfl⟩
   rw [← hyv] at hci
   have hlen := idxs_len (· == x) xs i
   have hnx : idxs (· == x) xs (i + 1) = if (· == x) y then idxs (· == x) xs i ++ [(i : Int)] else idxs (· == x) xs i := by rw [hyv]; rfl
   replace hyv := Lib.hid hyv
   clear hc
   rcases hyx : (y == x) with _ | _
   ·replace hnx : idxs (· == x) xs (i + 1) = idxs (· == x) xs i := by rw [hnx, if_neg (by simp; simpa using hyx)]
    replace hnx := Lib.hid hnx
    go_wp2_with fail
    go_roundg (gk - 1)
    case measure => omega
    case rel => exact ⟨i + 1, by omega, ⟨by omega, by go_num, by rw [hnx.out]; exact hown, hbr⟩⟩
   ·replace hnx : idxs (· == x) xs (i + 1) = idxs (· == x) xs i ++ [(i : Int)] := by rw [hnx, if_pos (by simpa using hyx)]
    replace hnx := Lib.hid hnx
    go_wp2_with (at_builtin; refine wpList_push_at rfl (.tmp 21) (.tmp 23) 136 rfl w1.heap.size 3 i3 (.int .i64 0) 8 Tryz.underlying136 hi3 hz3 hs3 hy3 rfl _ (idxs (· == x) xs i).length ((idxs (· == x) xs i).map (.int .i64)) rfl hown 1 [.int .i64 (i : Int)] rfl (by intro u hu; simp at hu; subst hu; rfl) _ rfl rfl (by omega) hbr.size ?_)
    intro v' w9 hown9 hg9 _
    have hb9 := (hbr.alloc hbr.size (.cells #[.int .i64 (i : Int)] 3)).grown hg9 (Nat.le_trans hbr.size (by simp)) (fun j e => (hown.lt j e).1)
    replace hown9 : w9.ownsRow w1.heap.size 3 1 v' (idxs (· == x) xs (i + 1)).length ((idxs (· == x) xs (i + 1)).map (.int .i64)) := by rw [hnx.out]; simpa using hown9
    clear hown hg9
    go_wp2_with fail
    go_roundg (gk - 1)
    case measure => omega
    case rel => exact ⟨i + 1, by omega, ⟨by omega, by go_num, hown9, hb9⟩⟩
  ·have hii : ¬ (i : Int) < xs.length := by omega
   obtain rfl : i = xs.length := by omega
   go_wp2_with fail
   go_ret
   exact ⟨⟨_, rfl, own_mono hown hb.size⟩, below_call hb hb.size hbr⟩
set_option maxRecDepth 100000 in
theorem refSideL_any (f r d : Int) (p : Option Addr) (c : Nat) (xs : List Int) (w : World) (hx : Arr .i8 w p xs) (hl : xs.length ≤ 64) :
  Calls Tryz.prog 158 #[.agg (bdCs f r p xs.length c).toArray, .int .i64 d] w fun e w' => (∃ v, e = .returned v ∧ w'.ownsRow w.heap.size 3 1 v (idxs (fun z => sgnI z == d) xs xs.length).length ((idxs (fun z => sgnI z == d) xs xs.length).map (.int .i64))) ∧ Below w.heap.size w w' := by
 obtain ⟨i3, hi3, hz3, hs3, hy3⟩ := info_parts Tryz.info3
 have hb := below_box w (.cells (bdCs f r p xs.length c).toArray 68)
 have hA := HasO.new w (.cells (bdCs f r p xs.length c).toArray 68)
 go_enter Tryz.func158, Tryz.ntmps158
 go_wp2_with fail
 show Code.wp _ _ _ _ (w.alloc (.cells (bdCs f r p xs.length c).toArray 68))
 obtain ⟨w1, hw1⟩ : ∃ x, x = w.alloc (.cells (bdCs f r p xs.length c).toArray 68) := ⟨_, rfl⟩
 have hx1 := hx.call hb
 rw [← hw1] at hA hb hx1 ⊢
 clear hw1 hx
 go_loopg [5, 6] 65 (fun q sv iv wr => ∃ i : Nat, q + i = 65 ∧ lsR w1 (fun z => sgnI z == d) xs i sv iv wr)
 case atStart => exact ⟨0, rfl, ⟨Nat.zero_le _, rfl, World.ownsRow_nil _ _ _ _, Below.refl _ _⟩⟩
 case round =>
  obtain ⟨i, hq, ⟨hi, rfl, hown, hbr⟩⟩ := hrel
  have hcr := (hA.call hbr).cells
  have hlr := (hA.call hbr).lt
  by_cases hlt : i < xs.length
  ·have hii : (i : Int) < xs.length := by omega
   obtain ⟨b, o, rfl, hbl, hc⟩ := (hx1.call hbr).at hlt
   have hci := hc i hlt
   obtain ⟨y, hyv⟩ : ∃ y, y = xs[i]?.getD 0 := ⟨_, rfl⟩
   rw [← hyv] at hci
   have hlen := idxs_len (fun z => sgnI z == d) xs i
   have hnx : idxs (fun z => sgnI z == d) xs (i + 1) = if (fun z => sgnI z == d) y then idxs (fun z => sgnI z == d) xs i ++ [(i : Int)] else idxs (fun z => sgnI z == d) xs i := by rw [hyv]; rfl
   replace hyv := Lib.hid hyv
   clear hc
   go_wp2_with fail
   refine (refSide_any y _).mono ?_
   rintro e w2 ⟨rfl, rfl⟩
   rcases hyx : (sgnI y == d) with _ | _
   ·replace hnx : idxs (fun z => sgnI z == d) xs (i + 1) = idxs (fun z => sgnI z == d) xs i := by rw [hnx, if_neg (by simp; simpa using hyx)]
    replace hnx := Lib.hid hnx
    go_wp2_with fail
    go_roundg (gk - 1)
    case measure => omega
    case rel => exact ⟨i + 1, by omega, ⟨by omega, by go_num, by rw [hnx.out]; exact hown, hbr⟩⟩
   ·replace hnx : idxs (fun z => sgnI z == d) xs (i + 1) = idxs (fun z => sgnI z == d) xs i ++ [(i : Int)] := by rw [hnx, if_pos (by simpa using hyx)]
    replace hnx := Lib.hid hnx
    go_wp2_with (at_builtin; refine wpList_push_at rfl (.tmp 22) (.tmp 24) 136 rfl w1.heap.size 3 i3 (.int .i64 0) 8 Tryz.underlying136 hi3 hz3 hs3 hy3 rfl _ (idxs (fun z => sgnI z == d) xs i).length ((idxs (fun z => sgnI z == d) xs i).map (.int .i64)) rfl hown 1 [.int .i64 (i : Int)] rfl (by intro u hu; simp at hu; subst hu; rfl) _ rfl rfl (by omega) hbr.size ?_)
    intro v' w9 hown9 hg9 _
    have hb9 := (hbr.alloc hbr.size (.cells #[.int .i64 (i : Int)] 3)).grown hg9 (Nat.le_trans hbr.size (by simp)) (fun j e => (hown.lt j e).1)
    replace hown9 : w9.ownsRow w1.heap.size 3 1 v' (idxs (fun z => sgnI z == d) xs (i + 1)).length ((idxs (fun z => sgnI z == d) xs (i + 1)).map (.int .i64)) := by rw [hnx.out]; simpa using hown9
    clear hown hg9
    go_wp2_with fail
    go_roundg (gk - 1)
    case measure => omega
    case rel => exact ⟨i + 1, by omega, ⟨by omega, by go_num, hown9, hb9⟩⟩
  ·have hii : ¬ (i : Int) < xs.length := by omega
   obtain rfl : i = xs.length := by omega
   go_wp2_with fail
   go_ret
   exact ⟨⟨_, rfl, own_mono hown hb.size⟩, below_call hb hb.size hbr⟩
def hasS (S : Nat) (x : Int) : Bool := decide (0 ≤ x) && (decide (x < 64) && S.testBit x.toNat)
theorem hasS_out {S : Nat} {x : Int} (h : ¬ (0 ≤ x ∧ x < 64)) : hasS S x = false := by
 unfold hasS
 by_cases h1 : 0 ≤ x
 ·have : ¬ x < 64 := fun h2 => h ⟨h1, h2⟩
  simp [this]
 ·simp [h1]
theorem hasS_nat (S n : Nat) (hn : n < 64) : hasS S n = S.testBit n := by
 unfold hasS
 have : (n : Int) < 64 := by omega
 simp [this]
theorem div_pow_nat (S n : Nat) : ((S : Int) / 2 ^ n) = ((S / 2 ^ n : Nat) : Int) := by simp
theorem bit_tmod (S n : Nat) : (((S : Int) / 2 ^ n).tmod 2 == 1) = S.testBit n := by
 rw [div_pow_nat, Nat.testBit_eq_decide_div_mod_eq]
 obtain ⟨m, hm⟩ : ∃ m, m = S / 2 ^ n := ⟨_, rfl⟩
 rw [← hm]
 have h : ((m : Int)).tmod 2 = ((m % 2 : Nat) : Int) := rfl
 rw [h]
 by_cases h2 : m % 2 = 1
 ·simp [h2]
 ·have : m % 2 = 0 := by omega
  simp [this]
theorem refHas_any (S : Nat) (x : Int) (w : World) : Calls Tryz.prog 204 #[.int .u64 (S : Nat), .int .i64 x] w fun e w' => e = .returned (.bool (hasS S x)) ∧ w = w' := by
 go_enter Tryz.func204, Tryz.ntmps204
 by_cases h : 0 ≤ x ∧ x < 64
 ·obtain ⟨n, rfl⟩ : ∃ n : Nat, x = n := ⟨x.toNat, by omega⟩
  have h2 : (n : Int) < 64 := h.2
  rw [hasS_nat S n (by omega)]
  go_wp2_with fail
  go_ret
  exact ⟨ret_bool (bit_tmod S n), rfl⟩
 ·have e0 := Lib.hid (hasS_out (S := S) h)
  by_cases h1 : 0 ≤ x
  ·have h2 : ¬ x < 64 := fun h3 => h ⟨h1, h3⟩
   go_wp2_with fail
   go_ret
   exact ⟨by rw [e0.out]; rfl, rfl⟩
  ·go_wp2_with fail
   go_ret
   exact ⟨by rw [e0.out]; rfl, rfl⟩
def elI (l : List Int) (x : Int) : Bool := l.any (· == x)
theorem refHasL_any (p : Option Addr) (c : Nat) (xs : List Int) (x : Int) (w : World) (hx : Arr .i64 w p xs) (hl : xs.length ≤ 1000) :
  Calls Tryz.prog 190 #[.slice p xs.length c, .int .i64 x] w fun e w' => e = .returned (.bool (elI xs x)) ∧ Below w.heap.size w w' := by
 go_enter Tryz.func190, Tryz.ntmps190
 go_wp2_with fail
 go_loopg [5] 1001 (fun q iv wr => ∃ i : Nat, q + i = 1001 ∧ i ≤ xs.length ∧ iv = .int .i64 i ∧ Below w.heap.size w wr ∧ elI (xs.take i) x = false)
 case atStart => exact ⟨0, rfl, Nat.zero_le _, rfl, Below.refl _ _, rfl⟩
 case round =>
  obtain ⟨i, hq, hi, rfl, hb, ha⟩ := hrel
  replace ha := Lib.hid ha
  by_cases hlt : i < xs.length
  ·have hii : (i : Int) < xs.length := by omega
   obtain ⟨b, o, rfl, hbl, hc⟩ := (hx.call hb).at hlt
   have hci := hc i hlt
   have hget : xs[i]?.getD 0 = xs[i] := by simp [hlt]
   obtain ⟨y, hxv⟩ : ∃ y, y = xs[i]?.getD 0 := ⟨_, rfl⟩
   rw [← hxv] at hci hget
   replace hget := Lib.hid hget
   clear hc hxv
   by_cases hyx : y = x
   ·have e1 : Hid (elI xs x = true) := Lib.hid (by unfold elI; rw [List.any_eq_true]; exact ⟨xs[i], List.getElem_mem hlt, by rw [← hget.out]; simp [hyx]⟩)
    have hyx2 : (y == x) = true := by simp [hyx]
    go_wp2_with fail
    go_ret
    exact ⟨by rw [e1.out]; rfl, hb⟩
   ·have hyx2 : (y == x) = false := by simp [hyx]
    go_wp2_with fail
    go_roundg (gk - 1)
    case measure => omega
    case rel => exact ⟨i + 1, by omega, by omega, by go_num, hb, by have ha := ha.out; unfold elI at ha ⊢; rw [List.take_succ_eq_append_getElem hlt, List.any_append, ha]; simp [← hget.out]; exact hyx⟩
  ·have hii : ¬ (i : Int) < xs.length := by omega
   have e1 : Hid (elI xs x = false) := Lib.hid (by have ha := ha.out; rwa [List.take_of_length_le (by omega)] at ha)
   go_wp2_with fail
   go_ret
   exact ⟨by rw [e1.out]; rfl, hb⟩
def freeL (l : List Int) (S : Nat) : Bool := l.all fun x => !hasS S x
theorem refFree_any (p : Option Addr) (c : Nat) (xs : List Int) (S : Nat) (w : World) (hx : Arr .i64 w p xs) (hl : xs.length ≤ 1000) :
  Calls Tryz.prog 198 #[.slice p xs.length c, .int .u64 (S : Nat)] w fun e w' => e = .returned (.bool (freeL xs S)) ∧ Below w.heap.size w w' := by
 go_enter Tryz.func198, Tryz.ntmps198
 go_wp2_with fail
 go_loopg [5] 1001 (fun q iv wr => ∃ i : Nat, q + i = 1001 ∧ i ≤ xs.length ∧ iv = .int .i64 i ∧ Below w.heap.size w wr ∧ freeL (xs.take i) S = true)
 case atStart => exact ⟨0, rfl, Nat.zero_le _, rfl, Below.refl _ _, rfl⟩
 case round =>
  obtain ⟨i, hq, hi, rfl, hb, ha⟩ := hrel
  replace ha := Lib.hid ha
  by_cases hlt : i < xs.length
  ·have hii : (i : Int) < xs.length := by omega
   obtain ⟨b, o, rfl, hbl, hc⟩ := (hx.call hb).at hlt
   have hci := hc i hlt
   have hget : xs[i]?.getD 0 = xs[i] := by simp [hlt]
   obtain ⟨y, hxv⟩ : ∃ y, y = xs[i]?.getD 0 := ⟨_, rfl⟩
   rw [← hxv] at hci hget
   replace hget := Lib.hid hget
   clear hc hxv
   go_wp2_with fail
   refine (refHas_any S y _).mono ?_
   rintro e w2 ⟨rfl, rfl⟩
   rcases hyx : hasS S y with _ | _
   ·go_wp2_with fail
    go_roundg (gk - 1)
    case measure => omega
    case rel => exact ⟨i + 1, by omega, by omega, by go_num, hb, take_all hlt ha.out hget.out.symm (by rw [hyx]; rfl)⟩
   ·have e1 : Hid (freeL xs S = false) := Lib.hid (by unfold freeL; rw [List.all_eq_false]; exact ⟨xs[i], List.getElem_mem hlt, by rw [← hget.out]; simp [hyx]⟩)
    go_wp2_with fail
    go_ret
    exact ⟨by rw [e1.out]; rfl, hb⟩
  ·have hii : ¬ (i : Int) < xs.length := by omega
   have e1 : Hid (freeL xs S = true) := Lib.hid (by have ha := ha.out; rwa [List.take_of_length_le (by omega)] at ha)
   go_wp2_with fail
   go_ret
   exact ⟨by rw [e1.out]; rfl, hb⟩
def cellP (w1 : World) (S : Nat → Bool) (f : Nat → Value) (W : World) (i j : Nat) (P : Array Value) : Prop :=
 S i = true → ∃ q, f i = .pointer (some ⟨q, 0, none⟩) ∧ w1.heap.size ≤ q ∧ ∃ old, HasO W q (.cells old 85 (0, 0)) ∧ old.size = 2 ∧ (S j = true → old = P)
def twoR (w1 : World) (sz : Array Value) (A B : Int) (P1 P2 : Array Value) (S : Nat → Bool) (f : Nat → Value) (W : World) : Prop :=
 Below w1.heap.size w1 W ∧ (S 0 = true → f 0 = .agg sz) ∧ (S 1 = true → f 1 = .int .i64 A) ∧ (S 2 = true → f 2 = .agg P1) ∧ (S 3 = true → f 3 = .agg sz) ∧ (S 4 = true → f 4 = .int .i64 B) ∧ (S 5 = true → f 5 = .agg P2) ∧
 cellP w1 S f W 6 8 P1 ∧ cellP w1 S f W 7 9 P2 ∧ (S 6 = true → S 7 = true → f 6 ≠ f 7)
theorem twoR_congr {w1 : World} {sz : Array Value} {A B : Int} {P1 P2 : Array Value} (S S' : Nat → Bool) (f : Nat → Value) (W : World) (h : ∀ i, i < 10 → S i = S' i) (hR : twoR w1 sz A B P1 P2 S f W) : twoR w1 sz A B P1 P2 S' f W := by
 unfold twoR cellP at hR ⊢
 rw [← h 0 (by decide), ← h 1 (by decide), ← h 2 (by decide), ← h 3 (by decide), ← h 4 (by decide), ← h 5 (by decide), ← h 6 (by decide), ← h 7 (by decide), ← h 8 (by decide), ← h 9 (by decide)]
 exact hR
theorem twoR_init {w1 : World} {sz : Array Value} {A B : Int} {P1 P2 : Array Value} (f : Nat → Value) : twoR w1 sz A B P1 P2 (fun _ => false) f w1.drew :=
 ⟨(Below.refl _ _).drew, (fun h => by cases h), (fun h => by cases h), (fun h => by cases h), (fun h => by cases h), (fun h => by cases h), (fun h => by cases h), (fun h => by cases h), (fun h => by cases h), (fun h => by cases h)⟩
theorem cellP_keep {w1 : World} {S : Nat → Bool} {f : Nat → Value} {W W' : World} {i j k : Nat} {P : Array Value} (h : cellP w1 S f W i j P) (hk : k ≠ i ∧ k ≠ j) (v : Value) (hb : Below W.heap.size W W') :
  cellP w1 (upd S k) (fun x => if x = k then v else f x) W' i j P := by
 intro hi
 have hi' : S i = true := by simpa [upd, Ne.symm hk.1] using hi
 obtain ⟨q, e1, e2, old, e3, e4, e5⟩ := h hi'
 refine ⟨q, by simp [Ne.symm hk.1, e1], e2, old, e3.call hb, e4, fun hj => e5 (by simpa [upd, Ne.symm hk.2] using hj)⟩
theorem twoR_val {w1 : World} {sz : Array Value} {A B : Int} {P1 P2 : Array Value} {S : Nat → Bool} {f : Nat → Value} {W W' : World} (hR : twoR w1 sz A B P1 P2 S f W) (i : Nat) (v : Value) (hb : Below W.heap.size W W')
  (hi : i < 6) (hv : (i = 0 → v = .agg sz) ∧ (i = 1 → v = .int .i64 A) ∧ (i = 2 → v = .agg P1) ∧ (i = 3 → v = .agg sz) ∧ (i = 4 → v = .int .i64 B) ∧ (i = 5 → v = .agg P2)) :
  twoR w1 sz A B P1 P2 (upd S i) (fun j => if j = i then v else f j) W' := by
 obtain ⟨h, h0, h1, h2, h3, h4, h5, h6, h7, h8⟩ := hR
 obtain ⟨v0, v1, v2, v3, v4, v5⟩ := hv
 refine ⟨below_call h h.size hb, ?_, ?_, ?_, ?_, ?_, ?_, cellP_keep h6 (by omega) v hb, cellP_keep h7 (by omega) v hb, fun a b => ?_⟩
 ·intro hs; by_cases e : 0 = i
  ·show (if _ = i then v else f _) = _; rw [if_pos e]; exact v0 e.symm
  ·show (if _ = i then _ else f _) = _; rw [if_neg e]; exact h0 (by simpa [upd, e] using hs)
 ·intro hs; by_cases e : 1 = i
  ·show (if _ = i then v else f _) = _; rw [if_pos e]; exact v1 e.symm
  ·show (if _ = i then _ else f _) = _; rw [if_neg e]; exact h1 (by simpa [upd, e] using hs)
 ·intro hs; by_cases e : 2 = i
  ·show (if _ = i then v else f _) = _; rw [if_pos e]; exact v2 e.symm
  ·show (if _ = i then _ else f _) = _; rw [if_neg e]; exact h2 (by simpa [upd, e] using hs)
 ·intro hs; by_cases e : 3 = i
  ·show (if _ = i then v else f _) = _; rw [if_pos e]; exact v3 e.symm
  ·show (if _ = i then _ else f _) = _; rw [if_neg e]; exact h3 (by simpa [upd, e] using hs)
 ·intro hs; by_cases e : 4 = i
  ·show (if _ = i then v else f _) = _; rw [if_pos e]; exact v4 e.symm
  ·show (if _ = i then _ else f _) = _; rw [if_neg e]; exact h4 (by simpa [upd, e] using hs)
 ·intro hs; by_cases e : 5 = i
  ·show (if _ = i then v else f _) = _; rw [if_pos e]; exact v5 e.symm
  ·show (if _ = i then _ else f _) = _; rw [if_neg e]; exact h5 (by simpa [upd, e] using hs)
 ·have e6 : ¬ 6 = i := by omega
  have e7 : ¬ 7 = i := by omega
  show (if 6 = i then v else f 6) ≠ (if 7 = i then v else f 7)
  rw [if_neg e6, if_neg e7]
  exact h8 (by simpa [upd, e6] using a) (by simpa [upd, e7] using b)
theorem cellP_lt {w1 : World} {S : Nat → Bool} {f : Nat → Value} {W : World} {i j : Nat} {P : Array Value} (h : cellP w1 S f W i j P) (hi : S i = true) : f i ≠ .pointer (some ⟨W.heap.size, 0, none⟩) := by
 obtain ⟨q, e1, e2, old, e3, _⟩ := h hi
 rw [e1]
 intro e
 injection e with e; injection e with e; injection e with e
 have := e3.lt
 omega
theorem twoR_new {w1 : World} {sz : Array Value} {A B : Int} {P1 P2 : Array Value} {S : Nat → Bool} {f : Nat → Value} {W : World} (hR : twoR w1 sz A B P1 P2 S f W) (i : Nat) (hi : i = 6 ∨ i = 7) (hS : S (i + 2) = false) :
  twoR w1 sz A B P1 P2 (upd S i) (fun j => if j = i then .pointer (some ⟨W.heap.size, 0, none⟩) else f j) (W.alloc (.cells #[.int .i64 0, .int .i64 0] 85)) := by
 obtain ⟨h, h0, h1, h2, h3, h4, h5, h6, h7, h8⟩ := hR
 have hb := below_box W (.cells #[.int .i64 0, .int .i64 0] 85)
 have hO := HasO.new W (.cells #[.int .i64 0, .int .i64 0] 85)
 refine ⟨below_call h h.size hb, ?_, ?_, ?_, ?_, ?_, ?_, ?_, ?_, ?_⟩
 ·intro hs; have e : ¬ 0 = i := by omega
  show (if _ = i then _ else f _) = _; rw [if_neg e]; exact h0 (by simpa [upd, e] using hs)
 ·intro hs; have e : ¬ 1 = i := by omega
  show (if _ = i then _ else f _) = _; rw [if_neg e]; exact h1 (by simpa [upd, e] using hs)
 ·intro hs; have e : ¬ 2 = i := by omega
  show (if _ = i then _ else f _) = _; rw [if_neg e]; exact h2 (by simpa [upd, e] using hs)
 ·intro hs; have e : ¬ 3 = i := by omega
  show (if _ = i then _ else f _) = _; rw [if_neg e]; exact h3 (by simpa [upd, e] using hs)
 ·intro hs; have e : ¬ 4 = i := by omega
  show (if _ = i then _ else f _) = _; rw [if_neg e]; exact h4 (by simpa [upd, e] using hs)
 ·intro hs; have e : ¬ 5 = i := by omega
  show (if _ = i then _ else f _) = _; rw [if_neg e]; exact h5 (by simpa [upd, e] using hs)
 ·rcases hi with rfl | rfl
  ·intro _
   exact ⟨_, rfl, h.size, _, hO, rfl, fun hj => by have hj : S 8 = true := hj; rw [hS] at hj; cases hj⟩
  ·exact cellP_keep h6 (by omega) _ hb
 ·rcases hi with rfl | rfl
  ·exact cellP_keep h7 (by omega) _ hb
  ·intro _
   exact ⟨_, rfl, h.size, _, hO, rfl, fun hj => by have hj : S 9 = true := hj; rw [hS] at hj; cases hj⟩
 ·rcases hi with rfl | rfl
  ·intro _ b
   have b : S 7 = true := b
   exact (cellP_lt h7 b).symm
  ·intro a _
   have a : S 6 = true := a
   exact cellP_lt h6 a
theorem cellP_set {w1 : World} {S : Nat → Bool} {f : Nat → Value} {W : World} {i j k : Nat} {P : Array Value} (h : cellP w1 S f W i j P) (hk : k ≠ i ∧ k ≠ j) (v : Value) {g : Nat} {cs : Array Value} (hg : S i = true → f i ≠ .pointer (some ⟨g, 0, none⟩)) :
  cellP w1 (upd S k) (fun x => if x = k then v else f x) (W.setRow g cs) i j P := by
 intro hi
 have hi' : S i = true := by simpa [upd, Ne.symm hk.1] using hi
 obtain ⟨q, e1, e2, old, e3, e4, e5⟩ := h hi'
 have hne : q ≠ g := fun e => hg hi' (by rw [e1, e])
 exact ⟨q, by simp [Ne.symm hk.1, e1], e2, old, e3.setRow_far hne, e4, fun hj => e5 (by simpa [upd, Ne.symm hk.2] using hj)⟩
theorem twoR_set1 {w1 : World} {sz : Array Value} {A B : Int} {P1 P2 : Array Value} {S : Nat → Bool} {f : Nat → Value} {W : World} (hR : twoR w1 sz A B P1 P2 S f W) (hS : S 6 = true) (h2' : P1.size = 2) (v : Value) {q : Nat} (hq : f 6 = .pointer (some ⟨q, 0, none⟩)) :
  twoR w1 sz A B P1 P2 (upd S 8) (fun j => if j = 8 then v else f j) (W.setRow q P1) := by
 obtain ⟨h, h0, h1, h2, h3, h4, h5, h6, h7, h8⟩ := hR
 obtain ⟨q', e1, e2, old, e3, e4, e5⟩ := h6 hS
 obtain rfl : q = q' := by rw [hq] at e1; injection e1 with e1; injection e1 with e1; injection e1
 refine ⟨setRow_below h e2 h.size, h0, h1, h2, h3, h4, h5, fun _ => ⟨q, hq, e2, P1, setRow_hasO e3, h2', fun _ => rfl⟩, cellP_set h7 (by decide) v (fun h7' => ?_), h8⟩
 rw [← hq]
 exact (h8 hS h7').symm
theorem twoR_set2 {w1 : World} {sz : Array Value} {A B : Int} {P1 P2 : Array Value} {S : Nat → Bool} {f : Nat → Value} {W : World} (hR : twoR w1 sz A B P1 P2 S f W) (hS : S 7 = true) (h2' : P2.size = 2) (v : Value) {q : Nat} (hq : f 7 = .pointer (some ⟨q, 0, none⟩)) :
  twoR w1 sz A B P1 P2 (upd S 9) (fun j => if j = 9 then v else f j) (W.setRow q P2) := by
 obtain ⟨h, h0, h1, h2, h3, h4, h5, h6, h7, h8⟩ := hR
 obtain ⟨q', e1, e2, old, e3, e4, e5⟩ := h7 hS
 obtain rfl : q = q' := by rw [hq] at e1; injection e1 with e1; injection e1 with e1; injection e1
 refine ⟨setRow_below h e2 h.size, h0, h1, h2, h3, h4, h5, cellP_set h6 (by decide) v (fun h6' => ?_), fun _ => ⟨q, hq, e2, P2, setRow_hasO e3, h2', fun _ => rfl⟩, h8⟩
 rw [← hq]
 exact h8 h6' hS
theorem alloc99 (W : World) : (Instr.alloc 85 true (.tuple #[])).run Tryz.prog W = .ok (.pointer (some ⟨W.heap.size, 0, none⟩)) (W.alloc (.cells #[.int .i64 0, .int .i64 0] 85)) := by kernel_rfl
theorem bin_subE {x y d : Int} {W : World} (h : IntKind.i64.wrap (x - y) = d) : (binOp .sub 3 (.int .i64 x) (.int .i64 y)).run Tryz.prog W = .ok (.int .i64 d) W := by rw [bin_sub, h]
theorem bin_addE {x y d : Int} {W : World} (h : IntKind.i64.wrap (x + y) = d) : (binOp .add 3 (.int .i64 x) (.int .i64 y)).run Tryz.prog W = .ok (.int .i64 d) W := by rw [bin_add, h]
theorem bin_mulE {x y d : Int} {W : World} (h : IntKind.i64.wrap (x * y) = d) : (binOp .mul 3 (.int .i64 x) (.int .i64 y)).run Tryz.prog W = .ok (.int .i64 d) W := by rw [bin_mul, h]
def dF (F a b : Nat) : Int := ((b % F : Nat) : Int) - ((a % F : Nat) : Int)
def dR (F a b : Nat) : Int := ((b / F : Nat) : Int) - ((a / F : Nat) : Int)
def distI (F a b : Nat) : Int := max (kindI (dF F a b)) (kindI (dR F a b))
set_option maxRecDepth 100000 in
theorem refDist_any (F R a b : Nat) (hF : 3 ≤ F ∧ F ≤ 8) (ha : a < 64) (hb : b < 64) (w : World) :
  Calls Tryz.prog 196 #[.agg #[.int .i64 F, .int .i64 R], .int .i64 a, .int .i64 b] w fun e w' => e = .returned (.int .i64 (distI F a b)) ∧ Below w.heap.size w w' := by
 have hA := HasO.new w (.cells [.int .i64 (F : Int), .int .i64 (R : Int)].toArray 23)
 have hB := below_box w (.cells [.int .i64 (F : Int), .int .i64 (R : Int)].toArray 23)
 go_enter Tryz.func196, Tryz.ntmps196
 go_wp2_with fail
 show Code.wp _ _ _ _ (w.alloc (.cells [.int .i64 (F : Int), .int .i64 (R : Int)].toArray 23))
 obtain ⟨w1, hw1⟩ : ∃ x, x = w.alloc (.cells [.int .i64 (F : Int), .int .i64 (R : Int)].toArray 23) := ⟨_, rfl⟩
 rw [← hw1] at hA hB ⊢
 clear hw1
 refine wp_region_relL (by kernel_rfl) (by kernel_rfl) [some 9, some 10, some 11, some 12, some 13, some 14, some 7, some 8, none, none] (by rfl) (by rfl) (twoR w1 [.int .i64 (F : Int), .int .i64 (R : Int)].toArray a b #[.int .i64 (a % F : Nat), .int .i64 (a / F : Nat)] #[.int .i64 (b % F : Nat), .int .i64 (b / F : Nat)]) (fun S S9 f9 W h hR => twoR_congr S S9 f9 W h hR) (fun f9 => twoR_init f9) ?hstep ?hend
 case hstep =>
  intro S i9 o9 f9 W ho hi hSj hpre hcl hR K hK
  have hi : i9 < 10 := hi
  have hR0 := hR
  obtain ⟨hC, h0, h1, h2, h3, h4, h5, h6, h7, h8⟩ := hR0
  have hsz := hA.call hC
  rcases i9 with _ | _ | _ | _ | _ | _ | _ | _ | _ | _ | i9
  ·exact st_loadA (og ho) 23 (.tmp 3) (oo ho) (rd_out rfl rfl) [.int .i64 (F : Int), .int .i64 (R : Int)] (by kernel_rfl) (fun j v hv => by rw [Nat.zero_add, hsz.cells j]; simpa using hv) (hK _ _ (twoR_val hR 0 _ (Below.refl _ _) (by decide) (by refine ⟨?_, ?_, ?_, ?_, ?_, ?_⟩ <;> intro h <;> first | rfl | (cases h))))
  ·exact st_move (og ho) (.tmp 1) (oo ho) (rd_out rfl rfl) (hK _ _ (twoR_val hR 1 _ (Below.refl _ _) (by decide) (by refine ⟨?_, ?_, ?_, ?_, ?_, ?_⟩ <;> intro h <;> first | rfl | (cases h))))
  ·exact st_call2 (og ho) 40 (.tmp 9) (.tmp 10) #[23, 3] (oo ho) (ri 0 (h0 (da ho hpre 0))) (ri 1 (h1 (da ho hpre 1))) (fun _ _ => rfl) (refPlace_any F R a hF (by omega) W) (by rintro u w9 ⟨h9, hb9⟩; injection h9 with h9; subst h9; exact hK _ _ (twoR_val hR 2 _ hb9 (by decide) (by refine ⟨?_, ?_, ?_, ?_, ?_, ?_⟩ <;> intro h <;> first | rfl | (cases h)))) (by rintro ch w9 ⟨h9, _⟩; cases h9) (by rintro w9 ⟨h9, _⟩; cases h9)
  ·exact st_loadA (og ho) 23 (.tmp 3) (oo ho) (rd_out rfl rfl) [.int .i64 (F : Int), .int .i64 (R : Int)] (by kernel_rfl) (fun j v hv => by rw [Nat.zero_add, hsz.cells j]; simpa using hv) (hK _ _ (twoR_val hR 3 _ (Below.refl _ _) (by decide) (by refine ⟨?_, ?_, ?_, ?_, ?_, ?_⟩ <;> intro h <;> first | rfl | (cases h))))
  ·exact st_move (og ho) (.tmp 2) (oo ho) (rd_out rfl rfl) (hK _ _ (twoR_val hR 4 _ (Below.refl _ _) (by decide) (by refine ⟨?_, ?_, ?_, ?_, ?_, ?_⟩ <;> intro h <;> first | rfl | (cases h))))
  ·exact st_call2 (og ho) 40 (.tmp 12) (.tmp 13) #[23, 3] (oo ho) (ri 3 (h3 (da ho hpre 3))) (ri 4 (h4 (da ho hpre 4))) (fun _ _ => rfl) (refPlace_any F R b hF (by omega) W) (by rintro u w9 ⟨h9, hb9⟩; injection h9 with h9; subst h9; exact hK _ _ (twoR_val hR 5 _ hb9 (by decide) (by refine ⟨?_, ?_, ?_, ?_, ?_, ?_⟩ <;> intro h <;> first | rfl | (cases h)))) (by rintro ch w9 ⟨h9, _⟩; cases h9) (by rintro w9 ⟨h9, _⟩; cases h9)
  ·have hS8 : S 8 = false := by
    rcases h : S 8 with _ | _
    ·rfl
    ·have := hcl 8 _ h rfl ⟨6, .data⟩ (by simp) rfl
     rw [hSj] at this; cases this
   exact st_alloc (og ho) 85 (oo ho) (alloc99 W) (hK _ _ (twoR_new hR 6 (.inl rfl) hS8))
  ·have hS9 : S 9 = false := by
    rcases h : S 9 with _ | _
    ·rfl
    ·have := hcl 9 _ h rfl ⟨7, .data⟩ (by simp) rfl
     rw [hSj] at this; cases this
   exact st_alloc (og ho) 85 (oo ho) (alloc99 W) (hK _ _ (twoR_new hR 7 (.inr rfl) hS9))
  ·have hSi := (da ho hpre 6)
   obtain ⟨q, e1, e2, old, e3, e4, e5⟩ := h6 hSi
   exact st_storeO (og ho) 85 (.tmp 7) (.tmp 11) (oo ho) (ri 6 e1) _ old 85 (ri 2 (h2 (da ho hpre 2))) e3 (by kernel_rfl) e4 (by simp [Value.oneCell']) (hK _ _ (twoR_set1 hR hSi rfl _ e1))
  ·have hSi := (da ho hpre 7)
   obtain ⟨q, e1, e2, old, e3, e4, e5⟩ := h7 hSi
   exact st_storeO (og ho) 85 (.tmp 8) (.tmp 14) (oo ho) (ri 7 e1) _ old 85 (ri 5 (h5 (da ho hpre 5))) e3 (by kernel_rfl) e4 (by simp [Value.oneCell']) (hK _ _ (twoR_set2 hR hSi rfl _ e1))
  ·omega
 case hend =>
  intro S f9 W hS hR
  obtain ⟨hC, _, _, _, _, _, _, h6, h7, h8⟩ := hR
  obtain ⟨q1, e1, l1, o1, hO1, _, z1⟩ := h6 (hS 6 (by decide))
  obtain ⟨q2, e2, l2, o2, hO2, _, z2⟩ := h7 (hS 7 (by decide))
  replace z1 := z1 (hS 8 (by decide))
  replace z2 := z2 (hS 9 (by decide))
  subst z1 z2
  clear h6 h7 h8
  simp only [putL, Act.put, List.setIfInBounds_toArray, List.set_cons_succ, List.set_cons_zero]
  rw [e1, e2]
  clear e1 e2 hS
  generalize f9 0 = u0, f9 1 = u1, f9 2 = u2, f9 3 = u3, f9 4 = u4, f9 5 = u5, f9 8 = u8, f9 9 = u9
  have hne : 0 < F := by omega
  have b1 := Nat.mod_lt a hne
  have b2 := Nat.mod_lt b hne
  have b3 := Nat.div_le_self a F
  have b4 := Nat.div_le_self b F
  have hBW := below_call hB hB.size hC
  have hdist : distI F a b = max (kindI (((b % F : Nat) : Int) - ((a % F : Nat) : Int))) (kindI (((b / F : Nat) : Int) - ((a / F : Nat) : Int))) := rfl
  generalize a % F = a0, a / F = a1, b % F = b0, b / F = b1' at *
  clear hA
  obtain ⟨df, hdf⟩ : ∃ x : Int, x = (a0 : Int) - (b0 : Int) := ⟨_, rfl⟩
  obtain ⟨dr, hdr⟩ : ∃ x : Int, x = (a1 : Int) - (b1' : Int) := ⟨_, rfl⟩
  have hdb : -100 < df ∧ df < 100 := by omega
  have hrb : -100 < dr ∧ dr < 100 := by omega
  replace hdist : distI F a b = max (kindI df) (kindI dr) := by
   rw [hdist, show ((b0 : Nat) : Int) - ((a0 : Nat) : Int) = -df by omega, show ((b1' : Nat) : Int) - ((a1 : Nat) : Int) = -dr by omega]
   unfold kindI
   congr 1 <;> (split <;> split <;> omega)
  have hwf : IntKind.i64.wrap ((a0 : Int) - (b0 : Int)) = df := by rw [← hdf]; exact IntWalk.i64_in _ (by omega)
  have hwr : IntKind.i64.wrap ((a1 : Int) - (b1' : Int)) = dr := by rw [← hdr]; exact IntWalk.i64_in _ (by omega)
  replace hdf := Lib.hid hdf
  replace hdr := Lib.hid hdr
  replace hdist := Lib.hid hdist
  go_wp2_with fail
  refine wp_region_valsL (by kernel_rfl) (by kernel_rfl) [some 15, some 16, some 17, some 18, some 19, some 20, some 21, some 22, some 23, some 24, some 25, some 26, some 27] (by rfl) (by rfl) (fun i => match i with | 0 => .pointer (some ⟨q1, 0, none⟩) | 1 => .int .i64 ((a0 : Nat) : Int) | 2 => .pointer (some ⟨q2, 0, none⟩) | 3 => .int .i64 ((b0 : Nat) : Int) | 4 => .int .i64 df | 5 => .int .i64 (kindI df) | 6 => .pointer (some ⟨q1, 1, none⟩) | 7 => .int .i64 ((a1 : Nat) : Int) | 8 => .pointer (some ⟨q2, 1, none⟩) | 9 => .int .i64 ((b1' : Nat) : Int) | 10 => .int .i64 dr | 11 => .int .i64 (kindI dr) | 12 => .bool (decide (kindI dr < kindI df)) | _ => undef) (fun W2 => Below W.heap.size W W2) (Below.refl _ _).drew ?hstep ?hend
  case hstep =>
   intro i9 o9 f9 W2 ho hi hC hf K hK
   have hi : i9 < 13 := hi
   rcases i9 with _ | _ | _ | _ | _ | _ | _ | _ | _ | _ | _ | _ | _ | i9
   ·exact st_field (og ho) 85 (.tmp 7) 0 (oo ho) (rd_out rfl rfl) (n := 0) (by kernel_rfl) (hK _ hC)
   ·exact st_loadS (og ho) 3 (.tmp 15) (oo ho) (ri 0 (da ho hf 0)) (by kernel_rfl) (((hO1.call hC).cells 0)) (hK _ hC)
   ·exact st_field (og ho) 85 (.tmp 8) 0 (oo ho) (rd_out rfl rfl) (n := 0) (by kernel_rfl) (hK _ hC)
   ·exact st_loadS (og ho) 3 (.tmp 17) (oo ho) (ri 2 (da ho hf 2)) (by kernel_rfl) (((hO2.call hC).cells 0)) (hK _ hC)
   ·exact st_bin (og ho) .sub 3 3 (.tmp 16) (.tmp 18) (oo ho) (ri 1 (da ho hf 1)) (ri 3 (da ho hf 3)) (gu_i _ _ _ _ _ _ _ _) (bin_subE hwf) (hK _ hC)
   ·exact st_call1 (og ho) 208 (.tmp 19) #[3] (oo ho) (ri 4 (da ho hf 4)) (fun _ _ => rfl) (refAbs_any df (by omega) W2) (by rintro u w9 ⟨h9, h10⟩; injection h9 with h9; subst h9; subst h10; exact hK _ hC) (fun _ _ h => nomatch h.1) (fun _ h => nomatch h.1)
   ·exact st_field (og ho) 85 (.tmp 7) 1 (oo ho) (rd_out rfl rfl) (n := 1) (by kernel_rfl) (hK _ hC)
   ·exact st_loadS (og ho) 3 (.tmp 21) (oo ho) (ri 6 (da ho hf 6)) (by kernel_rfl) (((hO1.call hC).cells 1)) (hK _ hC)
   ·exact st_field (og ho) 85 (.tmp 8) 1 (oo ho) (rd_out rfl rfl) (n := 1) (by kernel_rfl) (hK _ hC)
   ·exact st_loadS (og ho) 3 (.tmp 23) (oo ho) (ri 8 (da ho hf 8)) (by kernel_rfl) (((hO2.call hC).cells 1)) (hK _ hC)
   ·exact st_bin (og ho) .sub 3 3 (.tmp 22) (.tmp 24) (oo ho) (ri 7 (da ho hf 7)) (ri 9 (da ho hf 9)) (gu_i _ _ _ _ _ _ _ _) (bin_subE hwr) (hK _ hC)
   ·exact st_call1 (og ho) 208 (.tmp 25) #[3] (oo ho) (ri 10 (da ho hf 10)) (fun _ _ => rfl) (refAbs_any dr (by omega) W2) (by rintro u w9 ⟨h9, h10⟩; injection h9 with h9; subst h9; subst h10; exact hK _ hC) (fun _ _ h => nomatch h.1) (fun _ h => nomatch h.1)
   ·exact st_bin (og ho) .gtr 3 3 (.tmp 20) (.tmp 26) (oo ho) (ri 5 (da ho hf 5)) (ri 11 (da ho hf 11)) (gu_i _ _ _ _ _ _ _ _) (bin_gtr _ _ _) (hK _ hC)
   ·omega
  case hend =>
   intro W2 hC2
   have hc1 := (hO1.call hC2).cells
   have hc2 := (hO2.call hC2).cells
   have hl1 := (hO1.call hC2).lt
   have hl2 := (hO2.call hC2).lt
   have hBW2 := below_call hBW hBW.size hC2
   simp only [putL, Act.put, List.setIfInBounds_toArray, List.set_cons_succ, List.set_cons_zero]
   by_cases hgt : kindI dr < kindI df
   ·have e0 : Hid (distI F a b = kindI df) := Lib.hid (by rw [hdist.out]; omega)
    go_wp2_with fail
    refine (refAbs_any df (by omega) _).mono ?_
    rintro e w3 ⟨rfl, rfl⟩
    go_wp2_with fail
    go_ret
    exact ⟨by rw [e0.out]; rfl, hBW2⟩
   ·have e0 : Hid (distI F a b = kindI dr) := Lib.hid (by rw [hdist.out]; omega)
    go_wp2_with fail
    refine (refAbs_any dr (by omega) _).mono ?_
    rintro e w3 ⟨rfl, rfl⟩
    go_wp2_with fail
    go_ret
    exact ⟨by rw [e0.out]; rfl, hBW2⟩
end Go.Proofs.YtefmplccbkmalaaGreatDoor
