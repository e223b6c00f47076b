import Derived.Test.YtefmplccbkmalaaGreatDoorF13
set_option maxHeartbeats 12800000
namespace Go.Proofs.YtefmplccbkmalaaGreatDoor
open Go.RowKit

theorem all_div {n : Nat} (hn : n ≤ 64) : (18446744073709551615 : Int) / 2 ^ (64 - n) = ((2 ^ n - 1 : Nat) : Int) := by
 rcases Nat.lt_or_ge n 65 with h | h
 ·have key : ∀ n, n < 65 → (18446744073709551615 : Nat) / 2 ^ (64 - n) = 2 ^ n - 1 := by decide +kernel
  have := key n h
  rw [← this]
  simp
 ·omega
theorem sqAll0_any (F R : Nat) (hF : 3 ≤ F ∧ F ≤ 8) (hR : 3 ≤ R ∧ R ≤ 8) (w : World) : Calls Tryz.prog 202 #[.agg #[.int .i64 F, .int .i64 R]] w fun e w' => e = .returned (.int .u64 (2 ^ (F * R) - 1 : Nat)) ∧ Below w.heap.size w w' := by
 obtain ⟨n, hn⟩ : ∃ n, n = F * R := ⟨_, rfl⟩
 have hn64 : n ≤ 64 := by rw [hn]; exact Nat.mul_le_mul hF.2 hR.2
 have e1 : wrap64 ((F : Int) * (R : Int)) = (n : Int) := by rw [← Int.natCast_mul, ← hn]; exact IntWalk.wrap64_in _ (by omega)
 obtain ⟨m, hm⟩ : ∃ m : Nat, m = 64 - n := ⟨_, rfl⟩
 have e2 : wrap64 (64 - (n : Int)) = (m : Int) := by rw [show (64 : Int) - n = (m : Int) by omega]; exact IntWalk.wrap64_in _ (by omega)
 have hm64 : (m : Int) ≤ 64 := by omega
 rw [← hn]
 replace hn := Lib.hid hn
 replace hm := Lib.hid hm
 go_enter Tryz.func202, Tryz.ntmps202
 go_wp2_with fail
 go_ret
 exact ⟨by rw [← all_div hn64]; rfl, below_box _ _⟩
theorem sqAll_any (F R : Nat) (hF : 3 ≤ F ∧ F ≤ 8) (hR : 3 ≤ R ∧ R ≤ 8) (w : World) : Calls Tryz.prog 183 #[.agg #[.int .i64 F, .int .i64 R]] w fun e w' => e = .returned (.tuple #[.int .u64 (2 ^ (F * R) - 1 : Nat), .int .i64 0]) ∧ Below w.heap.size w w' := by
 have hA := HasO.new w (.cells #[.int .i64 (F : Int), .int .i64 (R : Int)] 23)
 have hB := below_box w (.cells #[.int .i64 (F : Int), .int .i64 (R : Int)] 23)
 have hvs := fun W => validSize_any F R W
 rw [size_nat hF hR] at hvs
 have hal := fun W => sqAll0_any F R hF hR W
 generalize ((2 ^ (F * R) - 1 : Nat) : Int) = V at *
 have hc0 := hA.cells
 have hl0 := hA.lt
 go_enter Tryz.func183, Tryz.ntmps183
 go_wp2_with fail
 refine (hvs _).mono ?_
 rintro e w2 ⟨rfl, hb2⟩
 have hA2 := hA.call hb2
 have hB2 := below_call hB hB.size hb2
 clear hc0 hl0 hA hB hb2
 have hc2 := hA2.cells
 have hl2 := hA2.lt
 go_wp2_with fail
 refine (hal _).mono ?_
 rintro e w3 ⟨rfl, hb3⟩
 go_wp2_with fail
 go_ret2
 exact ⟨rfl, below_call hB2 hB2.size hb3⟩
theorem andNot_zero {S n : Nat} (hn : n ≤ 64) (hS : S < 2 ^ n) : bits .andNot .u64 (S : Int) ((2 ^ n - 1 : Nat) : Int) = 0 := by
 have h64 : (2 : Nat) ^ n ≤ 2 ^ 64 := Nat.pow_le_pow_right (by decide) hn
 rw [u64_andNot_nat _ _ (by omega) (by omega)]
 have : S &&& (18446744073709551615 - (2 ^ n - 1)) = 0 := by
  apply Nat.eq_of_testBit_eq
  intro i
  rw [Nat.testBit_and, Nat.zero_testBit]
  by_cases hi : i < n
  ·have e1 : 18446744073709551615 - (2 ^ n - 1) = 2 ^ n * (2 ^ (64 - n) - 1) := by
    have h1 : 2 ^ n * 2 ^ (64 - n) = 2 ^ 64 := by rw [← Nat.pow_add]; congr 1; omega
    rw [Nat.mul_sub, h1, Nat.mul_one]
    have := Nat.two_pow_pos n
    omega
   have : (2 ^ n * (2 ^ (64 - n) - 1)).testBit i = false := by
    rw [Nat.testBit_two_pow_mul]; simp; omega
   rw [e1, this, Bool.and_false]
  ·have : S.testBit i = false := Nat.testBit_lt_two_pow (Nat.lt_of_lt_of_le hS (Nat.pow_le_pow_right (by decide) (by omega)))
   rw [this, Bool.false_and]
 rw [this]; rfl
theorem rayOn_any (F R a S : Nat) (hF : 3 ≤ F ∧ F ≤ 8) (hR : 3 ≤ R ∧ R ≤ 8) (ha : a < F * R) (hS : S < 2 ^ (F * R)) (w : World) : Calls Tryz.prog 144 #[.agg #[.int .i64 F, .int .i64 R], .int .i64 a, .int .u64 (S : Nat)] w fun e w' => e = .returned (.bool true) ∧ Below w.heap.size w w' := by
 have hA := HasO.new w (.cells #[.int .i64 (F : Int), .int .i64 (R : Int)] 23)
 have hB := below_box w (.cells #[.int .i64 (F : Int), .int .i64 (R : Int)] 23)
 have hal := fun W => sqAll_any F R hF hR W
 have hsv := fun W => sqValid_any F R a W
 rw [sqB_nat hF hR ha] at hsv
 have hz := andNot_zero (Nat.mul_le_mul hF.2 hR.2) hS
 generalize ((2 ^ (F * R) - 1 : Nat) : Int) = V at *
 have hc0 := hA.cells
 have hl0 := hA.lt
 go_enter Tryz.func144, Tryz.ntmps144
 go_wp2_with fail
 refine (hal _).mono ?_
 rintro e w2 ⟨rfl, hb2⟩
 have hA2 := hA.call hb2
 have hB2 := below_call hB hB.size hb2
 clear hc0 hl0 hA hB hb2
 have hc2 := hA2.cells
 have hl2 := hA2.lt
 go_wp2_with fail
 refine (hsv _).mono ?_
 rintro e w3 ⟨rfl, hb3⟩
 go_wp2_with fail
 go_ret
 exact ⟨rfl, below_call hB2 hB2.size hb3⟩
def StepArr (w : World) (g o : Nat) (st : List (Int × Int)) : Prop := g < w.heap.size ∧ ∀ j, j < st.length → w.cell? ⟨g, o + j * 2, none⟩ = some (.int .i64 (st[j]?.getD (0, 0)).1) ∧ w.cell? ⟨g, o + j * 2 + 1, none⟩ = some (.int .i64 (st[j]?.getD (0, 0)).2)
theorem StepArr.call {w w' : World} {g o : Nat} {st : List (Int × Int)} (h : StepArr w g o st) (hb : Below w.heap.size w w') : StepArr w' g o st :=
 ⟨Nat.lt_of_lt_of_le h.1 hb.size, fun j hj => ⟨(hb.cell (p := ⟨g, o + j * 2, none⟩) h.1).trans (h.2 j hj).1, (hb.cell (p := ⟨g, o + j * 2 + 1, none⟩) h.1).trans (h.2 j hj).2⟩⟩
def leapW (F R a : Nat) (st : List (Int × Int)) : Nat → Nat
 | 0 => 0
 | k + 1 => if onB F R (((a % F : Nat) : Int) + (st[k]?.getD (0, 0)).1) (((a / F : Nat) : Int) + (st[k]?.getD (0, 0)).2) then leapW F R a st k ||| 2 ^ ((((a % F : Nat) : Int) + (st[k]?.getD (0, 0)).1) + (((a / F : Nat) : Int) + (st[k]?.getD (0, 0)).2) * F).toNat else leapW F R a st k
theorem at_lt {F R : Nat} {a b : Int} (h : onB F R a b = true) : ∃ n : Nat, a + b * F = n ∧ n < F * R := by
 obtain ⟨h1, h2, h3, h4⟩ := onB_fact h
 obtain ⟨x, rfl⟩ : ∃ x : Nat, a = x := ⟨a.toNat, by omega⟩
 obtain ⟨y, rfl⟩ : ∃ y : Nat, b = y := ⟨b.toNat, by omega⟩
 refine ⟨x + y * F, by simp, ?_⟩
 have h5 : y + 1 ≤ R := by omega
 have h6 := Nat.mul_le_mul_right F h5
 rw [Nat.add_mul, Nat.one_mul, Nat.mul_comm R F] at h6
 omega
theorem leapW_lt {F R a : Nat} (st : List (Int × Int)) (k : Nat) : leapW F R a st k < 2 ^ (F * R) := by
 induction k with
 | zero => simp [leapW, Nat.two_pow_pos]
 | succ k ih =>
  simp only [leapW]
  split
  ·rename_i h
   obtain ⟨n, hn, hl⟩ := at_lt h
   rw [hn, Int.toNat_natCast]
   exact Nat.or_lt_two_pow ih (Nat.pow_lt_pow_right (by decide) hl)
  ·exact ih
theorem pow_FR {F R : Nat} (hF : 3 ≤ F ∧ F ≤ 8) (hR : 3 ≤ R ∧ R ≤ 8) : 2 ^ (F * R) ≤ 18446744073709551616 := Nat.pow_le_pow_right (n := 2) (by decide) (Nat.mul_le_mul hF.2 hR.2 : F * R ≤ 8 * 8)
set_option maxRecDepth 100000 in
theorem leap_any (F R a g o c : Nat) (st : List (Int × Int)) (hF : 3 ≤ F ∧ F ≤ 8) (hR : 3 ≤ R ∧ R ≤ 8) (ha : a < F * R) (hst : ∀ x ∈ st, (-2 ≤ x.1 ∧ x.1 ≤ 2) ∧ (-2 ≤ x.2 ∧ x.2 ≤ 2)) (hl : st.length ≤ 100) (w : World) (hs : StepArr w g o st) :
  Calls Tryz.prog 145 #[.agg #[.int .i64 F, .int .i64 R], .int .i64 a, .slice (some ⟨g, o, none⟩) st.length c] w fun e w' => e = .returned (.int .u64 (leapW F R a st st.length : Nat)) ∧ Below w.heap.size w w' := by
 have hA := HasO.new w (.cells #[.int .i64 (F : Int), .int .i64 (R : Int)] 23)
 have hB := below_box w (.cells #[.int .i64 (F : Int), .int .i64 (R : Int)] 23)
 have hpl := fun W => sqPlace_good F R a hF hR ha W
 obtain ⟨ha64, ha0, ha1⟩ := sq_bd hF hR ha
 have hpw := pow_FR hF hR
 have hFR : F * R ≤ 64 := Nat.mul_le_mul hF.2 hR.2
 have hlw := fun k => leapW_lt (F := F) (R := R) (a := a) st k
 have hnx0 : ∀ k, leapW F R a st (k + 1) = if onB F R (((a % F : Nat) : Int) + (st[k]?.getD (0, 0)).1) (((a / F : Nat) : Int) + (st[k]?.getD (0, 0)).2) then leapW F R a st k ||| 2 ^ ((((a % F : Nat) : Int) + (st[k]?.getD (0, 0)).1) + (((a / F : Nat) : Int) + (st[k]?.getD (0, 0)).2) * F).toNat else leapW F R a st k := fun k => rfl
 have hr0n : (0 : Int) ≤ ((a / F : Nat) : Int) := Int.natCast_nonneg _
 have hr0b : ((a / F : Nat) : Int) < 8 := by omega
 have hf0b : ((a % F : Nat) : Int) < 8 := by omega
 have hz : leapW F R a st 0 = 0 := rfl
 generalize leapW F R a st = LW at *
 generalize a % F = f0 at *
 generalize a / F = r0 at *
 have hc0 := hA.cells
 have hl0 := hA.lt
 go_enter Tryz.func145, Tryz.ntmps145
 go_wp2_with fail
 refine (hpl _).mono ?_
 rintro e w2 ⟨rfl, hb2⟩
 have hA2 := hA.call hb2
 have hB2 := below_call hB hB.size hb2
 have hs2 := hs.call hB2
 clear hc0 hl0 hA hB hb2 hpl hs
 go_wp2_with fail
 go_loopg [10, 24] 101 (fun q sv iv wr => ∃ i : Nat, q + i = 101 ∧ i ≤ st.length ∧ iv = .int .i64 i ∧ sv = .int .u64 (LW i : Nat) ∧ Below w2.heap.size w2 wr)
 case atStart => exact ⟨0, rfl, Nat.zero_le _, rfl, by rw [hz]; rfl, Below.refl _ _⟩
 case round =>
  obtain ⟨i, hq, hi, rfl, rfl, hbr⟩ := hrel
  have hAr := hA2.call hbr
  have hBr := below_call hB2 hB2.size hbr
  have hcA := hAr.cells
  have hlA := hAr.lt
  by_cases hlt : i < st.length
  ·have hii : (i : Int) < st.length := by omega
   have hsr := hs2.call hbr
   obtain ⟨hc1, hc2⟩ := hsr.2 i hlt
   have hgl := hsr.1
   have hnx := hnx0 i
   have hlwi := hlw i
   have hxm : (st[i]?.getD (0, 0)) ∈ st := by rw [List.getElem?_eq_getElem hlt]; exact List.getElem_mem hlt
   obtain ⟨⟨x1, x2⟩, x3, x4⟩ := hst _ hxm
   obtain ⟨dx, hdx⟩ : ∃ d, d = (st[i]?.getD (0, 0)).1 := ⟨_, rfl⟩
   obtain ⟨dy, hdy⟩ : ∃ d, d = (st[i]?.getD (0, 0)).2 := ⟨_, rfl⟩
   rw [← hdx] at hc1 hnx x1 x2
   rw [← hdy] at hc2 hnx x3 x4
   clear hxm hdx hdy
   generalize LW i = S at *
   have e1 : wrap64 ((f0 : Int) + dx) = f0 + dx := wrap_small (by omega)
   have e2 : wrap64 ((r0 : Int) + dy) = r0 + dy := wrap_small (by omega)
   have hat := fun W => sqAt_any F R (f0 + dx) (r0 + dy) hF hR W
   go_wp2_with fail
   refine (hat _).mono ?_
   rintro e w4 ⟨rfl, hb4⟩
   have hb5 := below_call hbr hbr.size ((below_box wr (.cells #[.int .i64 dx, .int .i64 dy] 181)).trans (hb4.mono (by simp)))
   clear hat hcA hlA hAr hBr hsr hc1 hc2 hgl hb4 hbr
   rcases hv : onB F R ((f0 : Int) + dx) ((r0 : Int) + dy) with _ | _
   ·have e0 : Hid (atV F R (f0 + dx) (r0 + dy) = .tuple #[.int .i64 0, .int .i64 3]) := Lib.hid (by unfold atV; rw [hv]; rfl)
    rw [hv] at hnx
    replace hnx := Lib.hid (hnx.trans (if_neg (by simp)))
    rw [e0.out]
    go_wp2_with fail
    go_roundg (gk - 1)
    case measure => omega
    case rel => exact ⟨i + 1, by omega, by omega, by go_num, by rw [hnx.out], hb5⟩
   ·obtain ⟨n, hn, hnl⟩ := at_lt hv
    have e0 : Hid (atV F R (f0 + dx) (r0 + dy) = .tuple #[.int .i64 (n : Int), .int .i64 0]) := Lib.hid (by unfold atV; rw [hv, hn]; rfl)
    rw [hv, hn, Int.toNat_natCast] at hnx
    replace hnx := Lib.hid (hnx.trans (if_pos rfl))
    have hn64 : n < 64 := by omega
    have hn64' : (n : Int) < 64 := by omega
    rw [e0.out]
    clear hn
    go_wp2_with fail
    go_roundg (gk - 1)
    case measure => omega
    case rel =>
     refine ⟨i + 1, by omega, by omega, by go_num, ?_, hb5⟩
     rw [or_bit (Nat.lt_of_lt_of_le hlwi hpw) hn64, hnx.out]
  ·have hii : ¬ (i : Int) < st.length := by omega
   obtain rfl : i = st.length := by omega
   go_wp2_with fail
   go_ret
   exact ⟨rfl, hBr⟩
end Go.Proofs.YtefmplccbkmalaaGreatDoor
namespace Go.Proofs.YtefmplccbkmalaaGreatDoor
open Go.RowKit
attribute [local go_sem] Oper.semAt_some

def RayRd (F R a : Nat) (dx dy : Int) (q1 q2 q3 q4 : Nat) (W : World) : Prop :=
 HasO W q1 (.cells #[.int .i64 (F : Int), .int .i64 (R : Int)] 23 (0, 0)) ∧ HasO W q2 (.cells #[.int .i64 (a : Int)] 3 (0, 0)) ∧ HasO W q3 (.cells #[.int .i64 dx] 3 (0, 0)) ∧ HasO W q4 (.cells #[.int .i64 dy] 3 (0, 0))
theorem numI_on {F R : Nat} {a b : Int} : (numI F R a b < 0 ↔ onB F R a b = false) ∧ (onB F R a b = true → numI F R a b = a + b * F) := by
 unfold numI onB
 by_cases h : a < 0 ∨ (F : Int) ≤ a ∨ b < 0 ∨ (R : Int) ≤ b
 ·rw [if_pos h]
  have : (decide (0 ≤ a) && (decide (a < F) && (decide (0 ≤ b) && decide (b < R)))) = false := by simp; omega
  rw [this]; simp
 ·rw [if_neg h]
  have h2 : (decide (0 ≤ a) && (decide (a < F) && (decide (0 ≤ b) && decide (b < R)))) = true := by simp; omega
  rw [h2]
  refine ⟨?_, fun _ => by omega⟩
  simp
  have := Int.mul_nonneg (show (0 : Int) ≤ b by omega) (show (0 : Int) ≤ (F : Int) by omega)
  omega
theorem rayL_get {F R a : Nat} {dx dy : Int} : ∀ (n k i : Nat), i < (rayL F R a dx dy n k).length → (rayL F R a dx dy n k)[i]?.getD 0 = rayN F R a dx dy (k + i) ∧ 0 ≤ rayN F R a dx dy (k + i) := by
 intro n
 induction n with
 | zero => intro k i h; simp [rayL] at h
 | succ n ih =>
  intro k i h
  by_cases hneg : rayN F R a dx dy k < 0
  ·rw [rayL_neg hneg] at h; simp at h
  ·rw [rayL_pos hneg] at h ⊢
   cases i with
   | zero => simp; omega
   | succ i =>
    have := ih (k + 1) i (by simpa using h)
    rw [show k + (i + 1) = k + 1 + i by omega]
    simpa using this
theorem rayL_end {F R a : Nat} {dx dy : Int} : ∀ (n k : Nat), (rayL F R a dx dy n k).length < n → rayN F R a dx dy (k + (rayL F R a dx dy n k).length) < 0 := by
 intro n
 induction n with
 | zero => intro k h; omega
 | succ n ih =>
  intro k h
  by_cases hneg : rayN F R a dx dy k < 0
  ·rw [rayL_neg hneg]; simpa using hneg
  ·rw [rayL_pos hneg] at h ⊢
   have := ih (k + 1) (by simpa using h)
   simp only [List.length_cons]
   rw [show k + ((rayL F R a dx dy n (k + 1)).length + 1) = k + 1 + (rayL F R a dx dy n (k + 1)).length by omega]
   exact this
theorem mul8 {d : Int} (h : d = -1 ∨ d = 1) (x : Int) (hx : 0 ≤ x ∧ x < 8) : ¬ (0 ≤ x + 8 * d ∧ x + 8 * d < 8) := by rcases h with rfl | rfl <;> omega
theorem ray8 {F R a : Nat} {dx dy : Int} (hF : 3 ≤ F ∧ F ≤ 8) (hR : 3 ≤ R ∧ R ≤ 8) (ha : a < F * R) (hdx : -1 ≤ dx ∧ dx ≤ 1) (hdy : -1 ≤ dy ∧ dy ≤ 1) (hn : ¬ (dx = 0 ∧ dy = 0)) : rayN F R a dx dy 8 < 0 := by
 obtain ⟨_, h0, h1⟩ := sq_bd hF hR ha
 have b3 : (0 : Int) ≤ ((a / F : Nat) : Int) := Int.natCast_nonneg _
 have b4 : (0 : Int) ≤ ((a % F : Nat) : Int) := Int.natCast_nonneg _
 unfold rayN
 rw [numI_on.1]
 generalize a / F = r0 at *
 generalize a % F = f0 at *
 unfold onB
 rcases (by omega : (dx = -1 ∨ dx = 1) ∨ (dy = -1 ∨ dy = 1)) with h | h
 ·have := mul8 h f0 (by omega)
  simp; omega
 ·have := mul8 h r0 (by omega)
  simp; omega
theorem rayL_stop {F R a : Nat} {dx dy : Int} (hF : 3 ≤ F ∧ F ≤ 8) (hR : 3 ≤ R ∧ R ≤ 8) (ha : a < F * R) (hdx : -1 ≤ dx ∧ dx ≤ 1) (hdy : -1 ≤ dy ∧ dy ≤ 1) (hn : ¬ (dx = 0 ∧ dy = 0)) :
  (rayL F R a dx dy 8 1).length < 8 ∧ rayN F R a dx dy (1 + (rayL F R a dx dy 8 1).length) < 0 := by
 have h8 := ray8 hF hR ha hdx hdy hn
 have hl : (rayL F R a dx dy 8 1).length < 8 := by
  rcases Nat.lt_or_ge (rayL F R a dx dy 8 1).length 8 with h | h
  ·exact h
  ·have := (rayL_get (F := F) (R := R) (a := a) (dx := dx) (dy := dy) 8 1 7 (by omega)).2
   rw [show 1 + 7 = 8 by rfl] at this
   omega
 exact ⟨hl, rayL_end 8 1 hl⟩
theorem mea_lt {dx dy f r : Int} (hdx : -1 ≤ dx ∧ dx ≤ 1) (hdy : -1 ≤ dy ∧ dy ≤ 1) (hn : ¬ (dx = 0 ∧ dy = 0)) (hf : -20 ≤ f ∧ f ≤ 20) (hr : -20 ≤ r ∧ r ≤ 20) : (100 - (dx * (f + dx) + dy * (r + dy))).toNat < (100 - (dx * f + dy * r)).toNat := by
 rcases (by omega : dx = -1 ∨ dx = 0 ∨ dx = 1) with rfl | rfl | rfl <;> rcases (by omega : dy = -1 ∨ dy = 0 ∨ dy = 1) with rfl | rfl | rfl <;> omega
theorem max4 {dx dy : Int} (hdx : -1 ≤ dx ∧ dx ≤ 1) (hdy : -1 ≤ dy ∧ dy ≤ 1) (hn : ¬ (dx = 0 ∧ dy = 0)) (W : World) : (Builtin.max_ #[3, 3, 3, 3] 3 #[.int .i64 dx, .int .i64 (-dx), .int .i64 dy, .int .i64 (-dy)]).run Tryz.prog W = .ok (.int .i64 1) W := by
 rcases (by omega : dx = -1 ∨ dx = 0 ∨ dx = 1) with rfl | rfl | rfl <;> rcases (by omega : dy = -1 ∨ dy = 0 ∨ dy = 1) with rfl | rfl | rfl
 all_goals first | (exact absurd ⟨rfl, rfl⟩ hn) | kernel_rfl
set_option maxRecDepth 100000 in
theorem ray_seq (F R a : Nat) (dx dy : Int) (q1 q2 q3 q4 : Nat) (hF : 3 ≤ F ∧ F ≤ 8) (hR : 3 ≤ R ∧ R ≤ 8) (ha : a < F * R) (hdx : -1 ≤ dx ∧ dx ≤ 1) (hdy : -1 ≤ dy ∧ dy ≤ 1) (hn : ¬ (dx = 0 ∧ dy = 0)) (L : List Int) (hL : L = rayL F R a dx dy 8 1) :
  SeqI Tryz.prog 200 #[.pointer (some ⟨q1, 0, none⟩), .pointer (some ⟨q2, 0, none⟩), .pointer (some ⟨q3, 0, none⟩), .pointer (some ⟨q4, 0, none⟩)] L.length (fun k => #[.int .i64 (L[k]?.getD 0)]) (RayRd F R a dx dy q1 q2 q3 q4) (fun _ _ => False) (fun _ => False) := by
 intro n l J Jx W0 hst hstx hRd hsz hszx h0 hy
 have hJ0 := h0 W0.heap.size W0 (Below.refl _ _) (Nat.le_refl _) rfl
 obtain ⟨hr1, hr2, hr3, hr4⟩ := hRd _ _ _ hJ0
 obtain ⟨hl8, hend⟩ := rayL_stop hF hR ha hdx hdy hn
 have hget := fun i => rayL_get (F := F) (R := R) (a := a) (dx := dx) (dy := dy) 8 1 i
 rw [← hL] at hl8 hend hget
 have hray : ∀ k : Nat, rayN F R a dx dy k = numI F R (((a % F : Nat) : Int) + k * dx) (((a / F : Nat) : Int) + k * dy) := fun k => rfl
 have hpl := fun W => sqPlace_good F R a hF hR ha W
 obtain ⟨ha64, ha0, ha1⟩ := sq_bd hF hR ha
 have b3 : (0 : Int) ≤ ((a / F : Nat) : Int) := Int.natCast_nonneg _
 have b1 : ((a / F : Nat) : Int) < 8 := by omega
 generalize rayN F R a dx dy = rn at *
 generalize a / F = r0 at *
 generalize a % F = f0 at *
 have b2 : (f0 : Int) < 8 := by omega
 replace hL := Lib.hid hL
 have c1 := hr1.cells
 have c2 := hr2.cells
 have c3 := hr3.cells
 have c4 := hr4.cells
 have l1 := hr1.lt
 have l2 := hr2.lt
 have l3 := hr3.lt
 have l4 := hr4.lt
 refine callsIn_of_wp Tryz.func200 rfl trivial ?_ rfl
 simp only [Tryz.ntmps200, List.size_toArray, List.length_cons, List.length_nil, Nat.reduceAdd, Nat.reduceSub, Array.replicate_succ, Array.replicate_zero, List.push_toArray, List.append_toArray, List.nil_append, List.cons_append]
 gi_wp2_with fail
 refine ⟨trivial, fun h => by simp [Fence.wide] at h, (callsIn_wide.2 (hpl _)).mono ?_⟩
 rintro e W1 ⟨rfl, hb1⟩
 have hJ1 := hst _ _ _ W1 (Nat.le_refl _) hJ0 (Alt.call hb1)
 clear c1 c2 c3 c4 l1 l2 l3 l4 hpl
 have hr1 := hr1.call hb1
 have hr2 := hr2.call hb1
 have hr3 := hr3.call hb1
 have hr4 := hr4.call hb1
 have c1 := hr1.cells
 have c2 := hr2.cells
 have c3 := hr3.cells
 have c4 := hr4.cells
 have l1 := hr1.lt
 have l2 := hr2.lt
 have l3 := hr3.lt
 have l4 := hr4.lt
 clear hb1 hJ0 h0
 have hg : ((dx == 0) = true ∧ (dy == 0) = false) ∨ (dx == 0) = false := by
  by_cases h : dx = 0
  ·left; exact ⟨by simp [h], by simpa using fun h2 => hn ⟨h, h2⟩⟩
  ·right; simp [h]
 have w1 : wrap64 (-dx) = -dx := wrap_small (by omega)
 have w2 : wrap64 (-dy) = -dy := wrap_small (by omega)
 have hmax := fun W => max4 hdx hdy hn W
 have m2 : ¬ dx < -8 := by omega
 have m3 : ¬ dy < -8 := by omega
 rcases hg with ⟨g1, g2⟩ | g1
 all_goals
  gi_wp2_with fail
  gi_loopw [6, 7] (fun fv rv wr => ∃ k : Nat, k ≤ L.length ∧ fv = .int .i64 ((f0 : Int) + k * dx) ∧ rv = .int .i64 ((r0 : Int) + k * dy) ∧ J W0.heap.size k wr) (fun fv rv _ => (100 - (dx * intOf fv + dy * intOf rv)).toNat)
  case atStart => exact ⟨0, Nat.zero_le _, by simp, by simp, hJ1⟩
  case round =>
   obtain ⟨k, hk, rfl, rfl, hJ⟩ := hrel
   clear hr1 hr2 hr3 hr4 c1 c2 c3 c4 l1 l2 l3 l4 hJ1 hmax
   obtain ⟨hr1, hr2, hr3, hr4⟩ := hRd _ _ _ hJ
   have c1 := hr1.cells
   have c2 := hr2.cells
   have c3 := hr3.cells
   have c4 := hr4.cells
   have l1 := hr1.lt
   have l2 := hr2.lt
   have l3 := hr3.lt
   have l4 := hr4.lt
   have p1 := mul_sgn (k := k) (by omega) hdx
   have p2 := mul_sgn (k := k) (by omega) hdy
   have p3 : ((k + 1 : Nat) : Int) * dx = k * dx + dx := by rw [Int.natCast_add]; simp [Int.add_mul]
   have p4 : ((k + 1 : Nat) : Int) * dy = k * dy + dy := by rw [Int.natCast_add]; simp [Int.add_mul]
   have e1 : wrap64 ((f0 : Int) + k * dx + dx) = f0 + k * dx + dx := wrap_small (by omega)
   have e2 : wrap64 ((r0 : Int) + k * dy + dy) = r0 + k * dy + dy := wrap_small (by omega)
   have hrk := hray (1 + k)
   rw [show (1 + k) = k + 1 by omega, p3, p4, ← Int.add_assoc, ← Int.add_assoc] at hrk
   have hat := fun W => sqAt_any F R ((f0 : Int) + k * dx + dx) ((r0 : Int) + k * dy + dy) hF hR W
   have hno := (numI_on (F := F) (R := R) (a := (f0 : Int) + k * dx + dx) (b := (r0 : Int) + k * dy + dy))
   rw [← hrk] at hno
   gi_wp2_with fail
   gi_region
   gi_wp2_with fail
   refine ⟨trivial, fun h => by simp [Fence.wide] at h, (callsIn_wide.2 (hat _)).mono ?_⟩
   rintro e W2 ⟨rfl, hb2⟩
   have hb2' : Below wr.heap.size wr W2 := (Below.refl wr.heap.size wr).drew.trans hb2
   have hJ2 := hst _ _ _ W2 (Nat.le_refl _) hJ (Alt.call hb2')
   clear hr1 hr2 hr3 hr4 c1 c2 c3 c4 l1 l2 l3 l4 hJ hat hb2 hb2'
   rcases hv : onB F R ((f0 : Int) + k * dx + dx) ((r0 : Int) + k * dy + dy) with _ | _
   ·have e0 : Hid (atV F R ((f0 : Int) + k * dx + dx) ((r0 : Int) + k * dy + dy) = .tuple #[.int .i64 0, .int .i64 3]) := Lib.hid (by unfold atV; rw [hv]; rfl)
    have hneg := hno.1.2 hv
    have hkL : k = L.length := by
     rcases Nat.lt_or_ge k L.length with h | h
     ·have := (hget k h).2
      rw [show 1 + k = k + 1 by omega] at this
      omega
     ·omega
    rw [e0.out]
    replace hrk := Lib.hid hrk
    replace hno := Lib.hid hno
    replace hkL := Lib.hid hkL
    replace p3 := Lib.hid p3
    replace p4 := Lib.hid p4
    gi_wp2_with fail
    refine ⟨(fun f h => by cases h), ?_⟩
    gi_wp2_with fail
    refine bodyPost_ret (results_none rfl _ _ _) rfl ?_
    exact ⟨W0.heap.size, Nat.le_refl _, .inl ⟨⟨_, rfl⟩, .inl (by rw [← hkL.out]; exact hJ2)⟩⟩
   ·have hkL : k < L.length := by
     rcases Nat.lt_or_ge k L.length with h | h
     ·exact h
     ·obtain rfl : k = L.length := by omega
      rw [show 1 + L.length = L.length + 1 by omega] at hend
      rw [hno.1.1 hend] at hv
      cases hv
    have hLk : L[k]?.getD 0 = rn (k + 1) := by have := (hget k hkL).1; rwa [show 1 + k = k + 1 by omega] at this
    have e0 : Hid (atV F R ((f0 : Int) + k * dx + dx) ((r0 : Int) + k * dy + dy) = .tuple #[.int .i64 (L[k]?.getD 0), .int .i64 0]) := Lib.hid (by unfold atV; rw [hv, hLk, hno.2 hv]; rfl)
    have hyk := hy W0.heap.size k W2 (Nat.le_refl _) hkL hJ2 (fun q h1 h2 => by omega)
    change YieldAt _ _ _ _ #[.int .i64 (L[k]?.getD 0)] _ _ at hyk
    rw [e0.out]
    generalize L[k]?.getD 0 = x at hyk hLk e0 ⊢
    obtain ⟨fn, tmps, assign, body, hy1, hR⟩ := hyk
    replace hrk := Lib.hid hrk
    replace hno := Lib.hid hno
    replace hLk := Lib.hid hLk
    replace p3 := Lib.hid p3
    replace p4 := Lib.hid p4
    gi_wp2_with fail
    refine ⟨fun h => by simp [Fence.wide] at h, (roundIn_any hR).mono ?_⟩
    rintro e W' (⟨rfl, hJ', _⟩ | ⟨rfl, hJx⟩)
    ·gi_wp2_with fail
     go_roundw
     case rel => exact ⟨k + 1, hkL, by rw [p3.out, Int.add_assoc], by rw [p4.out, Int.add_assoc], hJ'⟩
     case measure => exact mea_lt hdx hdy hn (by omega) (by omega)
    ·gi_wp2_with fail
     refine bodyPost_ret (results_none rfl _ _ _) rfl ?_
     exact ⟨W0.heap.size, Nat.le_refl _, .inl ⟨⟨_, rfl⟩, .inr ⟨k, hkL, hJx⟩⟩⟩
end Go.Proofs.YtefmplccbkmalaaGreatDoor
