import Derived.Test.YtddkhnnpeonbgaaW23
namespace Go.Proofs.Ytddkhnnpeonbgaa
open Go.RowKit

/-- a block of the reference, by value -/
abbrev rblkCs (wd : Nat) (low : Int) (a many : Nat) : List Value := [.int .i64 wd, .int .i64 low, .int .i64 a, .int .i64 many]
theorem div_pow_succ (x : Int) (j : Nat) : x / 2 ^ j / 2 = x / 2 ^ (j + 1) := by
  rw [Int.ediv_ediv_of_nonneg (by have := pow_pos2 j; omega), Int.pow_succ]
theorem i16_vals (v : Int) (h0 : 0 ≤ v) (h1 : v < 131072) : (v < 65536 ∧ v < 32768 ∧ i16of v = v) ∨ (v < 65536 ∧ ¬ v < 32768 ∧ i16of v = v - 65536) ∨ (¬ v < 65536 ∧ v - 65536 < 32768 ∧ i16of v = v - 65536) ∨ (¬ v < 65536 ∧ ¬ v - 65536 < 32768 ∧ i16of v = v - 65536 - 65536) := by
  unfold i16of
  split <;> omega

theorem refRead_any (wd a many n g o cp : Nat) (low : Int) (bs : List Int) (w : World) (hbs : isBytes bs) (hg : g < w.heap.size) (hb : BytesAt w g o bs 0 bs.length) (hw : wd ≤ 14) (ha : a ≤ bs.length) (hn : (n + 1) * wd ≤ 8 * (bs.length - a)) (hl : bs.length ≤ 2000000) (hn2 : n ≤ 1000) (hlow : 0 ≤ low ∧ low < 65536) :
    Calls Try.prog 31 #[.slice (some ⟨g, o, none⟩) bs.length cp, .agg (rblkCs wd low a many).toArray, .int .i64 n] w fun e w' => e = .returned (.int .i16 (i16of (low + difB bs a (n * wd) wd))) ∧ Below w.heap.size w w' := by
  have hbx := below_box w (.cells (rblkCs wd low a many).toArray 53)
  have hw1 : (wd : Int) ≤ 14 := by omega
  have hn1 : (n : Int) ≤ 1000 := by omega
  have ha1 : (a : Int) ≤ 2000000 := by omega
  have hm0 : n * wd ≤ 1000 * 14 := Nat.mul_le_mul hn2 hw
  have hm : (n : Int) * wd = ((n * wd : Nat) : Int) := by simp
  replace hm := Lib.hid hm
  go_enter Try.func31, Try.ntmps31
  go_wp2_with fail
  go_loop [7, 8] (fun d i => ∃ j : Nat, j ≤ wd ∧ i = .int .i64 j ∧ d = .int .i64 (difB bs a (n * wd) j)) (fun _ i => (wd - intOf i).toNat)
  case atStart => exact ⟨0, by omega, rfl, rfl⟩
  case round =>
    obtain ⟨j, hj, rfl, rfl⟩ := hrel
    have hd := difB_small bs a (n * wd) (j := j) (by omega)
    by_cases hlt : j < wd
    · have hlt2 : (j : Int) < wd := by omega
      obtain ⟨k, hk⟩ : ∃ k : Nat, (n : Int) * wd + j = (k : Int) := ⟨n * wd + j, by rw [hm.out]; rfl⟩
      have hk2 : k = n * wd + j := by have := hm.out; omega
      have hkb : (k : Int) ≤ 100000 := by omega
      have hq : a + k / 8 < bs.length := by
        have h2 : (n + 1) * wd = n * wd + wd := by rw [Nat.add_mul]; omega
        omega
      have hq2 : (a : Int) + (k : Int) / 8 < bs.length := by omega
      have hcell := hb (a + k / 8) hq
      have hcb := atv_bd hbs (a + k / 8)
      rw [Nat.zero_add] at hcell
      replace hk2 := Lib.hid hk2
      clear hn
      go_wp2_with fail
      go_loop [10, 11] (fun c i => ∃ t : Nat, t ≤ 7 - k % 8 ∧ i = .int .i64 t ∧ c = .int .i64 (atv bs (a + k / 8) / 2 ^ t)) (fun _ i => (7 - k % 8 : Nat) - (intOf i).toNat)
      case atStart => exact ⟨0, by omega, rfl, by rw [Int.pow_zero, Int.ediv_one]⟩
      case round =>
        obtain ⟨t, ht, rfl, rfl⟩ := hrel
        have hp := pow_pos2 t
        have hx1 : 0 ≤ atv bs (a + k / 8) / 2 ^ t := Int.ediv_nonneg hcb.1 (by omega)
        have hx2 : atv bs (a + k / 8) / 2 ^ t < 256 := by have := Int.ediv_le_self (b := 2 ^ t) hcb.1; omega
        have hs := Lib.hid (div_pow_succ (atv bs (a + k / 8)) t)
        have htb : (t : Int) ≤ 7 := by omega
        by_cases h7 : t < 7 - k % 8
        · have h8 : (t : Int) < 7 - (k : Int) % 8 := by omega
          generalize hy : atv bs (a + k / 8) / 2 ^ t = y at *
          replace hy := Lib.hid hy
          go_wp2_with fail
          go_round
          case rel => exact ⟨t + 1, by omega, by go_num, by rw [← hs.out]⟩
          case measure => simp [intOf]; omega
        · have h8 : ¬ (t : Int) < 7 - (k : Int) % 8 := by omega
          have e7 : t = 7 - k % 8 := by omega
          have hbit : Hid (difB bs a (n * wd) (j + 1) = 2 * difB bs a (n * wd) j + atv bs (a + k / 8) / 2 ^ t % 2) := Lib.hid (by rw [difB_succ, ← hk2.out]; unfold bitB; rw [e7])
          generalize hy : atv bs (a + k / 8) / 2 ^ t = y at *
          replace hy := Lib.hid hy
          clear e7
          go_wp2_with fail
          go_round
          case rel => exact ⟨j + 1, by omega, by go_num, by rw [hbit.out]⟩
          case measure => simp [intOf]; omega
    · have hlt2 : ¬ (j : Int) < wd := by omega
      obtain rfl : j = wd := by omega
      have hv := i16_vals (low + difB bs a (n * j) j) (by omega) (by omega)
      replace hv := Lib.hid hv
      go_wp2_with fail
      all_goals
        go_ret
        refine ⟨ret_int ?_, hbx⟩
        have hv := hv.out
        omega
end Go.Proofs.Ytddkhnnpeonbgaa
