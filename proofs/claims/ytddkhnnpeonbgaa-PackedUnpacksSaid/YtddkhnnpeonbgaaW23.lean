import Derived.Test.YtddkhnnpeonbgaaW1
import Derived.Test.YtddkhnnpeonbgaaB2
import Derived.Laws.BitsAllLaws
namespace Go.Proofs.Ytddkhnnpeonbgaa
open Go.RowKit

/-- the panic of must -/
def badP : List PanicEntry := [{ v := .iface 32 (.int .i64 6), recovered := false }]
theorem must_ok (w : World) : Calls Try.prog 57 #[.bool true] w fun e w' => e = .returned (.tuple #[]) ∧ w = w' := by
  go_enter Try.func57, Try.ntmps57
  go_wp2
  go_end0
  exact ⟨rfl, rfl⟩
theorem must_bad (w : World) : Calls Try.prog 57 #[.bool false] w fun e w' => e = .panicked badP ∧ w = w' := by
  go_enter Try.func57, Try.ntmps57
  go_wp2
  exact ⟨rfl, rfl, rfl⟩

/-- the address behind n cells, as a slice expression leaves it -/
def adv (a n c : Nat) : Nat := if n = c then a else a + n
theorem take_ok (q g a l c n : Nat) (w : World) (h : HasO w q (.cells #[.slice (some ⟨g, a, none⟩) l c] 31 (0, 0))) (hn : n ≤ l) (hl : l ≤ c) :
    Calls Try.prog 55 #[.pointer (some ⟨q, 0, none⟩), .int .i64 n] w fun e w' => e = .returned (.slice (some ⟨g, a, none⟩) n c) ∧ w' = w.setCell ⟨q, 0, none⟩ (.slice (some ⟨g, adv a n c, none⟩) (l - n) (c - n)) := by
  have h0 := h.cells 0
  have hf := h.frozen
  have hlt := h.lt
  have h1 : (n : Int) ≤ l := by omega
  have h2 : (l : Int) ≤ c := by omega
  have h3 : (n : Int) ≤ c := by omega
  go_enter Try.func55, Try.ntmps55
  go_wp2_with fail
  refine (must_ok _).mono ?_
  rintro e w1 ⟨rfl, rfl⟩
  go_wp2_with fail
  all_goals
    go_ret
    refine ⟨rfl, ?_⟩
    congr
    unfold adv
    simp [*]
    try omega
theorem take_bad (q g a l c n : Nat) (w : World) (h : HasO w q (.cells #[.slice (some ⟨g, a, none⟩) l c] 31 (0, 0))) (hn : ¬ n ≤ l) :
    Calls Try.prog 55 #[.pointer (some ⟨q, 0, none⟩), .int .i64 n] w fun e w' => e = .panicked badP ∧ w = w' := by
  have h0 := h.cells 0
  have hf := h.frozen
  have hlt := h.lt
  have h1 : ¬ (n : Int) ≤ l := by omega
  go_enter Try.func55, Try.ntmps55
  go_wp2_with fail
  refine (must_bad _).mono ?_
  rintro e w1 ⟨rfl, rfl⟩
  exact ⟨rfl, rfl, rfl⟩
theorem take_nil (q l c n : Nat) (w : World) (h : HasO w q (.cells #[.slice none l c] 31 (0, 0))) (hn : ¬ n ≤ l) :
    Calls Try.prog 55 #[.pointer (some ⟨q, 0, none⟩), .int .i64 n] w fun e w' => e = .panicked badP ∧ w = w' := by
  have h0 := h.cells 0
  have hf := h.frozen
  have hlt := h.lt
  have h1 : ¬ (n : Int) ≤ l := by omega
  go_enter Try.func55, Try.ntmps55
  go_wp2_with fail
  refine (must_bad _).mono ?_
  rintro e w1 ⟨rfl, rfl⟩
  exact ⟨rfl, rfl, rfl⟩

/-- a block by value -/
abbrev blkCs (wd : Nat) (low : Int) (p : Option Addr) (nb cp many : Nat) : List Value := [.int .i64 wd, .int .u16 low, .slice p nb cp, .int .i64 many]
/-- bytes from a place on -/
def BytesAt (w : World) (g o : Nat) (bs : List Int) (a nb : Nat) : Prop := ∀ j, j < nb → w.cell? ⟨g, o + j, none⟩ = some (.int .u8 (atv bs (a + j)))
theorem u16_or1 (d b : Int) (h0 : 0 ≤ d) (h1 : d < 16384) (hb : 0 ≤ b ∧ b ≤ 1) : bits .or .u16 (2 * d) b = 2 * d + b := by
  obtain ⟨n, rfl⟩ := Int.eq_ofNat_of_zero_le h0
  rw [u16_or _ _ (by omega) (by omega) (by omega) (by omega)]
  have h2 : (2 * (n : Int)).toNat = n <<< 1 := by rw [Nat.shiftLeft_eq]; omega
  have h3 : b.toNat < 2 ^ 1 := by omega
  rw [h2, ← Nat.shiftLeft_add_eq_or_of_lt h3, Nat.shiftLeft_eq]
  omega
theorem bit_step {bs : List Int} {a k : Nat} (hb : 0 ≤ atv bs (a + k / 8) ∧ atv bs (a + k / 8) < 256) : bitB bs a k = IntKind.u16.wrap (bits .and .u8 (atv bs (a + k / 8) / 2 ^ (7 - k % 8)) 1) := by
  have h1 : 0 ≤ atv bs (a + k / 8) / 2 ^ (7 - k % 8) := Int.ediv_nonneg hb.1 (by have := pow_pos2 (7 - k % 8); omega)
  have h2 : atv bs (a + k / 8) / 2 ^ (7 - k % 8) < 256 := by
    have := Int.ediv_le_self (b := 2 ^ (7 - k % 8)) hb.1
    omega
  unfold bitB
  generalize atv bs (a + k / 8) / 2 ^ (7 - k % 8) = x at *
  obtain ⟨n, rfl⟩ := Int.eq_ofNat_of_zero_le h1
  have h3 := u8_and_nat n 1 (by omega) (by omega)
  rw [show (((1 : Nat) : Int)) = 1 from rfl] at h3
  rw [h3, Nat.and_one_is_mod, IntWalk.u16_in _ (by omega)]
  omega
theorem ret_i16 (x : Int) : Ending.returned (.int .i16 (IntKind.i16.wrap (IntKind.u16.wrap x))) = .returned (.int .i16 (i16of x)) := by
  have e : IntKind.i16.wrap (IntKind.u16.wrap x) = i16of x := by
    rw [IntKind.wrap_u16]
    unfold i16of
    simp only [IntKind.wrap, IntKind.bits, IntKind.signed]
    simp
    split <;> split <;> omega
  rw [e]
theorem get_any (wd nb cp many g o n : Nat) (low : Int) (bs : List Int) (a : Nat) (w : World) (hbs : isBytes bs) (hg : g < w.heap.size) (hb : BytesAt w g o bs a nb) (hw : wd ≤ 14) (hn : (n + 1) * wd ≤ 8 * nb) (hn2 : n ≤ 1000) (_hl : 0 ≤ low ∧ low < 65536) :
    Calls Try.prog 29 #[.agg (blkCs wd low (some ⟨g, o, none⟩) nb cp many).toArray, .int .i64 n] w fun e w' => e = .returned (.int .i16 (i16of (low + difB bs a (n * wd) wd))) ∧ Below w.heap.size w w' := by
  have hbx := below_box w (.cells (blkCs wd low (some ⟨g, o, none⟩) nb cp many).toArray 76)
  have hw1 : (wd : Int) ≤ 14 := by omega
  have hn1 : (n : Int) ≤ 1000 := by omega
  have hm0 : n * wd ≤ 1000 * 14 := Nat.mul_le_mul hn2 hw
  have hm : (n : Int) * wd = ((n * wd : Nat) : Int) := by simp
  have hm1 : ((n : Int) + 1) * wd = (n : Int) * wd + wd := by rw [Int.add_mul]; omega
  replace hm := Lib.hid hm
  go_enter Try.func29, Try.ntmps29
  go_wp2_with fail
  go_loop [5, 6] (fun d i => ∃ j k : Nat, Hid (k = n * wd + j) ∧ j ≤ wd ∧ i = .int .i64 k ∧ d = .int .u16 (difB bs a (n * wd) j)) (fun _ i => ((n * wd + wd : Nat) - intOf i).toNat)
  case atStart => exact ⟨0, n * wd, rfl, by omega, by rw [hm.out], rfl⟩
  case round =>
    obtain ⟨j, k, hk, hj, rfl, rfl⟩ := hrel
    have hd := difB_small bs a (n * wd) (j := j) (by omega)
    have hkb : (k : Int) ≤ 100000 := by have := hk.out; omega
    by_cases hlt : j < wd
    · have ht : (k : Int) < (n : Int) * wd + wd := by rw [hm.out]; have := hk.out; omega
      have hq : k / 8 < nb := by
        have h1 := hk.out
        have h2 : (n + 1) * wd = n * wd + wd := by rw [Nat.add_mul]; omega
        omega
      have hq2 : (k : Int) / 8 < nb := by omega
      have hcell := hb (k / 8) hq
      have hcb := atv_bd hbs (a + k / 8)
      clear hn
      go_wp2_with fail
      go_round
      case rel =>
        refine ⟨j + 1, k + 1, ?_, by omega, by go_num, ?_⟩
        · have := hk.out; exact Lib.hid (by omega)
        · rw [← bit_step hcb]
          have hk := hk.out
          rw [difB_succ, ← hk, Int.mul_comm _ 2]
          exact congrArg _ (u16_or1 _ _ hd.1 hd.2 (bitB_bd bs a k))
      case measure =>
        have hk := hk.out
        clear ht hm1
        simp only [intOf]
        omega
    · have ht : ¬ (k : Int) < (n : Int) * wd + wd := by rw [hm.out]; have := hk.out; omega
      go_wp2_with fail
      go_ret
      refine ⟨?_, hbx⟩
      have : j = wd := by omega
      subst this
      exact ret_i16 _
end Go.Proofs.Ytddkhnnpeonbgaa
