import Derived.Test.YtddkhnnpeonbgaaW18
namespace Go.Proofs.Ytddkhnnpeonbgaa
open Go.RowKit

theorem padL_len (bs : List Int) : (padL bs).length = bs.length + padN bs.length := by simp [padL]
theorem end_any (base q : Nat) (v : Value) (pre bs : List Int) (w : World) (hW : WrS base q v pre bs w) (hbits : isBits bs) (hbase : base ≤ w.heap.size) (hl : pre.length + bs.length ≤ 100000000) :
    Calls Try.prog 41 #[.pointer (some ⟨q, 0, none⟩)] w fun e w' => ∃ v', e = .returned (.tuple #[]) ∧ WrS base q v' (pre ++ bytesL bs) [] w' ∧ Put2 q v w w' ∧ Near w v v' := by
  have hM := hW.1
  have c2 := hM.cells 2
  have hlt := hM.lt
  have key : ∀ v' w', WrS base q v' pre (padL bs) w' → Put2 q v w w' → Near w v v' → (WrS base q v' (pre ++ bytesL bs) [] (w'.setCell ⟨q, 1, none⟩ (.int .u32 0)) ∧ Put2 q v w (w'.setCell ⟨q, 1, none⟩ (.int .u32 0)) ∧ Near w v v') := by
    rintro v' w' ⟨h1, h2⟩ h3 h4
    refine ⟨⟨?_, ?_⟩, h3.setCell 1 _, h4⟩
    · have := h1.set_ 1 (.int .u32 0)
      have e : ((padL bs).length % 8 : Nat) = 0 := by have := padN_lt bs.length; rw [padL_len]; omega
      rw [e] at this
      exact this
    · have hne := own_ne h2 h1 (by simp)
      have e1 : (pre ++ bytesL bs).length + ([] : List Int).length / 8 = pre.length + (padL bs).length / 8 := by simp [bytesL, bytesN_len]
      have e2 : (pre ++ bytesL bs) ++ bytesN (([] : List Int).length / 8) [] = pre ++ bytesN ((padL bs).length / 8) (padL bs) := by simp [bytesL, bytesN]
      rw [e1, e2]
      refine h2.kept (row := some q) ⟨rfl, rfl, rfl, by simp [World.setCell], fun k hk hkq => ?_⟩ (.inr hne)
      rw [Below.heap_setCell _ _ _ _ (fun e => hkq (by rw [e]))]
  replace key := Lib.hid key
  have hr : bs.length % 8 < 8 := Nat.mod_lt _ (by decide)
  generalize hrr : bs.length % 8 = r at *
  go_enter Try.func41, Try.ntmps41
  by_cases h0 : r = 0
  · subst h0
    have hp : padL bs = bs := by simp [padL, padN, hrr]
    have hk := Lib.hid (key.out v w (by rw [hp]; exact hW) (Put2.refl _ _ _) (Near.refl _ _))
    have f := hM.frozen
    have c1 := hM.cells 1
    replace hrr := Lib.hid hrr
    go_wp2_with fail
    go_end0
    first | exact ⟨v, rfl, hk.out⟩ | exact ⟨rfl, v, hk.out⟩
  · have hr0 : (0 : Int) < r := by omega
    replace hrr := Lib.hid hrr
    go_wp2_with fail
    have e : (8 : Int) - r = ((8 - r : Nat) : Int) := by omega
    rw [e]
    refine (put_any base q v pre bs 0 (8 - r) w hW hbits (Int.le_refl _) (pow_pos2 _) (by omega) hbase hl).mono ?_
    rintro e w' ⟨v', rfl, h1, h2, h3⟩
    have hp : bs ++ bitsI (8 - r) 0 = padL bs := by
      rw [bitsI_zero, padL, padN, hrr.out, Nat.mod_eq_of_lt (by omega)]
    rw [hp] at h1
    have hk := Lib.hid (key.out v' w' h1 h2 h3)
    have hM2 := h1.1
    have f := hM2.frozen
    have c1 := hM2.cells 1
    have hlt2 := hM2.lt
    clear hM c2 hlt hW
    go_wp2_with fail
    go_end0
    first | exact ⟨v', rfl, hk.out⟩ | exact ⟨rfl, v', hk.out⟩

theorem min_any (p : Option Addr) (c : Nat) (xs : List Int) (w : World) (hx : Arr .i16 w p xs) (hl : xs.length ≤ 1000000000) (hne : 0 < xs.length) :
    Calls Try.prog 37 #[.slice p xs.length c] w fun e w' => e = .returned (.int .i16 (lowL xs)) ∧ w' = w := by
  obtain ⟨b, o, rfl, hbl, hc⟩ := hx.at hne
  have hc0 := hc 0 hne
  have hn1 : ¬ (xs.length : Int) < 1 := by omega
  obtain ⟨x0, hx0⟩ : ∃ x, x = xs[0]?.getD 0 := ⟨_, rfl⟩
  rw [← hx0, Nat.add_zero] at hc0
  have hlow : Hid (lowL xs = xs.foldl min x0) := Lib.hid (by rw [hx0]; rfl)
  have h0 : Hid (x0 = (xs.take 1).foldl min x0) := Lib.hid (by rw [hx0]; rcases xs with _ | ⟨y, t⟩; simp at hne; simp)
  replace hc := Lib.hid hc
  replace hx0 := Lib.hid hx0
  go_enter Try.func37, Try.ntmps37
  go_wp2_with fail
  go_loopg [3, 4] 1000000001 (fun q mv iv wr => ∃ i : Nat, q + i = 1000000002 ∧ i ≤ xs.length ∧ mv = .int .i16 ((xs.take i).foldl min x0) ∧ iv = .int .i64 i ∧ wr = w)
  case atStart => exact ⟨1, rfl, hne, by rw [← h0.out], rfl, rfl⟩
  case round =>
    obtain ⟨i, hq, hi, rfl, rfl, rfl⟩ := hrel
    by_cases hlt : i < xs.length
    · have hii : (i : Int) < xs.length := by omega
      have hci := hc.out i hlt
      obtain ⟨x, hxv⟩ : ∃ x, x = xs[i]?.getD 0 := ⟨_, rfl⟩
      rw [← hxv] at hci
      have hst : Hid (min ((xs.take i).foldl min x0) x = (xs.take (i + 1)).foldl min x0) := Lib.hid (by
        rw [List.take_succ_eq_append_getElem hlt, List.foldl_append, hxv]; simp [hlt])
      replace hxv := Lib.hid hxv
      go_wp2_with fail
      rw [hst.out]
      go_roundg (gk - 1)
      case measure => omega
      case rel => exact ⟨i + 1, by omega, by omega, rfl, by go_num, rfl⟩
    · have hii : ¬ (i : Int) < xs.length := by omega
      go_wp2_with fail
      go_ret
      exact ⟨ret_int (by rw [hlow.out, List.take_of_length_le (by omega)]), rfl⟩
theorem max_any (p : Option Addr) (c : Nat) (xs : List Int) (w : World) (hx : Arr .i16 w p xs) (hl : xs.length ≤ 1000000000) (hne : 0 < xs.length) :
    Calls Try.prog 39 #[.slice p xs.length c] w fun e w' => e = .returned (.int .i16 (highL xs)) ∧ w' = w := by
  obtain ⟨b, o, rfl, hbl, hc⟩ := hx.at hne
  have hc0 := hc 0 hne
  have hn1 : ¬ (xs.length : Int) < 1 := by omega
  obtain ⟨x0, hx0⟩ : ∃ x, x = xs[0]?.getD 0 := ⟨_, rfl⟩
  rw [← hx0, Nat.add_zero] at hc0
  have hhigh : Hid (highL xs = xs.foldl max x0) := Lib.hid (by rw [hx0]; rfl)
  have h0 : Hid (x0 = (xs.take 1).foldl max x0) := Lib.hid (by rw [hx0]; rcases xs with _ | ⟨y, t⟩; simp at hne; simp)
  replace hc := Lib.hid hc
  replace hx0 := Lib.hid hx0
  go_enter Try.func39, Try.ntmps39
  go_wp2_with fail
  go_loopg [3, 4] 1000000001 (fun q mv iv wr => ∃ i : Nat, q + i = 1000000002 ∧ i ≤ xs.length ∧ mv = .int .i16 ((xs.take i).foldl max x0) ∧ iv = .int .i64 i ∧ wr = w)
  case atStart => exact ⟨1, rfl, hne, by rw [← h0.out], rfl, rfl⟩
  case round =>
    obtain ⟨i, hq, hi, rfl, rfl, rfl⟩ := hrel
    by_cases hlt : i < xs.length
    · have hii : (i : Int) < xs.length := by omega
      have hci := hc.out i hlt
      obtain ⟨x, hxv⟩ : ∃ x, x = xs[i]?.getD 0 := ⟨_, rfl⟩
      rw [← hxv] at hci
      have hst : Hid (max ((xs.take i).foldl max x0) x = (xs.take (i + 1)).foldl max x0) := Lib.hid (by
        rw [List.take_succ_eq_append_getElem hlt, List.foldl_append, hxv]; simp [hlt])
      replace hxv := Lib.hid hxv
      go_wp2_with fail
      rw [hst.out]
      go_roundg (gk - 1)
      case measure => omega
      case rel => exact ⟨i + 1, by omega, by omega, rfl, by go_num, rfl⟩
    · have hii : ¬ (i : Int) < xs.length := by omega
      go_wp2_with fail
      go_ret
      exact ⟨ret_int (by rw [hhigh.out, List.take_of_length_le (by omega)]), rfl⟩
end Go.Proofs.Ytddkhnnpeonbgaa
