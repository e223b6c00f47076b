import Derived.Test.YtefmplccbkmalaaGreatDoorF43
set_option maxHeartbeats 12800000
namespace Go.Proofs.YtefmplccbkmalaaGreatDoor
open Go.RowKit

theorem info9 : (Tryz.prog.info? 9).map (fun i => (i.zero, i.size, i.bytes)) = some (some (.string (str [])), 1, 16) := by kernel_rfl
abbrev strV (l : List UInt8) : Value := .string (str l)
def SplR (sep : UInt8) (s : List UInt8) (w : World) (k : Nat) (v : Value) (W : World) : Prop :=
 k ≤ s.length ∧ (∃ g c, v = .slice (some ⟨g, 0, none⟩) (splT sep s k).length c) ∧ W.ownsRow w.heap.size 9 1 v (splT sep s k).length ((splT sep s k).map strV) ∧ Below w.heap.size w W
theorem splT_last (sep : UInt8) (s : List UInt8) (k : Nat) : (splT sep s k)[(splT sep s k).length - 1]? = some ((splT sep s k).getLastD []) := by
 have h := (splT_len sep s k).1
 rcases hl : splT sep s k with _ | ⟨a, l⟩
 ·rw [hl] at h; simp at h
 ·rw [List.getLastD_eq_getLast?, ← List.getLast?_eq_getElem?]
  rw [List.getLast?_eq_some_getLast (by simp)]; rfl
theorem splT_set {sep : UInt8} {s : List UInt8} {k : Nat} (h : s[k]?.getD 0 ≠ sep) : ((splT sep s k).map strV).set ((splT sep s k).length - 1) (strV ((splT sep s k).getLastD [] ++ [s[k]?.getD 0])) = (splT sep s (k + 1)).map strV := by
 have h1 := (splT_len sep s k).1
 simp only [splT, splF, if_neg h]
 generalize splT sep s k = L at *
 rcases List.eq_nil_or_concat L with rfl | ⟨l, x, rfl⟩
 ·simp at h1
 ·simp [List.concat_eq_append]
theorem splT_len_ne {sep : UInt8} {s : List UInt8} {k : Nat} (h : s[k]?.getD 0 ≠ sep) : (splT sep s (k + 1)).length = (splT sep s k).length := by
 have h1 := (splT_len sep s k).1
 simp only [splT, splF, if_neg h]
 simp; omega
theorem str_slice1 (l : List UInt8) {i : Nat} (h : i < l.length) (W : World) : (Instr.sliceAt 9 (.string (str l)) (some (.int .i64 i)) (some (.int .i64 ((i : Int) + 1))) none).run Tryz.prog W = .ok (.string (str [l[i]?.getD 0])) W := by
 have hz : (str l).size = l.length := str_size l
 have e : (str l).extract i (i + 1) = str [l[i]?.getD 0] := by
  apply ByteArray.ext
  simp only [ByteArray.data_extract, str]
  apply Array.ext'
  simp only [List.extract_toArray, List.extract_eq_take_drop, Nat.add_sub_cancel_left, List.drop_eq_getElem_cons h, List.take_succ_cons, List.take_zero]
  simp [h]
 simp [Instr.sliceAt, go_sem, hz, h]
 rw [if_pos (by omega), if_pos (by omega), e]
 simp [h]
theorem own_shape {W : World} {base n : Nat} {t : TypeId} {v : Value} {xs : List Value} (h : W.ownsRow base t 1 v n xs) (hne : v ≠ .slice none 0 0) : ∃ g c, v = .slice (some ⟨g, 0, none⟩) n c := by
 rcases h.2 with ⟨h1, h2⟩ | ⟨g, cap, cur, h1, _⟩
 ·exact absurd h1 hne
 ·exact ⟨_, _, h1⟩
set_option maxRecDepth 100000 in
theorem split_any (s : List UInt8) (w : World) (hs : s.length ≤ 1000) : Calls Tryz.prog 126 #[.string (str s)] w fun e w' => (∃ v, e = .returned v ∧ (∃ g c, v = .slice (some ⟨g, 0, none⟩) (spl 32 s).length c) ∧ w'.ownsRow w.heap.size 9 1 v (spl 32 s).length ((spl 32 s).map strV)) ∧ Below w.heap.size w w' := by
 obtain ⟨i9, hi9, hz9, hs9, hy9⟩ := info_parts info9
 have hz := str_size s
 go_enter Tryz.func126, Tryz.ntmps126
 go_wp2_with fail
 have hB0 := below_box w (.cells #[.string (str [])] 9)
 have hO0 : (w.alloc (.cells #[.string (str [])] 9)).ownsRow w.heap.size 9 1 (.slice (some ⟨w.heap.size, 0, none⟩) 1 1) 1 [strV []] := World.ownsRow_lit w #[.string (str [])] 1 (Nat.le_refl _) (by decide) rfl
 show Code.wp _ _ _ _ (w.alloc (.cells #[.string (str [])] 9))
 generalize w.alloc (.cells #[.string (str [])] 9) = w1 at *
 go_loopg [3, 4] 1001 (fun q sv iv wr => ∃ i : Nat, q + i = 1001 ∧ iv = .int .i64 i ∧ SplR 32 s w i sv wr)
 case atStart => exact ⟨0, rfl, rfl, ⟨Nat.zero_le _, ⟨_, _, rfl⟩, hO0, hB0⟩⟩
 case round =>
  obtain ⟨i, hq, rfl, ⟨hi, ⟨g, c, rfl⟩, hown, hbr⟩⟩ := hrel
  by_cases hlt : i < s.length
  ·have hii : (i : Int) < s.length := by omega
   have hix := fun W => str_index s hlt W
   have hsl := fun W => str_slice1 s hlt W
   obtain ⟨x, hx⟩ : ∃ x, x = s[i]?.getD 0 := ⟨_, rfl⟩
   obtain ⟨y, hy⟩ : ∃ y : Int, y = x.toNat := ⟨_, rfl⟩
   rw [← hx] at hsl
   simp only [← hx, ← hy] at hix
   obtain ⟨n, hn⟩ : ∃ n, n = (splT 32 s i).length := ⟨_, rfl⟩
   have hn1 : 1 ≤ n ∧ n ≤ i + 1 := by rw [hn]; exact splT_len 32 s i
   replace hx := Lib.hid hx
   by_cases h32 : x = 32
   ·have h32i : y = 32 := by rw [hy, h32]; rfl
    have hnx : splT 32 s (i + 1) = splT 32 s i ++ [[]] := by simp only [splT, splF]; rw [← hx.out, if_pos h32]
    replace hnx := Lib.hid hnx
    rw [← hn] at hown ⊢
    replace hn := Lib.hid hn
    clear hy h32 hsl
    go_wp2_with (at_builtin; refine wpList_push rfl (.tmp 16) (.tmp 17) 158 rfl w.heap.size 9 i9 (.string (str [])) 1 16 Tryz.underlying158 hi9 hz9 hs9 hy9 rfl (by decide) _ n ((splT 32 s i).map strV) rfl hown [strV []] rfl (by intro u hu; simp at hu; subst hu; rfl) _ rfl rfl (by omega) hbr.size ?_)
    intro v' w9 hown9 hg9 hne
    have hb9 := hbr.grown hg9 hbr.size (fun j e => (hown.lt j e).1)
    have hl9 : (splT 32 s (i + 1)).length = n + 1 := by rw [hnx.out, hn.out]; simp
    replace hown9 : w9.ownsRow w.heap.size 9 1 v' (splT 32 s (i + 1)).length ((splT 32 s (i + 1)).map strV) := by rw [hl9, hnx.out]; simpa using hown9
    replace hl9 := Lib.hid hl9
    clear hown hg9
    go_wp2_with fail
    go_roundg (gk - 1)
    case measure => omega
    case rel => exact ⟨i + 1, by omega, by go_num, ⟨by omega, own_shape hown9 hne, hown9, hb9⟩⟩
   ·have h32i : (y == 32) = false := by rw [hy]; simp; intro h; exact h32 (UInt8.toNat_inj.1 (by have : (x.toNat : Int) = 32 := h; show x.toNat = 32; omega))
    have hne : s[i]?.getD 0 ≠ 32 := by rw [← hx.out]; exact h32
    have hnx := splT_set (sep := 32) (s := s) (k := i) hne
    have hln := splT_len_ne (sep := 32) (s := s) (k := i) hne
    rw [← hx.out] at hnx
    have hlc : wr.cell? ⟨g, n - 1, none⟩ = some (strV ((splT 32 s i).getLastD [])) := by
     rw [hown.cellAt (n - 1) (by omega), List.getElem?_map, hn, splT_last]; rfl
    have hgl : g < wr.heap.size := (hown.lt g rfl).2
    have hfz := hown.frozenAt (n - 1)
    obtain ⟨l, hl⟩ : ∃ l, l = (splT 32 s i).getLastD [] := ⟨_, rfl⟩
    rw [← hl] at hlc hnx
    have hap := str_append l [x]
    have hst := hown.stored (n - 1) (strV (l ++ [x]))
    rw [hn] at hst
    rw [hnx] at hst
    rw [← hn] at hst hown ⊢
    replace hnx := Lib.hid hnx
    replace hn := Lib.hid hn
    replace hln := Lib.hid hln
    have hlz : (str l).size ≤ 1000 := by
     rw [str_size, hl, List.getLastD_eq_getLast?, List.getLast?_eq_some_getLast (l := splT 32 s i) (fun h0 => by have := hn.out; rw [h0] at this; simp at this; omega)]
     exact Nat.le_trans (splT_word 32 s i _ (List.getLast_mem _)) (by omega)
    have hxz : (str [x]).size = 1 := rfl
    replace hl := Lib.hid hl
    replace hst := Lib.hid hst
    have hn0 : IntKind.i64.wrap ((n : Int) - 1) = ((n - 1 : Nat) : Int) := by rw [IntWalk.i64_in _ (by omega)]; omega
    clear hy h32 hne
    go_wp2_with fail
    have hst := hst.out
    go_region
    have hgb := (hown.lt g rfl).1
    have hown9 := (hown.stored (n - 1) (strV (l ++ [x]))).1.drew
    rw [show ((splT 32 s i).map strV).set (n - 1) (strV (l ++ [x])) = (splT 32 s (i + 1)).map strV by rw [hn.out]; exact hnx.out] at hown9
    have hb9 : Below w.heap.size w (wr.setCell ⟨g, n - 1, none⟩ (strV (l ++ [x]))).drew := (hbr.setCell hgb _).drew
    have e9 := Lib.hid (hln.out.trans hn.out.symm)
    generalize (wr.setCell ⟨g, n - 1, none⟩ (strV (l ++ [x]))).drew = w9 at *
    clear hown hst
    go_wp2_with fail
    go_roundg (gk - 1)
    case measure => omega
    case rel => exact ⟨i + 1, by omega, by go_num, by unfold SplR; rw [e9.out]; exact ⟨by omega, ⟨g, c, rfl⟩, hown9, hb9⟩⟩
  ·have hii : ¬ (i : Int) < s.length := by omega
   obtain rfl : i = s.length := by omega
   go_wp2_with fail
   go_ret
   exact ⟨⟨_, rfl, ⟨_, _, rfl⟩, hown⟩, hbr⟩
theorem idx_low (k : Nat) (hk : k < 15) (W : World) : (Instr.index 9 (.string { data := #[112, 110, 98, 114, 113, 107, 97, 99, 100, 101, 102, 103, 104, 105, 106] }) (.int .i8 k)).run Tryz.prog W = .ok (.int .u8 ((ltrS[k]?.getD 0).toNat : Int)) W := by
 rcases (by omega : k = 0 ∨ k = 1 ∨ k = 2 ∨ k = 3 ∨ k = 4 ∨ k = 5 ∨ k = 6 ∨ k = 7 ∨ k = 8 ∨ k = 9 ∨ k = 10 ∨ k = 11 ∨ k = 12 ∨ k = 13 ∨ k = 14) with rfl | rfl | rfl | rfl | rfl | rfl | rfl | rfl | rfl | rfl | rfl | rfl | rfl | rfl | rfl <;> kernel_rfl
theorem idx_up (k : Nat) (hk : k < 15) (W : World) : (Instr.index 9 (.string { data := #[80, 78, 66, 82, 81, 75, 65, 67, 68, 69, 70, 71, 72, 73, 74] }) (.int .i8 k)).run Tryz.prog W = .ok (.int .u8 ((ltrL[k]?.getD 0).toNat : Int)) W := by
 rcases (by omega : k = 0 ∨ k = 1 ∨ k = 2 ∨ k = 3 ∨ k = 4 ∨ k = 5 ∨ k = 6 ∨ k = 7 ∨ k = 8 ∨ k = 9 ∨ k = 10 ∨ k = 11 ∨ k = 12 ∨ k = 13 ∨ k = 14) with rfl | rfl | rfl | rfl | rfl | rfl | rfl | rfl | rfl | rfl | rfl | rfl | rfl | rfl | rfl <;> kernel_rfl
theorem letter_any (p : Int) (h1 : -15 ≤ p) (h2 : p ≤ 15) (h0 : p ≠ 0) (w : World) : Calls Tryz.prog 201 #[.int .i8 p] w fun e w' => e = .returned (.int .u8 ((ltrOf p).toNat : Int)) ∧ w = w' := by
 by_cases h : p < 0
 ·have hix := idx_low (-p - 1).toNat (by omega)
  rw [show (((-p - 1).toNat : Nat) : Int) = -p - 1 by omega] at hix
  have hv : ltrOf p = ltrS[(-p - 1).toNat]?.getD 0 := if_pos h
  rw [← hv] at hix
  have e1 : IntKind.i8.wrap (-p) = -p := IntWalk.i8_in _ (by omega)
  have e2 : IntKind.i8.wrap (-p - 1) = -p - 1 := IntWalk.i8_in _ (by omega)
  clear hv
  go_enter Tryz.func201, Tryz.ntmps201
  go_wp2_with fail
  go_ret
  exact ⟨rfl, rfl⟩
 ·have hix := idx_up (p - 1).toNat (by omega)
  rw [show (((p - 1).toNat : Nat) : Int) = p - 1 by omega] at hix
  have hv : ltrOf p = ltrL[(p - 1).toNat]?.getD 0 := if_neg h
  rw [← hv] at hix
  have e2 : IntKind.i8.wrap (p - 1) = p - 1 := IntWalk.i8_in _ (by omega)
  clear hv
  go_enter Tryz.func201, Tryz.ntmps201
  go_wp2_with fail
  go_ret
  exact ⟨rfl, rfl⟩
set_option maxRecDepth 100000 in
theorem ltrParse_any (c : UInt8) (w : World) : Calls Tryz.prog 178 #[.int .u8 c.toNat] w fun e w' => e = .returned (.int .i8 (ltrP c 31)) ∧ w = w' := by
 obtain ⟨y, hy⟩ : ∃ y : Int, y = c.toNat := ⟨_, rfl⟩
 obtain ⟨V, hV⟩ : ∃ V, V = ltrP c 31 := ⟨_, rfl⟩
 rw [← hy, ← hV]
 replace hV := Lib.hid hV
 replace hy := Lib.hid hy
 go_enter Tryz.func178, Tryz.ntmps178
 go_wp2_with fail
 go_loopg [3] 32 (fun q pv wr => ∃ i : Nat, q + i = 32 ∧ i ≤ 31 ∧ pv = .int .i8 ((i : Int) - 15) ∧ w = wr ∧ Hid (V = ltrP c (31 - i)))
 case atStart => exact ⟨0, rfl, by omega, rfl, rfl, hV⟩
 case round =>
  obtain ⟨i, hq, hi, rfl, rfl, hv⟩ := hrel
  obtain ⟨p, hp⟩ : ∃ p : Int, p = (i : Int) - 15 := ⟨_, rfl⟩
  rw [← hp]
  by_cases hlt : i < 31
  ·have hle : p ≤ 15 := by omega
   have hst : ltrP c (31 - i) = if p ≠ 0 ∧ ltrOf p = c then p else ltrP c (31 - (i + 1)) := by
    rw [show 31 - i = (30 - i) + 1 by omega, show 31 - (i + 1) = 30 - i by omega, ltrP, show (15 : Int) - ((30 - i : Nat) : Int) = p by omega]
   have e1 : IntKind.i8.wrap (p + 1) = ((i + 1 : Nat) : Int) - 15 := by rw [IntWalk.i8_in _ (by omega)]; omega
   by_cases h0 : p = 0
   ·have hv2 : Hid (V = ltrP c (31 - (i + 1))) := Lib.hid (by rw [hv.out, hst, if_neg (by simp [h0])])
    subst h0
    clear hst hv
    go_wp2_with fail
    go_roundg (gk - 1)
    case measure => omega
    case rel => exact ⟨i + 1, by omega, by omega, by go_num, rfl, hv2⟩
   ·have h0b : (p != 0) = true := by simp [h0]
    have hlet := letter_any p (by omega) (by omega) h0
    rcases hc : (((ltrOf p).toNat : Int) == y) with _ | _
    ·have hv2 : Hid (V = ltrP c (31 - (i + 1))) := Lib.hid (by
      rw [hv.out, hst, if_neg]
      rintro ⟨_, h⟩
      rw [h, hy.out] at hc; simp at hc)
     replace hp := Lib.hid hp
     clear hst hv
     go_wp2_with fail
     refine (hlet _).mono ?_
     rintro e w1 ⟨rfl, rfl⟩
     go_wp2_with fail
     go_roundg (gk - 1)
     case measure => omega
     case rel => exact ⟨i + 1, by omega, by omega, by go_num, rfl, hv2⟩
    ·have hv2 : Hid (V = p) := Lib.hid (by
      rw [hv.out, hst, if_pos]
      refine ⟨h0, UInt8.toNat_inj.1 ?_⟩
      have : ((ltrOf p).toNat : Int) = y := by simpa using hc
      have := hy.out
      omega)
     replace hp := Lib.hid hp
     clear hst hv
     go_wp2_with fail
     refine (hlet _).mono ?_
     rintro e w1 ⟨rfl, rfl⟩
     go_wp2_with fail
     obtain rfl : V = p := hv2.out
     clear hV hv2
     go_ret
     exact ⟨rfl, rfl⟩
  ·have hle : ¬ p ≤ 15 := by omega
   have hv2 : Hid (V = 0) := Lib.hid (by rw [hv.out, show 31 - i = 0 by omega]; rfl)
   replace hp := Lib.hid hp
   go_wp2_with fail
   obtain rfl : V = 0 := hv2.out
   clear hV hv2
   go_ret
   exact ⟨rfl, rfl⟩

def digC (d : Nat) : UInt8 := UInt8.ofNat (48 + d)
theorem dec_slice (d : Nat) (hd : d < 10) (W : World) : (Instr.sliceAt 9 (.string { data := #[48, 49, 50, 51, 52, 53, 54, 55, 56, 57] }) (some (.int .i64 d)) (some (.int .i64 ((d : Int) + 1))) none).run Tryz.prog W = .ok (.string (str [digC d])) W := by
 rcases (by omega : d = 0 ∨ d = 1 ∨ d = 2 ∨ d = 3 ∨ d = 4 ∨ d = 5 ∨ d = 6 ∨ d = 7 ∨ d = 8 ∨ d = 9) with rfl | rfl | rfl | rfl | rfl | rfl | rfl | rfl | rfl | rfl <;> kernel_rfl
theorem decimal_any (d : Nat) (hd : d < 10) (w : World) : Calls Tryz.prog 128 #[.int .i64 d] w fun e w' => e = .returned (.string (str [digC d])) ∧ w = w' := by
 have hsl := dec_slice d hd
 have hd1 : (d : Int) < 10 := by omega
 go_enter Tryz.func128, Tryz.ntmps128
 go_wp2_with fail
 go_ret
 exact ⟨rfl, rfl⟩
theorem digC_toNat {d : Nat} (hd : d < 10) : (digC d).toNat = 48 + d := by
 rcases (by omega : d = 0 ∨ d = 1 ∨ d = 2 ∨ d = 3 ∨ d = 4 ∨ d = 5 ∨ d = 6 ∨ d = 7 ∨ d = 8 ∨ d = 9) with rfl | rfl | rfl | rfl | rfl | rfl | rfl | rfl | rfl | rfl <;> rfl
theorem str_neq_self (l : List UInt8) (W : World) : (binOp .neq 9 (.string (str l)) (.string (str l))).run Tryz.prog W = .ok (.bool false) W := by simp [go_sem]
def upD (d i : Nat) : Nat := if i = 0 then 0 else d
theorem number_any (d : Nat) (hd : d < 10) (w : World) : Calls Tryz.prog 129 #[.string (str [digC d])] w fun e w' => e = .returned (.int .i64 d) ∧ w = w' := by
 have hz : (str [digC d]).size = 1 := rfl
 have h0 : ∀ W : World, (Instr.index 9 (.string (str [digC d])) (.int .i64 0)).run Tryz.prog W = .ok (.int .u8 (48 + (d : Int))) W := fun W => by
  have h := str_index [digC d] (i := 0) (by simp) W
  have e : ((digC d).toNat : Int) = 48 + d := by rw [digC_toNat hd]; omega
  rw [← e]; exact h
 have hlo : ¬ ((48 : Int) + d < 48) := by omega
 have hhi : ¬ ((57 : Int) < 48 + d) := by omega
 have e1 : IntKind.u8.wrap (48 + (d : Int) - 48) = d := by rw [show (48 : Int) + d - 48 = d by omega]; exact u8_in (by omega) (by omega)
 have e2 : IntKind.i64.wrap (d : Int) = d := IntWalk.i64_in _ (by omega)
 have hne := str_neq_self [digC d]
 have hdec := decimal_any d hd
 go_enter Tryz.func129, Tryz.ntmps129
 go_wp2_with fail
 go_loopg [3, 4] 2 (fun q nv iv wr => ∃ i : Nat, q + i = 2 ∧ i ≤ 1 ∧ nv = .int .i64 (upD d i : Nat) ∧ iv = .int .i64 i ∧ w = wr)
 case atStart => exact ⟨0, rfl, by omega, rfl, rfl, rfl⟩
 case round =>
  obtain ⟨i, hq, hi, rfl, rfl, rfl⟩ := hrel
  rcases (by omega : i = 0 ∨ i = 1) with rfl | rfl
  ·rw [show upD d 0 = 0 from rfl]
   go_wp2_with fail
   go_roundg (gk - 1)
   case measure => omega
   case rel => exact ⟨1, by omega, by omega, by go_num, rfl, rfl⟩
  ·rw [show upD d 1 = d from rfl]
   go_wp2_with fail
   refine (hdec _).mono ?_
   rintro e w1 ⟨rfl, rfl⟩
   go_wp2_with fail
   go_ret
   exact ⟨rfl, rfl⟩

theorem shr0 (i : Nat) (hi : i < 4) (W : World) : (binOp .shr 3 (.int .i64 0) (.int .i64 i)).run Tryz.prog W = .ok (.int .i64 0) W := by
 rcases (by omega : i = 0 ∨ i = 1 ∨ i = 2 ∨ i = 3) with rfl | rfl | rfl | rfl <;> kernel_rfl
theorem castleNone_any (w : World) : Calls Tryz.prog 130 #[.string (str [45])] w fun e w' => e = .returned (.int .i64 0) ∧ w = w' := by
 have hsh := fun (i : Nat) hi => shr0 i hi
 have hs1 : (str []).toList.isEmpty = true := by rw [str_toList]; rfl
 have hs2 : ([45] == (str [45]).toList) = true := by rw [str_toList]; rfl
 go_enter Tryz.func130, Tryz.ntmps130
 go_wp2_with fail
 go_loopg [3] 1 (fun q nv wr => q = 1 ∧ nv = .int .i64 0 ∧ w = wr)
 case atStart => exact ⟨rfl, rfl, rfl⟩
 case round =>
  obtain ⟨hq0, rfl, rfl⟩ := hrel
  go_wp2_with fail
  go_loopg [4, 5] 5 (fun q ov iv wr => ∃ i : Nat, q + i = 5 ∧ i ≤ 4 ∧ ov = .string (str []) ∧ iv = .int .i64 i ∧ w = wr)
  case atStart => exact ⟨0, rfl, by omega, rfl, rfl, rfl⟩
  case round =>
   obtain ⟨i, hq, hi, rfl, rfl, rfl⟩ := hrel
   by_cases hlt : i < 4
   ·have hii : (i : Int) < 4 := by omega
    have hs := hsh i hlt
    clear hsh
    go_wp2_with fail
    go_roundg (gk - 1)
    case measure => omega
    case rel => exact ⟨i + 1, by omega, by omega, rfl, by go_num, rfl⟩
   ·have hii : ¬ (i : Int) < 4 := by omega
    clear hsh
    go_wp2_with fail
    go_ret
    exact ⟨rfl, rfl⟩
def rowL (s : List UInt8) : List Int := match rowT s s.length with | some (l, _) => l | none => []
def rowB (F : Nat) (s : List UInt8) : Bool := match rowT s s.length with | some (l, _) => l.length == F | none => false
def brdB (F : Nat) (rk : List (List UInt8)) : Bool := rk.all (rowB F)
def brdL (rk : List (List UInt8)) : Nat → List Int | 0 => [] | k + 1 => brdL rk k ++ rowL (rk[rk.length - 1 - k]?.getD [])
theorem rowT_none (s : List UInt8) {k : Nat} (h : rowT s k = none) : ∀ n, rowT s (k + n) = none := by
 intro n
 induction n with
 | zero => exact h
 | succ n ih => rw [← Nat.add_assoc, rowT, ih]; rfl
theorem rowT_some {s : List UInt8} {k : Nat} (h : rowT s s.length ≠ none) (hk : k ≤ s.length) : ∃ l d, rowT s k = some (l, d) := by
 rcases hr : rowT s k with _ | ⟨l, d⟩
 ·have := rowT_none s hr (s.length - k)
  rw [show k + (s.length - k) = s.length by omega] at this
  exact absurd this h
 ·exact ⟨l, d, rfl⟩
theorem rowT_len (s : List UInt8) : ∀ k l d, rowT s k = some (l, d) → l.length ≤ 8 * k := by
 intro k
 induction k with
 | zero => intro l d h; simp [rowT] at h; simp [← h.1]
 | succ k ih =>
  intro l d h
  rw [rowT] at h
  rcases hr : rowT s k with _ | ⟨l', d'⟩
  ·rw [hr] at h; simp [rowF] at h
  ·have := ih l' d' hr
   rw [hr] at h
   simp only [rowF] at h
   split at h
   ·rename_i hc
    split at h
    ·cases h
    ·simp only [Option.some.injEq, Prod.mk.injEq] at h
     rw [← h.1, List.length_append, List.length_replicate]; omega
   ·split at h
    ·cases h
    ·simp only [Option.some.injEq, Prod.mk.injEq] at h
     rw [← h.1, List.length_append, List.length_singleton]; omega
theorem rowB_at {F : Nat} {s : List UInt8} (h : rowB F s = true) : rowT s s.length ≠ none ∧ (rowL s).length = F ∧ ∃ d, rowT s s.length = some (rowL s, d) := by
 unfold rowB at h
 unfold rowL
 rcases hr : rowT s s.length with _ | ⟨l, d⟩
 ·rw [hr] at h; cases h
 ·rw [hr] at h
  exact ⟨by simp, by simpa using h, d, rfl⟩
theorem row_ltr {s : List UInt8} {k : Nat} {l : List Int} {d : Bool} {c : UInt8} (hr : rowT s k = some (l, d)) (hc : s[k]?.getD 0 = c) (h : ¬ (49 ≤ c.toNat ∧ c.toNat ≤ 56)) (hs : rowT s (k + 1) ≠ none) :
  ltrP c 31 ≠ 0 ∧ rowT s (k + 1) = some (l ++ [ltrP c 31], false) := by
 rw [rowT, hr, hc] at hs ⊢
 simp only [rowF, if_neg h] at hs ⊢
 by_cases h0 : ltrP c 31 = 0
 ·rw [if_pos h0] at hs; exact absurd rfl hs
 ·rw [if_neg h0]; exact ⟨h0, rfl⟩
theorem row_dig {s : List UInt8} {k : Nat} {l : List Int} {d : Bool} {c : UInt8} (hr : rowT s k = some (l, d)) (hc : s[k]?.getD 0 = c) (h : 49 ≤ c.toNat ∧ c.toNat ≤ 56) (hs : rowT s (k + 1) ≠ none) :
  d = false ∧ rowT s (k + 1) = some (l ++ List.replicate (c.toNat - 48) 0, true) := by
 rw [rowT, hr, hc] at hs ⊢
 simp only [rowF, if_pos h] at hs ⊢
 cases d
 ·exact ⟨rfl, rfl⟩
 ·exact absurd rfl hs
theorem brdL_len {F : Nat} {rk : List (List UInt8)} (h : brdB F rk = true) : ∀ k, k ≤ rk.length → (brdL rk k).length = k * F := by
 intro k
 induction k with
 | zero => intro _; simp [brdL]
 | succ k ih =>
  intro hk
  have hm : rowB F (rk[rk.length - 1 - k]?.getD []) = true := by
   have hi : rk.length - 1 - k < rk.length := by omega
   rw [List.getElem?_eq_getElem hi, Option.getD_some]
   exact List.all_eq_true.1 h _ (List.getElem_mem hi)
  rw [brdL, List.length_append, ih (by omega), (rowB_at hm).2.1, Nat.add_mul, Nat.one_mul]
theorem brd_row {F : Nat} {rk : List (List UInt8)} (h : brdB F rk = true) {i : Nat} (hi : i < rk.length) : rowB F (rk[i]?.getD []) = true := by
 rw [List.getElem?_eq_getElem hi, Option.getD_some]
 exact List.all_eq_true.1 h _ (List.getElem_mem hi)
theorem ltrP_bd (c : UInt8) : ∀ k, k ≤ 31 → -15 ≤ ltrP c k ∧ ltrP c k ≤ 15 := by
 intro k
 induction k with
 | zero => intro _; simp [ltrP]
 | succ k ih =>
  intro hk
  have := ih (by omega)
  rw [ltrP]
  split <;> omega
end Go.Proofs.YtefmplccbkmalaaGreatDoor
