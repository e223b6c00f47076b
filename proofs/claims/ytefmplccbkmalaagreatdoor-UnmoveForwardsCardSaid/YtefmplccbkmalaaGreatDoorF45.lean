import Derived.Test.YtefmplccbkmalaaGreatDoorF44
import Derived.Maps.AppendAt
set_option maxHeartbeats 12800000
namespace Go.Proofs.YtefmplccbkmalaaGreatDoor
open Go.RowKit

theorem info81 : (Tryz.prog.info? 38).map (fun i => (i.zero, i.size, i.bytes)) = some (some (.int .i8 0), 1, 1) := by kernel_rfl
def BdW (w : World) (g c q6 : Nat) (rk : List (List UInt8)) (F k : Nat) (W : World) : Prop :=
 W.ownsRow w.heap.size 9 1 (.slice (some ⟨g, 0, none⟩) rk.length c) rk.length (rk.map strV) ∧ HasO W w.heap.size (.cells (bdCs 0 0 none 0 0).toArray 68 (0, 0)) ∧ w.heap.size < q6 ∧
 (∃ v, HasO W q6 (.cells #[.int .i64 (upD F k : Nat), .int .i64 (upD rk.length k : Nat), v] 68 (0, 0)) ∧ W.ownsRow w.heap.size 38 1 v (k * F) ((brdL rk k).map (.int .i8))) ∧ Below w.heap.size w W
theorem own_ne2 {w : World} {base base' size size' n n' : Nat} {e e' : TypeId} {v v' : Value} {xs xs' : List Value} (h : w.ownsRow base e size v n xs) (h' : w.ownsRow base' e' size' v' n' xs') (he : e ≠ e') : v.ownBlock = none ∨ v.ownBlock ≠ v'.ownBlock := by
 rcases h.2 with ⟨rfl, _⟩ | ⟨g, cap, cur, rfl, _, hh, _⟩
 ·exact .inl rfl
 ·right
  rcases h'.2 with ⟨rfl, _⟩ | ⟨g', cap', cur', rfl, _, hh', _⟩
  ·simp [Value.ownBlock]
  ·intro e1
   have e2 : g = g' := by simpa [Value.ownBlock] using e1
   rw [← e2, hh] at hh'
   injection hh' with h1
   injection h1 with _ h2
   exact he h2
set_option maxRecDepth 100000 in
theorem brdParse_any (s : List UInt8) (F : Nat) (w : World) (hs : s.length ≤ 1000) (hR : 3 ≤ (spl 47 s).length ∧ (spl 47 s).length ≤ 8) (hF : 3 ≤ F ∧ F ≤ 8) (hok : brdB F (spl 47 s) = true) :
  Calls Tryz.prog 127 #[.string (str s)] w fun e w' => (∃ p c, e = .returned (.tuple #[.agg (bdCs F (spl 47 s).length p ((spl 47 s).length * F) c).toArray, .bool true]) ∧ (spl 47 s).length * F ≤ c ∧ Arr .i8 w' p (brdL (spl 47 s) (spl 47 s).length)) ∧ Below w.heap.size w w' := by
 obtain ⟨i9, hi9, hz9, hs9, hy9⟩ := info_parts info9
 obtain ⟨i81, hi81, hz81, hs81, hy81⟩ := info_parts info81
 have hz := str_size s
 have hA := HasO.new w (.cells (bdCs 0 0 none 0 0).toArray 68)
 have hB := below_box w (.cells (bdCs 0 0 none 0 0).toArray 68)
 replace hok := Lib.hid hok
 go_enter Tryz.func127, Tryz.ntmps127
 go_wp2_with fail
 have hO0 : ((w.alloc (.cells (bdCs 0 0 none 0 0).toArray 68)).alloc (.cells #[.string (str [])] 9)).ownsRow w.heap.size 9 1 (.slice (some ⟨w.heap.size + 1, 0, none⟩) 1 1) 1 [strV []] := by
  have h := World.ownsRow_lit (base := w.heap.size) (size := 1) (e := 9) (w.alloc (.cells (bdCs 0 0 none 0 0).toArray 68)) #[.string (str [])] 1 hB.size (by decide) rfl
  simpa using h
 have hA0 := hA.alloc (.cells #[.string (str [])] 9)
 have hB0 := hB.alloc hB.size (.cells #[.string (str [])] 9)
 show Code.wp _ _ _ _ ((w.alloc (.cells (bdCs 0 0 none 0 0).toArray 68)).alloc (.cells #[.string (str [])] 9))
 generalize (w.alloc (.cells (bdCs 0 0 none 0 0).toArray 68)).alloc (.cells #[.string (str [])] 9) = w1 at *
 clear hA hB
 go_loopg [4, 5] 1001 (fun q sv iv wr => ∃ i : Nat, q + i = 1001 ∧ iv = .int .i64 i ∧ SplR 47 s w i sv wr ∧ HasO wr w.heap.size (.cells (bdCs 0 0 none 0 0).toArray 68 (0, 0)))
 case atStart => exact ⟨0, rfl, rfl, ⟨Nat.zero_le _, ⟨_, _, rfl⟩, hO0, hB0⟩, hA0⟩
 case round =>
  obtain ⟨i, hq, rfl, ⟨hi, ⟨g, c, rfl⟩, hown, hbr⟩, hA⟩ := hrel
  clear hO0 hA0 hB0
  by_cases hlt : i < s.length
  ·have hii : (i : Int) < s.length := by omega
   have hix := fun W => str_index s hlt W
   have hsl := fun W => str_slice1 s hlt W
   obtain ⟨x, hx⟩ : ∃ x, x = s[i]?.getD 0 := ⟨_, rfl⟩
   obtain ⟨y, hy⟩ : ∃ y : Int, y = x.toNat := ⟨_, rfl⟩
   rw [← hx] at hsl
   simp only [← hx, ← hy] at hix
   obtain ⟨n, hn⟩ : ∃ n, n = (splT 47 s i).length := ⟨_, rfl⟩
   have hn1 : 1 ≤ n ∧ n ≤ i + 1 := by rw [hn]; exact splT_len 47 s i
   replace hx := Lib.hid hx
   by_cases h32 : x = 47
   ·have h32i : y = 47 := by rw [hy, h32]; rfl
    have hnx : splT 47 s (i + 1) = splT 47 s i ++ [[]] := by simp only [splT, splF]; rw [← hx.out, if_pos h32]
    replace hnx := Lib.hid hnx
    rw [← hn] at hown ⊢
    replace hn := Lib.hid hn
    clear hy h32 hsl
    go_wp2_with (at_builtin; refine wpList_push rfl (.tmp 24) (.tmp 25) 158 rfl w.heap.size 9 i9 (.string (str [])) 1 16 Tryz.underlying158 hi9 hz9 hs9 hy9 rfl (by decide) _ n ((splT 47 s i).map strV) rfl hown [strV []] rfl (by intro u hu; simp at hu; subst hu; rfl) _ rfl rfl (by omega) hbr.size ?_)
    intro v' w9 hown9 hg9 hne
    have hb9 := hbr.grown hg9 hbr.size (fun j e => (hown.lt j e).1)
    have hA9 := hA.grown hg9 (own_ne hown hA (fun c h => by injection h with h1 h2; simp at h2))
    have hl9 : (splT 47 s (i + 1)).length = n + 1 := by rw [hnx.out, hn.out]; simp
    replace hown9 : w9.ownsRow w.heap.size 9 1 v' (splT 47 s (i + 1)).length ((splT 47 s (i + 1)).map strV) := by rw [hl9, hnx.out]; simpa using hown9
    replace hl9 := Lib.hid hl9
    clear hown hg9
    go_wp2_with fail
    go_roundg (gk - 1)
    case measure => omega
    case rel => exact ⟨i + 1, by omega, by go_num, ⟨by omega, own_shape hown9 hne, hown9, hb9⟩, hA9⟩
   ·have h32i : (y == 47) = false := by rw [hy]; simp; intro h; exact h32 (UInt8.toNat_inj.1 (by have : (x.toNat : Int) = 47 := h; show x.toNat = 47; omega))
    have hne : s[i]?.getD 0 ≠ 47 := by rw [← hx.out]; exact h32
    have hnx := splT_set (sep := 47) (s := s) (k := i) hne
    have hln := splT_len_ne (sep := 47) (s := s) (k := i) hne
    rw [← hx.out] at hnx
    have hlc : wr.cell? ⟨g, n - 1, none⟩ = some (strV ((splT 47 s i).getLastD [])) := by
     rw [hown.cellAt (n - 1) (by omega), List.getElem?_map, hn, splT_last]; rfl
    have hgl : g < wr.heap.size := (hown.lt g rfl).2
    have hfz := hown.frozenAt (n - 1)
    obtain ⟨l, hl⟩ : ∃ l, l = (splT 47 s i).getLastD [] := ⟨_, rfl⟩
    rw [← hl] at hlc hnx
    have hap := str_append l [x]
    have hst := hown.stored (n - 1) (strV (l ++ [x]))
    rw [hn] at hst
    rw [hnx] at hst
    rw [← hn] at hst hown ⊢
    replace hnx := Lib.hid hnx
    replace hn := Lib.hid hn
    replace hln := Lib.hid hln
    have hlz : (str l).size ≤ 1000 := by
     rw [str_size, hl, List.getLastD_eq_getLast?, List.getLast?_eq_some_getLast (l := splT 47 s i) (fun h0 => by have := hn.out; rw [h0] at this; simp at this; omega)]
     exact Nat.le_trans (splT_word 47 s i _ (List.getLast_mem _)) (by omega)
    have hxz : (str [x]).size = 1 := rfl
    replace hl := Lib.hid hl
    replace hst := Lib.hid hst
    have hn0 : IntKind.i64.wrap ((n : Int) - 1) = ((n - 1 : Nat) : Int) := by rw [IntWalk.i64_in _ (by omega)]; omega
    clear hy h32 hne
    go_wp2_with fail
    have hst := hst.out
    go_region
    have hgb := (hown.lt g rfl).1
    have hown9 := (hown.stored (n - 1) (strV (l ++ [x]))).1.drew
    rw [show ((splT 47 s i).map strV).set (n - 1) (strV (l ++ [x])) = (splT 47 s (i + 1)).map strV by rw [hn.out]; exact hnx.out] at hown9
    have hb9 : Below w.heap.size w (wr.setCell ⟨g, n - 1, none⟩ (strV (l ++ [x]))).drew := (hbr.setCell hgb _).drew
    have hA9 := (hA.far (p := ⟨g, n - 1, none⟩) (fun e => own_ne hown hA (fun c h => by injection h with h1 h2; simp at h2) (by rw [e]; rfl)) (strV (l ++ [x]))).drew
    have e9 := Lib.hid (hln.out.trans hn.out.symm)
    generalize (wr.setCell ⟨g, n - 1, none⟩ (strV (l ++ [x]))).drew = w9 at *
    clear hown hst
    go_wp2_with fail
    go_roundg (gk - 1)
    case measure => omega
    case rel => exact ⟨i + 1, by omega, by go_num, by unfold SplR; rw [e9.out]; exact ⟨⟨by omega, ⟨g, c, rfl⟩, hown9, hb9⟩, hA9⟩⟩
  ·have hii : ¬ (i : Int) < s.length := by omega
   obtain rfl : i = s.length := by omega
   change wr.ownsRow w.heap.size 9 1 (.slice (some ⟨g, 0, none⟩) (spl 47 s).length c) (spl 47 s).length ((spl 47 s).map strV) at hown
   rw [show splT 47 s s.length = spl 47 s from rfl]
   have hwl : Hid (∀ l ∈ spl 47 s, l.length ≤ 1000) := Lib.hid (fun l hl => Nat.le_trans (splT_word 47 s s.length l hl) hs)
   generalize hrk : spl 47 s = rk at *
   replace hrk := Lib.hid hrk
   obtain ⟨R, hRk⟩ : ∃ R, R = rk.length := ⟨_, rfl⟩
   rw [← hRk] at hown hR ⊢
   have hR3 : ¬ ((R : Int) < 3) := by omega
   have hR8 : ¬ ((8 : Int) < R) := by omega
   replace hRk := Lib.hid hRk
   go_wp2_with fail
   have hA2 := hA.alloc (.cells #[.int .i64 0, .int .i64 0, .slice none 0 0] 68)
   have hB2 := hbr.alloc hbr.size (.cells #[.int .i64 0, .int .i64 0, .slice none 0 0] 68)
   have hQ2 := HasO.new wr (.cells #[.int .i64 0, .int .i64 0, .slice none 0 0] 68)
   have hown2 := hown.alloc (.cells #[.int .i64 0, .int .i64 0, .slice none 0 0] 68)
   have hq6 : w.heap.size < wr.heap.size := hA.lt
   generalize wr.alloc (.cells #[.int .i64 0, .int .i64 0, .slice none 0 0] 68) = w2 at *
   generalize wr.heap.size = q6 at *
   clear hA hbr hown
   obtain ⟨g1, hg1⟩ : ∃ x, x = gk := ⟨_, rfl⟩
   subst hg1
   go_loopg [7] 9 (fun q iv wr => ∃ k : Nat, ∃ wz, wz = wr ∧ q + k = 9 ∧ k ≤ R ∧ iv = .int .i64 ((R : Int) - 1 - k) ∧ BdW w g c q6 rk F k wr)
   case atStart => exact ⟨0, _, rfl, rfl, by omega, by go_num, by rw [hRk.out] at hown2; exact ⟨hown2, hA2, hq6, ⟨_, hQ2, by rw [Nat.zero_mul]; exact World.ownsRow_nil _ _ _ _⟩, hB2⟩⟩
   case round =>
    obtain ⟨k, w3, rfl, hqk, hk, rfl, ⟨hownR, hAr, _, ⟨v, hQ, hownP⟩, hBr⟩⟩ := hrel
    clear hown2 hA2 hQ2 hB2
    by_cases hkl : k < R
    ·have hii : (0 : Int) ≤ (R : Int) - 1 - k := by omega
     obtain ⟨i, hi⟩ : ∃ i, i = R - 1 - k := ⟨_, rfl⟩
     have hic : (R : Int) - 1 - k = (i : Int) := by omega
     rw [hic]
     have hiR : i < R := by omega
     have hrow := brd_row hok.out (i := i) (by rw [← hRk.out]; exact hiR)
     obtain ⟨t, ht⟩ : ∃ t, t = rk[i]?.getD [] := ⟨_, rfl⟩
     rw [← ht] at hrow
     have hcr : w3.cell? ⟨g, i, none⟩ = some (strV t) := by
      have hown := hownR
      rw [← hRk.out] at hown
      rw [hown.cellAt i (by omega), List.getElem?_map, ht, List.getElem?_eq_getElem (by rw [← hRk.out]; exact hiR)]; rfl
     obtain ⟨hrs, hrl, d9, hr9⟩ := rowB_at hrow
     have htl : t.length ≤ 1000 := by
      rw [ht, List.getElem?_eq_getElem (by rw [← hRk.out]; exact hiR), Option.getD_some]
      exact hwl.out _ (List.getElem_mem _)
     have hzt := str_size t
     have hgR := (hownR.lt g rfl).2
     replace ht := Lib.hid ht
     replace hi := Lib.hid hi
     replace hic := Lib.hid hic
     replace hrs := Lib.hid hrs
     replace hrl := Lib.hid hrl
     replace hr9 := Lib.hid hr9
     clear hrow
     go_wp2_with fail
     obtain ⟨g2, hg2⟩ : ∃ x, x = gk := ⟨_, rfl⟩
     subst hg2
     go_loopg [8, 9, 10] 1001 (fun q vv dv iv wx => ∃ j l d, ∃ wz, wz = wx ∧ q + j = 1001 ∧ j ≤ t.length ∧ iv = .int .i64 (j : Nat) ∧ dv = .bool d ∧ Hid (rowT t j = some (l, d)) ∧ wx.ownsRow w3.heap.size 38 1 vv l.length (l.map (.int .i8)) ∧ Below w3.heap.size w3 wx)
     case atStart => exact ⟨0, [], false, _, rfl, rfl, Nat.zero_le _, rfl, rfl, Lib.hid rfl, World.ownsRow_nil _ _ _ _, Below.refl _ _⟩
     case round =>
      obtain ⟨j, l, d, w4, rfl, hqj, hj, rfl, rfl, hrj, hownV, hbx⟩ := hrel
      have hcrx := (hbx.cell (p := ⟨g, i, none⟩) hgR).trans hcr
      have hll := rowT_len t j l d hrj.out
      by_cases hjl : j < t.length
      ·have hjj : (j : Int) < t.length := by omega
       have hix := fun W => str_index t hjl W
       obtain ⟨x, hx⟩ : ∃ x, x = t[j]?.getD 0 := ⟨_, rfl⟩
       obtain ⟨y, hy⟩ : ∃ y : Int, y = x.toNat := ⟨_, rfl⟩
       simp only [← hx, ← hy] at hix
       have hns : rowT t (j + 1) ≠ none := by
        obtain ⟨l', d', e⟩ := rowT_some (k := j + 1) hrs.out (by omega); rw [e]; simp
       by_cases hdg : 49 ≤ x.toNat ∧ x.toNat ≤ 56
       ·obtain ⟨rfl, hnx⟩ := row_dig hrj.out hx.symm hdg hns
        have hy1 : (49 : Int) ≤ y := by omega
        have hy2 : y ≤ 56 := by omega
        have hyn : y = ((x.toNat : Nat) : Int) := hy
        replace hnx := Lib.hid hnx
        replace hx := Lib.hid hx
        obtain ⟨z, hzz⟩ : ∃ z : Nat, z = x.toNat - 48 := ⟨_, rfl⟩
        have hyz : y = 48 + (z : Int) := by omega
        rw [← hzz] at hnx
        clear hns hy hyn hdg hzz
        have hz8 : z ≤ 8 := by omega
        replace hyz := Lib.hid hyz
        go_wp2_with fail
        obtain ⟨g3, hg3⟩ : ∃ x, x = gk := ⟨_, rfl⟩
        subst hg3
        go_loopg [8, 12] 9 (fun q vv nv wy => ∃ m : Nat, q + m = 9 ∧ m ≤ z ∧ nv = .int .u8 (48 + (m : Int)) ∧ wy.ownsRow w3.heap.size 38 1 vv (l ++ List.replicate m 0).length ((l ++ List.replicate m 0).map (.int .i8)) ∧ Below w3.heap.size w3 wy)
        case atStart => exact ⟨0, rfl, Nat.zero_le _, rfl, by simpa using hownV, hbx⟩
        case round =>
         obtain ⟨m, hqm, hm, rfl, hownW, hby⟩ := hrel
         clear hownV hbx hcrx
         by_cases hmz : m < z
         ·have hlt2 : (48 : Int) + m < y := by have := hyz.out; omega
          have hnl : (l ++ List.replicate m (0 : Int)).length ≤ 9000 := by rw [List.length_append, List.length_replicate]; omega
          have e1 : IntKind.u8.wrap (48 + (m : Int) + 1) = 48 + ((m + 1 : Nat) : Int) := by rw [u8_in (by omega) (by omega)]; omega
          go_wp2_with (at_builtin; refine wpList_push rfl (.tmp 89) (.tmp 90) 24 rfl w3.heap.size 38 i81 (.int .i8 0) 1 1 Tryz.underlying24 hi81 hz81 hs81 hy81 rfl (by decide) _ (l ++ List.replicate m 0).length ((l ++ List.replicate m 0).map (.int .i8)) rfl hownW [.int .i8 0] rfl (by intro u hu; simp at hu; subst hu; rfl) _ rfl rfl (by omega) hby.size ?_)
          intro v' w9 hown9 hg9 _
          have hb9 := hby.grown hg9 hby.size (fun j e => (hownW.lt j e).1)
          replace hown9 : w9.ownsRow w3.heap.size 38 1 v' (l ++ List.replicate (m + 1) 0).length ((l ++ List.replicate (m + 1) 0).map (.int .i8)) := by
           rw [show l ++ List.replicate (m + 1) (0 : Int) = (l ++ List.replicate m 0) ++ [0] by rw [List.replicate_succ', List.append_assoc], List.length_append, List.map_append]
           simpa [Nat.add_assoc] using hown9
          clear hownW hg9 hby
          go_wp2_with fail
          go_roundg (gk - 1)
          case measure => omega
          case rel => exact ⟨m + 1, by omega, by omega, by go_num, hown9, hb9⟩
         ·have hlt2 : ¬ (48 : Int) + m < y := by have := hyz.out; omega
          obtain rfl : m = z := by omega
          go_wp2_with fail
          go_roundg (g3 - 1)
          case measure => omega
          case rel => exact ⟨j + 1, _, _, _, rfl, by omega, by omega, by go_num, rfl, hnx, hownW, hby⟩
       ·obtain ⟨hne, hnx⟩ := row_ltr hrj.out hx.symm hdg hns
        have hpb := ltrP_bd x 31 (Nat.le_refl _)
        have hlp := fun W => ltrParse_any x W
        rw [← hy] at hlp
        generalize ltrP x 31 = p at *
        have hp0 : (p == 0) = false := by simp [hne]
        have hdy : ¬ ((49 : Int) ≤ y) ∨ ((49 : Int) ≤ y ∧ ¬ (y ≤ 56)) := by omega
        have hll2 : l.length ≤ 8000 := by omega
        replace hnx := Lib.hid hnx
        replace hx := Lib.hid hx
        replace hp0 := Lib.hid hp0
        clear hns hdg hy hne hpb
        rcases hdy with hd1 | ⟨hd1, hd2⟩
        all_goals
         go_wp2_with fail
         refine (hlp _).mono ?_
         rintro e w5 ⟨rfl, rfl⟩
         have hp0 := hp0.out
         go_wp2_with fail
         refine (hlp _).mono ?_
         rintro e w5 ⟨rfl, rfl⟩
         go_wp2_with (at_builtin; refine wpList_push rfl (.tmp 96) (.tmp 99) 24 rfl w3.heap.size 38 i81 (.int .i8 0) 1 1 Tryz.underlying24 hi81 hz81 hs81 hy81 rfl (by decide) _ l.length (l.map (.int .i8)) rfl hownV [.int .i8 p] rfl (by intro u hu; simp at hu; subst hu; rfl) _ rfl rfl (by omega) hbx.size ?_)
         intro v' w9 hown9 hg9 _
         have hb9 := hbx.grown hg9 hbx.size (fun j e => (hownV.lt j e).1)
         replace hown9 : w9.ownsRow w3.heap.size 38 1 v' (l ++ [p]).length ((l ++ [p]).map (.int .i8)) := by
          rw [List.length_append, List.map_append]
          exact hown9
         clear hownV hg9 hbx
         go_wp2_with fail
         go_roundg (gk - 1)
         case measure => omega
         case rel => exact ⟨j + 1, _, _, _, rfl, by omega, by omega, by go_num, rfl, hnx, hown9, hb9⟩
      ·have hjj : ¬ (j : Int) < t.length := by omega
       obtain rfl : j = t.length := by omega
       obtain ⟨e1, e2⟩ := Prod.mk.inj (Option.some.inj (hrj.out.symm.trans hr9.out))
       rw [e1, hrl.out] at hownV
       clear hll hrj e1 e2 l
       obtain ⟨g4, c4, rfl⟩ := own_shape hownV (fun e => by rcases hownV.2 with ⟨h1, h2⟩ | ⟨g, cap, cur, h1, _⟩; omega; rw [e] at h1; cases h1)
       have hQ4 := hQ.call hbx
       have hP4 := own_call hownP hbx
       obtain ⟨pv, cv, rfl⟩ := own_form hP4
       obtain ⟨n, hn⟩ : ∃ n, n = k * F := ⟨_, rfl⟩
       rw [← hn] at hQ4 hP4
       have hc := hQ4.cells
       have hl4 := hQ4.lt
       have hF3 : ¬ ((F : Int) < 3) := by omega
       have hF8 : ¬ ((8 : Int) < F) := by omega
       have hnb : n ≤ 64 := by rw [hn]; exact Nat.le_trans (Nat.mul_le_mul (by omega : k ≤ 8) hF.2) (by decide)
       replace hn := Lib.hid hn
       replace hownP := Lib.hid hownP
       have hb4 := below_call hBr hBr.size hbx
       have hne4 := own_ne hP4 hQ4 (fun c h => by injection h with h1 h2; simp at h2)
       have hneV := own_ne hownV hQ4 (fun c h => by injection h with h1 h2; simp at h2)
       have ha5 : Alt q6 (q6 + 1) w4 ((w4.setCell ⟨q6, 0, none⟩ (.int .i64 F)).setCell ⟨q6, 1, none⟩ (.int .i64 R)) := (Alt.setCell (p := ⟨q6, 0, none⟩) (u := .int .i64 F) ⟨Nat.le_refl q6, Nat.lt_succ_self q6⟩).trans (Alt.setCell (p := ⟨q6, 1, none⟩) (u := .int .i64 R) ⟨Nat.le_refl q6, Nat.lt_succ_self q6⟩)
       have hP5 := ha5.own hP4 (fun q e => by have : q ≠ q6 := fun h => hne4 (by rw [e, h]); omega)
       have hV5 := ha5.own hownV (fun q e => by have : q ≠ q6 := fun h => hneV (by rw [e, h]); omega)
       have hR5 := ha5.own (own_call hownR hbx) (fun q e => by have := own_ne (own_call hownR hbx) hQ4 (fun c h => by injection h with h1 h2; simp at h2); have : q ≠ q6 := fun h => this (by rw [e, h]); omega)
       have hA5 := ha5.hasO (hAr.call hbx) (.inl hq6)
       have hQ5 := (hQ4.set_ 0 (.int .i64 F)).set_ 1 (.int .i64 R)
       have hb5 := ha5.below hb4 (Nat.le_of_lt hq6) hb4.size
       have hbv : w.heap.size ≤ w3.heap.size := hBr.size
       have hcl : ∀ j u, ((rowL t).map (Value.int .i8))[j]? = some u → ((w4.setCell ⟨q6, 0, none⟩ (.int .i64 F)).setCell ⟨q6, 1, none⟩ (.int .i64 R)).cell? ((⟨g4, 0, none⟩ : Addr).add j) = some u := fun j u h => hV5.cells (g := g4) rfl j u h
       have hrlen : ((rowL t).map (Value.int .i8)).length = F * 1 := by rw [List.length_map, hrl.out, Nat.mul_one]
       have h1c : ∀ u ∈ (rowL t).map (Value.int .i8), u.oneCell' = true := by intro u hu; obtain ⟨y, _, rfl⟩ := List.mem_map.1 hu; rfl
       have hnx : n + F = (k + 1) * F := by rw [hn.out, Nat.add_mul, Nat.one_mul]
       have hbl : brdL rk (k + 1) = brdL rk k ++ rowL t := by rw [brdL, ht, hi, hRk.out]
       replace hbl := Lib.hid hbl
       replace hnx := Lib.hid hnx
       have hgu : (¬ ((0 : Int) < n)) ∨ ((0 : Int) < n ∧ upD F k = F) := by
        by_cases hk0 : k = 0
        ·left; rw [hn.out, hk0, Nat.zero_mul]; simp
        ·right; exact ⟨by have : 0 < k * F := Nat.mul_pos (by omega) (by omega); rw [hn.out]; omega, if_neg hk0⟩
       have hfz := hQ4.frozen
       replace hneV := Lib.hid hneV
       replace hne4 := Lib.hid hne4
       clear hownR hAr hQ hownV ha5 hb4 hbx hBr hV5 hcr hP4
       rcases hgu with hn0 | ⟨hn0, hup⟩
       all_goals (try rw [hup] at hc)
       all_goals (try clear hup)
       all_goals
        go_wp2_with (at_builtin; refine wpList_append_own_at _ rfl (.tmp 131) (.tmp 132) 24 rfl w.heap.size 38 i81 (.int .i8 0) 1 1 Tryz.underlying24 hi81 hz81 hs81 hy81 rfl (by decide) _ n _ rfl hP5 ⟨g4, 0, none⟩ F c4 _ rfl hrlen hcl h1c (by unfold maxLen; omega) (by omega) hb5.size ?_)
        intro v' w9 hown9 hg9 _ _
        obtain ⟨pv', cv', e'⟩ := own_form hown9
        have hQ9 := hQ5.grown hg9 (own_ne hP5 hQ5 (fun c h => by injection h with h1 h2; simp at h2))
        have hA9 := hA5.grown hg9 (own_ne hP5 hA5 (fun c h => by injection h with h1 h2; simp at h2))
        have hb9 := hb5.grown hg9 hb5.size (fun j e => (hP5.lt j e).1)
        have hR9 := hR5.kept hg9 (own_ne2 hR5 hP5 (by decide))
        have hne9 := own_ne hown9 hQ9 (fun c h => by injection h with h1 h2; simp at h2)
        have hneR := own_ne hR9 hQ9 (fun c h => by injection h with h1 h2; simp at h2)
        have ha9 : Alt q6 (q6 + 1) w9 (w9.setCell ⟨q6, 2, none⟩ v') := Alt.setCell (p := ⟨q6, 2, none⟩) ⟨Nat.le_refl q6, Nat.lt_succ_self q6⟩
        have hP10 := ha9.own hown9 (fun q e => by have : q ≠ q6 := fun h => hne9 (by rw [e, h]); omega)
        have hR10 := ha9.own hR9 (fun q e => by have : q ≠ q6 := fun h => hneR (by rw [e, h]); omega)
        have hQ10 := hQ9.set_ 2 v'
        have hA10 := ha9.hasO hA9 (.inl hq6)
        have hb10 := ha9.below hb9 (Nat.le_of_lt hq6) hb9.size
        have hc := hQ9.cells
        have hl9 := hQ9.lt
        have hfz := hQ9.frozen
        subst e'
        replace hne9 := Lib.hid hne9
        replace hneR := Lib.hid hneR
        clear ha9 hown9 hR9 hA9 hb9 hg9 hP5 hR5 hA5 hQ5 hb5 hcl
        go_wp2_with fail
        go_roundg (g2 - 1)
        case measure => omega
        case rel =>
         refine ⟨k + 1, _, rfl, by omega, by omega, by have := hic.out; go_num, ?_⟩
         refine ⟨hR10, hA10, hq6, ⟨_, ?_, by rw [← hnx.out, hbl.out, List.map_append]; exact hP10⟩, hb10⟩
         rw [show upD F (k + 1) = F from rfl, ← hRk.out, show upD R (k + 1) = R from rfl]
         exact hQ10
    ·have hii : ¬ (0 : Int) ≤ (R : Int) - 1 - k := by omega
     obtain rfl : k = R := by omega
     have hc := hQ.cells
     have hlq := hQ.lt
     have hlb := brdL_len hok.out k (by rw [← hRk.out]; exact Nat.le_refl _)
     rw [← hRk.out, show upD F k = F from if_neg (by omega), show upD k k = k from if_neg (by omega)] at hQ hc
     obtain ⟨p, cp, rfl, hcp, _⟩ := own_arr (k := .i8) (xs := brdL rk k) (by rw [hlb]; exact hownP)
     rw [hlb] at hcp hQ hc
     have hown9 := (setRow_alt w3 w.heap.size (bdCs F k p (k * F) cp).toArray).own hownP (fun q e => by
      have := own_ne hownP hAr (fun c h => by injection h with h1 h2; simp at h2); rw [e] at this; have : q ≠ w.heap.size := fun h => this (by rw [h]); omega)
     obtain ⟨p2, cp2, e2, hcp2, hArr⟩ := own_arr (k := .i8) (xs := brdL rk k) (by rw [hlb]; exact hown9)
     injection e2 with e21 e22 e23
     subst e21
     subst e23
     have hi91 : Hid ((Tryz.prog.info? 68).map (·.size) = some (bdCs F k p (k * F) cp).toArray.size) := Lib.hid (by kernel_rfl)
     have hone : Hid ((bdCs F k p (k * F) cp).toArray.all (·.oneCell') = true) := Lib.hid (by first | kernel_rfl | simp [Value.oneCell'])
     have hA9 := setRow_hasO (cells := (bdCs F k p (k * F) cp).toArray) hAr
     have hb9 := setRow_below (cells := (bdCs F k p (k * F) cp).toArray) hBr (Nat.le_refl _) hBr.size
     have hcp : Hid (k * F ≤ cp) := Lib.hid hcp
     replace hlb := Lib.hid hlb
     clear hcp2 e22 hown9 hownR hownP
     go_wp2_with (first | (refine wpList_loadO rfl 68 (.tmp 6) rfl q6 _ 91 rfl hQ (by kernel_rfl) ?_) | (refine wpList_storeAgg rfl 68 (.tmp 2) (.tmp 135) rfl w.heap.size _ rfl rfl 68 _ hAr hi91.out rfl hone.out ?_; rintro w' rfl) | fail)
     refine bodyPost_ret (results_ct (fn := Tryz.f127) Tryz.results127 rfl hA9 (by kernel_rfl) hi91.out rfl) rfl ?_
     refine ⟨⟨p, cp, ret_v ?_, ?_, ?_⟩, hb9⟩
     ·rw [hrk.out, ← hRk.out]; rfl
     ·rw [hrk.out, ← hRk.out]; exact hcp.out
     ·rw [hrk.out, ← hRk.out]; exact hArr
end Go.Proofs.YtefmplccbkmalaaGreatDoor
