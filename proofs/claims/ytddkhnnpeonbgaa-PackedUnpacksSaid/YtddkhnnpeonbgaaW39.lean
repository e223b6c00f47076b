import Derived.Test.YtddkhnnpeonbgaaW22
import Derived.Test.YtddkhnnpeonbgaaW33
import Derived.Test.YtddkhnnpeonbgaaW25
namespace Go.Proofs.Ytddkhnnpeonbgaa
open Go.RowKit

theorem bitsI_get (w : Nat) (d : Int) {i : Nat} (h : i < w) : (bitsI w d)[i]? = some (d / 2 ^ (w - 1 - i) % 2) := by
  induction w generalizing i with
  | zero => omega
  | succ w ih =>
    simp only [bitsI]
    rcases i with _ | i
    · simp
    · rw [List.getElem?_cons_succ, ih (by omega)]
      rw [show w + 1 - 1 - (i + 1) = w - 1 - i by omega]
theorem take_snoc {l : List Int} {i : Nat} {x : Int} (h : l[i]? = some x) : l.take (i + 1) = l.take i ++ [x] := by
  rw [List.take_add_one, h]; rfl
theorem bitsI_take (w : Nat) (d : Int) {i : Nat} (h : i < w) : (bitsI w d).take (i + 1) = (bitsI w d).take i ++ [d / 2 ^ (w - 1 - i) % 2] := take_snoc (bitsI_get w d h)
theorem blkBits_take (lo : Int) (w : Nat) {l : List Int} {i : Nat} {x : Int} (h : l[i]? = some x) : blkBits lo w (l.take (i + 1)) = blkBits lo w (l.take i) ++ bitsI w (x - lo) := by
  rw [take_snoc h, blkBits_append]
  simp [blkBits]
theorem own_snoc {W : World} {base : Nat} {t : TypeId} {v : Value} {k : IntKind} {xs : List Int} {x : Int} (h : W.ownsRow base t 1 v (xs.length + 1) (xs.map (.int k) ++ [.int k x])) : W.ownsRow base t 1 v (xs ++ [x]).length ((xs ++ [x]).map (.int k)) := by
  simpa using h
theorem foldl_take_min {l : List Int} {i : Nat} {x a : Int} (h : l[i]? = some x) : min ((l.take i).foldl min a) x = (l.take (i + 1)).foldl min a := by
  rw [take_snoc h, List.foldl_append]; rfl
theorem foldl_take_max {l : List Int} {i : Nat} {x a : Int} (h : l[i]? = some x) : max ((l.take i).foldl max a) x = (l.take (i + 1)).foldl max a := by
  rw [take_snoc h, List.foldl_append]; rfl
theorem valL_snoc (xs : List Int) (x : Int) : valL (xs ++ [x]) = 2 * valL xs + x := by
  rw [valL_append]; simp [valL]; omega

theorem Arr.grown {k : IntKind} {w w' : World} {p : Option Addr} {xs : List Int} (h : Arr k w p xs) {row : Option Nat} (hg : w.grownBy w' row) (hr : ∀ b o, p = some ⟨b, o, none⟩ → row ≠ some b) : Arr k w' p xs := by
  rcases h with h | ⟨b, o, rfl, hl, hc⟩
  · exact .inl h
  · refine .inr ⟨b, o, rfl, Nat.lt_of_lt_of_le hl hg.size, fun j hj => ?_⟩
    rw [← hc j hj]
    have e := hg.block b hl (fun e => hr b o rfl e.symm)
    simp only [World.cell?, e]

set_option maxHeartbeats 2000000 in
set_option maxRecDepth 100000 in
theorem block_any (p : Option Addr) (c : Nat) (l : List Int) (w : World) (hx : Arr .i16 w p l) (hl0 : 0 < l.length) (hl : l.length ≤ 32) (hb : ∀ x ∈ l, 0 ≤ x ∧ x ≤ 10002) :
    Calls Try.prog 24 #[.slice p l.length c] w fun e w' => ∃ v, e = .returned v ∧ w'.ownsRow w.heap.size 5 1 v (blockL l).length ((blockL l).map (.int .u8)) ∧ Below w.heap.size w w' := by
  obtain ⟨i3, hi3, hz3, hs3, hy3⟩ := info_parts Try.info3
  obtain ⟨i5, hi5, hz5, hs5, hy5⟩ := info_parts Try.info5
  obtain ⟨g, o, rfl, hg, hcc⟩ := hx.at hl0
  have hc0 := hcc 0 hl0
  obtain ⟨x0, hx0⟩ : ∃ x, x = l[0]?.getD 0 := ⟨_, rfl⟩
  rw [← hx0, Nat.add_zero] at hc0
  obtain ⟨b1, b2, b3, b4, b5, b6⟩ := low_bd (by intro e; rw [e] at hl0; simp at hl0) hb
  have hget : ∀ i, i < l.length → ∃ x, l[i]? = some x ∧ w.cell? ⟨g, o + i, none⟩ = some (.int .i16 x) ∧ lowL l ≤ x ∧ x ≤ highL l := fun i hi => by
    refine ⟨l[i], List.getElem?_eq_getElem hi, ?_, (b6 _ (List.getElem_mem hi)).1, (b6 _ (List.getElem_mem hi)).2⟩
    rw [hcc i hi, List.getElem?_eq_getElem hi]; rfl
  have hlow : Hid (lowL l = l.foldl min x0) := Lib.hid (by rw [hx0]; rfl)
  have hhigh : Hid (highL l = l.foldl max x0) := Lib.hid (by rw [hx0]; rfl)
  replace hget := Lib.hid hget
  replace hx0 := Lib.hid hx0
  have hli : (l.length : Int) ≤ 32 := by omega
  have hl1 : (0 : Int) < l.length := by omega
  clear hcc b6
  go_enter Try.func24, Try.ntmps24
  go_wp2_with fail
  go_quiet (fail)
  go_wp2_with fail
  clear hc0
  go_loopg [3, 4, 5] 33 (fun q lv hv iv wr => ∃ i : Nat, q + i = 33 ∧ i ≤ l.length ∧ lv = .int .i16 ((l.take i).foldl min x0) ∧ hv = .int .i16 ((l.take i).foldl max x0) ∧ iv = .int .i64 i ∧ Below w.heap.size w wr)
  case atStart => exact ⟨0, rfl, Nat.zero_le _, rfl, rfl, rfl, below_drewN (Below.refl _ _) _⟩
  case round =>
    obtain ⟨i, hq, hi, rfl, rfl, rfl, hbw⟩ := hrel
    by_cases hlt : i < l.length
    · have hii : (i : Int) < l.length := by omega
      obtain ⟨x, hxi, hxc, hxl, hxh⟩ := hget.out i hlt
      have hxw := (hbw.cell (p := ⟨g, o + i, none⟩) hg).trans hxc
      have hgw : g < wr.heap.size := Nat.lt_of_lt_of_le hg hbw.size
      have hm1 := Lib.hid (foldl_take_min (a := x0) hxi)
      have hm2 := Lib.hid (foldl_take_max (a := x0) hxi)
      replace hxi := Lib.hid hxi
      clear hxc
      go_wp2_with fail
      go_quiet (fail)
      go_wp2_with fail
      rw [hm1.out, hm2.out]
      go_roundg (gk - 1)
      case measure => omega
      case rel => exact ⟨i + 1, by omega, by omega, rfl, rfl, by go_num, below_drewN hbw _⟩
    · have hii : ¬ (i : Int) < l.length := by omega
      obtain rfl : i = l.length := by omega
      rw [List.take_length, ← hlow.out, ← hhigh.out]
      obtain ⟨lo, hlo⟩ : ∃ x, x = lowL l := ⟨_, rfl⟩
      obtain ⟨hi2, hhi⟩ : ∃ x, x = highL l := ⟨_, rfl⟩
      rw [← hlo, ← hhi]
      rw [← hlo] at b1 b2 b5
      rw [← hhi] at b3 b4 b5
      have hwd14 := wid_le (n := hi2 - lo) (by omega)
      have hwp := wid_pow (n := hi2 - lo) (by omega) (by omega)
      clear hb hlow hhigh
      replace hlo := Lib.hid hlo
      replace hhi := Lib.hid hhi
      go_wp2_with fail
      refine (width_any (hi2 - lo) (by omega) (by omega) _).mono ?_
      rintro e w2 ⟨rfl, rfl⟩
      obtain ⟨wd, hwd⟩ : ∃ x, x = wid (hi2 - lo) := ⟨_, rfl⟩
      rw [← hwd]
      rw [← hwd] at hwd14 hwp
      have hwL : Hid (wd = widL l) := Lib.hid (by rw [hwd, hlo.out, hhi.out]; rfl)
      clear hwd
      have hwdi : (wd : Int) ≤ 14 := by omega
      have hbw3 := hbw.alloc hbw.size (.cells #[.int .u8 (wd : Int), .int .u8 (lo / 256), .int .u8 (lo % 256)] 5)
      have hown0 : (w2.alloc (.cells #[.int .u8 (wd : Int), .int .u8 (lo / 256), .int .u8 (lo % 256)] 5)).ownsRow w.heap.size 5 1 (.slice (some ⟨w2.heap.size, 0, none⟩) 3 3) 3 [.int .u8 (wd : Int), .int .u8 (lo / 256), .int .u8 (lo % 256)] := own_new w2 w.heap.size 5 [.int .u8 (wd : Int), .int .u8 (lo / 256), .int .u8 (lo % 256)] hbw.size (by simp [maxLen])
      have hx3 := hx.call hbw3
      replace hwp := Lib.hid hwp
      go_wp2_with fail
      show Code.wp _ _ _ _ (w2.alloc (.cells #[.int .u8 (wd : Int), .int .u8 (lo / 256), .int .u8 (lo % 256)] 5))
      have hD : w2.heap.size < (w2.alloc (.cells #[.int .u8 (wd : Int), .int .u8 (lo / 256), .int .u8 (lo % 256)] 5)).heap.size := by simp
      generalize w2.alloc (.cells #[.int .u8 (wd : Int), .int .u8 (lo / 256), .int .u8 (lo % 256)] 5) = w3 at *
      obtain ⟨q2, hq2⟩ : ∃ x, x = w2.heap.size := ⟨_, rfl⟩
      rw [← hq2] at hown0 hD ⊢
      clear hq2 hbw
      go_loopw [8, 9] (fun v iv wr => ∃ i : Nat, i ≤ l.length ∧ iv = .int .i64 i ∧ Below w3.heap.size w3 wr ∧ wr.ownsRow w3.heap.size 3 1 v (blkBits lo wd (l.take i)).length ((blkBits lo wd (l.take i)).map (.int .i64))) (fun _ iv _ => (l.length : Nat) - (intOf iv).toNat)
      case atStart => exact ⟨0, Nat.zero_le _, rfl, Below.refl _ _, World.ownsRow_nil _ _ _ _⟩
      case round =>
        obtain ⟨i, hi2', rfl, hb3, hown⟩ := hrel
        by_cases hlt2 : i < l.length
        · have hii2 : (i : Int) < l.length := by omega
          obtain ⟨x, hxi, hxc, hxl, hxh⟩ := hget.out i hlt2
          rw [← hlo.out] at hxl
          rw [← hhi.out] at hxh
          have hxd : 0 ≤ x - lo ∧ x - lo < 2 ^ wd := by have := hwp.out; omega
          have hxd2 : x - lo ≤ 10002 := by omega
          have hBL : (blkBits lo wd (l.take i)).length ≤ 32 * 14 := by rw [blkBits_len]; exact Nat.mul_le_mul (by simp; omega) hwd14
          have hst := Lib.hid (blkBits_take lo wd hxi)
          generalize blkBits lo wd (l.take i) = B at *
          replace hxi := Lib.hid hxi
          go_wp2_with fail
          go_loopw [8, 10] (fun v jv ws => ∃ j : Nat, j ≤ wd ∧ jv = .int .i64 ((wd : Int) - 1 - j) ∧ Below w3.heap.size w3 ws ∧ ws.ownsRow w3.heap.size 3 1 v (B ++ (bitsI wd (x - lo)).take j).length ((B ++ (bitsI wd (x - lo)).take j).map (.int .i64))) (fun _ jv _ => (intOf jv + 1).toNat)
          case atStart => exact ⟨0, Nat.zero_le _, by simp, hb3, by simpa using hown⟩
          case round =>
            clear hb3 hown
            obtain ⟨j, hj, rfl, hb3, hown⟩ := hrel
            by_cases hlt3 : j < wd
            · have hj0 : 0 ≤ (wd : Int) - 1 - j := by omega
              have hxw := ((hbw3.trans (hb3.mono hbw3.size)).cell (p := ⟨g, o + i, none⟩) hg).trans hxc
              have hgw : g < wr.heap.size := Nat.lt_of_lt_of_le hg (hbw3.trans (hb3.mono hbw3.size)).size
              go_wp2_with fail
              go_loop [11, 12] (fun yv kv => ∃ k : Nat, k ≤ wd - 1 - j ∧ kv = .int .i64 k ∧ yv = .int .i64 ((x - lo) / 2 ^ k)) (fun _ kv => (wd - 1 - j : Nat) - (intOf kv).toNat)
              case atStart => exact ⟨0, by omega, rfl, by rw [Int.pow_zero, Int.ediv_one]⟩
              case round =>
                obtain ⟨k, hk, rfl, rfl⟩ := hrel
                have hp := pow_pos2 k
                have hy1 : 0 ≤ (x - lo) / 2 ^ k := Int.ediv_nonneg hxd.1 (by omega)
                have hy2 : (x - lo) / 2 ^ k ≤ 10002 := by have := Int.ediv_le_self (b := 2 ^ k) hxd.1; omega
                have hs := Lib.hid (div_pow_succ (x - lo) k)
                have hkb : (k : Int) ≤ 14 := by omega
                have hbt := Lib.hid (bitsI_take wd (x - lo) hlt3)
                have hTL : (B ++ (bitsI wd (x - lo)).take j).length ≤ 32 * 14 + 14 := by
                  rw [List.length_append, List.length_take, bitsI_len]; omega
                by_cases h7 : k < wd - 1 - j
                · have h8 : (k : Int) < (wd : Int) - 1 - j := by omega
                  generalize hy : (x - lo) / 2 ^ k = y at *
                  replace hy := Lib.hid hy
                  go_wp2_with fail
                  go_round
                  case rel => exact ⟨k + 1, by omega, by go_num, by rw [← hs.out]⟩
                  case measure => simp [intOf]; omega
                · have h8 : ¬ (k : Int) < (wd : Int) - 1 - j := by omega
                  obtain rfl : k = wd - 1 - j := by omega
                  generalize hy : (x - lo) / 2 ^ (wd - 1 - j) = y at *
                  replace hy := Lib.hid hy
                  generalize hTT : B ++ (bitsI wd (x - lo)).take j = TT at *
                  replace hTT := Lib.hid hTT
                  have hbase : w3.heap.size ≤ wr.heap.size := hb3.size
                  go_wp2_with (at_builtin; refine wpList_push rfl (.tmp 82) (.tmp 85) 49 rfl w3.heap.size 3 i3 (.int .i64 0) 1 8 Try.underlying49 hi3 hz3 hs3 hy3 rfl (by decide) _ TT.length (TT.map (.int .i64)) rfl hown [.int .i64 (y % 2)] rfl (by intro u hu; simp at hu; subst hu; rfl) _ rfl rfl (by omega) hbase ?_)
                  intro v' w9 hown9 hg9 _
                  have hb9 := hb3.grown hg9 hbase (fun j e => (hown.lt j e).1)
                  have hown9' := own_snoc hown9
                  rw [← hTT.out, List.append_assoc, ← hbt.out] at hown9'
                  clear hown9 hg9 hown hb3
                  go_wp2_with fail
                  go_roundw
                  case rel => exact ⟨j + 1, by omega, by go_num, hb9, hown9'⟩
                  case measure => simp [intOf]; omega
            · have hj0 : ¬ 0 ≤ (wd : Int) - 1 - j := by omega
              obtain rfl : j = wd := by omega
              rw [List.take_of_length_le (by rw [bitsI_len]; exact Nat.le_refl _), ← hst.out] at hown
              go_wp2_with fail
              go_roundw
              case rel => exact ⟨i + 1, by omega, by go_num, hb3, hown⟩
              case measure => simp [intOf]; omega
        · have hii2 : ¬ (i : Int) < l.length := by omega
          obtain rfl : i = l.length := by omega
          rw [List.take_length] at hown
          have hBL : (blkBits lo wd l).length ≤ 32 * 14 := by rw [blkBits_len]; exact Nat.mul_le_mul hl hwd14
          have hBB := blkBits_bits lo wd l
          have hbk : Hid (blockL l = [(wd : Int), lo / 256, lo % 256] ++ bytesL (blkBits lo wd l)) := Lib.hid (by unfold blockL; rw [← hwL.out, ← hlo.out])
          generalize blkBits lo wd l = B at *
          have hpad := padN_lt B.length
          clear hget hx hg
          go_wp2_with fail
          go_loopg [8] 9 (fun q v wr => ∃ k : Nat, q + k = 9 ∧ k ≤ padN B.length ∧ Below w3.heap.size w3 wr ∧ wr.ownsRow w3.heap.size 3 1 v (B ++ List.replicate k 0).length ((B ++ List.replicate k 0).map (.int .i64)))
          case atStart => exact ⟨0, rfl, Nat.zero_le _, hb3, by simpa using hown⟩
          case round =>
            clear hb3 hown
            obtain ⟨k, hqk, hk, hb3, hown⟩ := hrel
            have hTL : (B ++ List.replicate k 0).length = B.length + k := by simp
            have hsn : Hid (B ++ List.replicate (k + 1) 0 = B ++ List.replicate k 0 ++ [0]) := Lib.hid (by rw [List.replicate_succ', List.append_assoc])
            have hkp : Hid (k = padN B.length → B ++ List.replicate k 0 = padL B) := Lib.hid (fun e => by rw [e]; rfl)
            have hTb : isBits (B ++ List.replicate k 0) := isBits_append hBB (fun x hx => .inl (List.eq_of_mem_replicate hx))
            generalize B ++ List.replicate k 0 = TT at *
            have hTi : (TT.length : Int) ≤ 500 := by omega
            by_cases hlt2 : k < padN B.length
            · have hne : ¬ (TT.length : Int) % 8 = 0 := by unfold padN at hlt2; omega
              have hbase : w3.heap.size ≤ wr.heap.size := hb3.size
              replace hTL := Lib.hid hTL
              obtain ⟨pv, cv, rfl, hcv, _⟩ := own_arr hown
              go_wp2_with (at_builtin; refine wpList_push rfl (.tmp 91) (.tmp 92) 49 rfl w3.heap.size 3 i3 (.int .i64 0) 1 8 Try.underlying49 hi3 hz3 hs3 hy3 rfl (by decide) _ TT.length (TT.map (.int .i64)) rfl hown [.int .i64 0] rfl (by intro u hu; simp at hu; subst hu; rfl) _ rfl rfl (by omega) hbase ?_)
              intro v' w9 hown9 hg9 _
              have hb9 := hb3.grown hg9 hbase (fun j e => (hown.lt j e).1)
              have hown9' := own_snoc hown9
              rw [← hsn.out] at hown9'
              clear hown9 hg9 hown hb3
              go_wp2_with fail
              go_roundg (gk - 1)
              case measure => omega
              case rel => exact ⟨k + 1, by omega, by omega, hb9, hown9'⟩
            · have hP := hkp.out (by omega)
              have hP8 : (TT.length : Int) % 8 = 0 := by omega
              have hbk2 : Hid (blockL l = [(wd : Int), lo / 256, lo % 256] ++ bytesN (TT.length / 8) TT) := Lib.hid (by rw [hbk.out]; unfold bytesL; rw [hP])
              clear hP hkp hsn hbk
              replace hTL := Lib.hid hTL
              obtain ⟨pv, cv, rfl, hcv, hArr⟩ := own_arr hown
              have hrow : ∀ b o, pv = some ⟨b, o, none⟩ → w3.heap.size ≤ b ∧ b < wr.heap.size := fun b o e => hown.lt b (by subst e; rfl)
              have hown1 := own_call hown0 hb3
              have hbw4 := hbw3.trans (hb3.mono hbw3.size)
              have hsz4 : w3.heap.size ≤ wr.heap.size := hb3.size
              have hsw : w.heap.size ≤ wr.heap.size := hbw4.size
              clear hown hown0 hb3 hbw3
              obtain ⟨nb, hnb⟩ : ∃ nb, TT.length = 8 * nb := ⟨TT.length / 8, by omega⟩
              rw [show TT.length / 8 = nb by omega] at hbk2
              go_wp2_with fail
              obtain ⟨w4, hw4⟩ : ∃ x, x = wr := ⟨_, rfl⟩
              subst hw4
              go_loopw [7, 13] (fun v av wr => ∃ a A : Nat, A = 8 * a ∧ a ≤ nb ∧ av = .int .i64 A ∧ Below w.heap.size w wr ∧ wr.ownsRow w.heap.size 5 1 v ([(wd : Int), lo / 256, lo % 256] ++ bytesN a TT).length (([(wd : Int), lo / 256, lo % 256] ++ bytesN a TT).map (.int .u8)) ∧ (∀ y, v.ownBlock = some y → y < w3.heap.size ∨ w4.heap.size ≤ y) ∧ Arr .i64 wr pv TT ∧ w4.heap.size ≤ wr.heap.size) (fun _ av _ => (8 * nb : Nat) - (intOf av).toNat)
              case atStart => exact ⟨0, 0, rfl, Nat.zero_le _, rfl, hbw4, by simpa [bytesN] using hown1, fun y e => .inl (by simp [Value.ownBlock] at e; omega), hArr, Nat.le_refl _⟩
              case round =>
                clear hbw4 hown1 hArr
                obtain ⟨a, A, hA, ha, rfl, hbw4, hown1, hfar, hArr, hsz5⟩ := hrel
                by_cases hlt2 : a < nb
                · have hlt3 : (A : Int) < TT.length := by omega
                  have hAi : (A : Int) ≤ 500 := by omega
                  have hltA : A < TT.length := by omega
                  have hA8 : A + 8 ≤ TT.length := by omega
                  have hA8' : A + 8 ≤ 8 * nb := by omega
                  obtain ⟨gb, ob, rfl, hgb, hcc⟩ := hArr.at hltA
                  replace hA := Lib.hid hA
                  replace hnb := Lib.hid hnb
                  have hbts : isBits (TT.drop A) := isBits_sub hTb (fun y hy => List.mem_of_mem_drop hy)
                  go_wp2_with fail
                  go_loop [14, 15] (fun bv tv => ∃ t : Nat, t ≤ 8 ∧ tv = .int .i64 t ∧ bv = .int .i64 (valL ((TT.drop A).take t))) (fun _ tv => (8 - intOf tv).toNat)
                  case atStart => exact ⟨0, by omega, rfl, by simp [valL]⟩
                  case round =>
                    obtain ⟨t, ht, rfl, rfl⟩ := hrel
                    have hv := valL_bd (isBits_sub hbts (fun y hy => List.mem_of_mem_take hy) : isBits ((TT.drop A).take t))
                    have hv2 : valL ((TT.drop A).take t) < 256 := by
                      have hle : ((TT.drop A).take t).length < 9 := by simp; omega
                      have key : ∀ n : Nat, n < 9 → (2 : Int) ^ n ≤ 256 := by decide
                      exact Int.lt_of_lt_of_le hv.2 (key _ hle)
                    have hv1 := hv.1
                    clear hv
                    have hti : (t : Int) ≤ 8 := by omega
                    by_cases h8 : t < 8
                    · have h8' : (t : Int) < 8 := by omega
                      have hci := hcc (A + t) (by omega)
                      obtain ⟨x, hxe⟩ : ∃ x, TT[A + t]? = some x := ⟨TT[A + t]'(by omega), List.getElem?_eq_getElem _⟩
                      rw [hxe] at hci
                      have hx01 := hTb x (List.mem_of_getElem? hxe)
                      have hxb : 0 ≤ x ∧ x ≤ 1 := by omega
                      obtain ⟨hxb0, hxb1⟩ := hxb
                      have hsn : Hid (valL ((TT.drop A).take (t + 1)) = 2 * valL ((TT.drop A).take t) + x) := Lib.hid (by
                        rw [take_snoc (x := x) (by rw [List.getElem?_drop]; exact hxe), valL_snoc])
                      have hci' : wr.cell? ⟨gb, ob + (A + t), none⟩ = some (.int .i64 x) := hci
                      have hlt4 : (A : Int) + t < TT.length := by omega
                      generalize valL ((TT.drop A).take t) = vb at *
                      clear hci hcc hx01
                      replace hxe := Lib.hid hxe
                      go_wp2_with fail
                      go_round
                      case rel => exact ⟨t + 1, by omega, by go_num, by rw [hsn.out]⟩
                      case measure => simp [intOf]; omega
                    · have h8' : ¬ (t : Int) < 8 := by omega
                      obtain rfl : t = 8 := by omega
                      have hbn : Hid (bytesN (a + 1) TT = bytesN a TT ++ [valL ((TT.drop A).take 8)]) := Lib.hid (by rw [bytesN_succ, hA.out])
                      generalize valL ((TT.drop A).take 8) = vb at *
                      have hOL : ([(wd : Int), lo / 256, lo % 256] ++ bytesN a TT).length = 3 + a := by simp [bytesN_len]; omega
                      have hab : a ≤ 100 := by have := hA.out; omega
                      generalize hOT : [(wd : Int), lo / 256, lo % 256] ++ bytesN a TT = OT at *
                      replace hOT := Lib.hid hOT
                      replace hOL := Lib.hid hOL
                      have hbase : w.heap.size ≤ wr.heap.size := hbw4.size
                      have hArr2 := hArr.call (below_box wr (.cells #[.int .u8 vb] 5))
                      go_wp2_with (at_builtin; refine wpList_push_at rfl (.tmp 113) (.tmp 116) 31 rfl w.heap.size 5 i5 (.int .u8 0) 1 Try.underlying31 hi5 hz5 hs5 hy5 rfl _ OT.length (OT.map (.int .u8)) rfl hown1 1 [.int .u8 vb] rfl (by intro u hu; simp at hu; subst hu; rfl) _ rfl rfl (by have := hOL.out; omega) hbase ?_)
                      intro v' w9 hown9 hg9 hnear9
                      have hbA := (hbw4.alloc hbase (.cells #[.int .u8 vb] 5))
                      have hb9 := hbA.grown hg9 (by simp; omega) (fun j e => (hown1.lt j e).1)
                      have hArr9 := hArr2.grown hg9 (fun b o e => by
                        intro e2
                        have h1 := hrow b o e
                        have h2 := hfar b e2
                        omega)
                      have hsz9 : w4.heap.size ≤ w9.heap.size := Nat.le_trans hsz5 (Nat.le_trans (by simp) hg9.size)
                      have hfar9 : ∀ y, v'.ownBlock = some y → y < w3.heap.size ∨ w4.heap.size ≤ y := fun y e => by
                        rcases hnear9 y e with h | h
                        · exact hfar y h
                        · right; omega
                      have hown9' := own_snoc hown9
                      rw [← hOT.out, List.append_assoc, ← hbn.out] at hown9'
                      clear hown9 hg9 hbA hArr2 hArr hcc hown1 hbw4
                      go_wp2_with fail
                      go_roundw
                      case rel => exact ⟨a + 1, A + 8, by have := hA.out; omega, by omega, by go_num, hb9, hown9', hfar9, hArr9, hsz9⟩
                      case measure => simp [intOf]; omega
                · have hlt3 : ¬ (A : Int) < TT.length := by omega
                  obtain rfl : a = nb := by omega
                  rw [← hbk2.out] at hown1
                  replace hA := Lib.hid hA
                  replace hnb := Lib.hid hnb
                  go_wp2_with fail
                  go_ret
                  exact ⟨_, rfl, hown1, hbw4⟩
end Go.Proofs.Ytddkhnnpeonbgaa
