import Derived.Test.YtddkhnnpeonbgaaW36
import Derived.Test.YtddkhnnpeonbgaaW35
namespace Go.Proofs.Ytddkhnnpeonbgaa
open Go.RowKit

theorem rblkCells_len (bs : List Int) (n k : Nat) : (rblkCells bs n k).length = 4 * k := by
  induction k with
  | zero => rfl
  | succ k ih => simp only [rblkCells, List.length_append, ih, rblkCs, List.length_cons, List.length_nil]; omega
theorem rblkCells_get (bs : List Int) (n : Nat) {i k j : Nat} (hi : i < k) (hj : j < 4) : (rblkCells bs n k)[i * 4 + j]? = (rblkCs (widB bs n i) (lowB bs n i) (posB bs n i + 3) (manyB n i))[j]? := by
  induction k with
  | zero => omega
  | succ k ih =>
    simp only [rblkCells]
    by_cases e : i < k
    · rw [List.getElem?_append_left (by rw [rblkCells_len]; omega)]; exact ih e
    · obtain rfl : i = k := by omega
      rw [List.getElem?_append_right (by rw [rblkCells_len]; omega), rblkCells_len]
      congr 1; omega
theorem rblk_slice {w : World} {base : Nat} {v : Value} {bs : List Int} {n N : Nat} (h : w.ownsRow base 53 4 v N (rblkCells bs n N)) (hN : 0 < N) :
    ∃ gb cap, v = .slice (some ⟨gb, 0, none⟩) N cap ∧ base ≤ gb ∧ gb < w.heap.size ∧ N ≤ cap ∧ ∀ i, i < N → w.cell? ⟨gb, i * 4, none⟩ = some (.int .i64 (widB bs n i)) := by
  have h' := h
  rcases h.2 with ⟨_, h2⟩ | ⟨gb, cap, cur, rfl, hg, hh, hcap, _⟩
  · omega
  · refine ⟨gb, cap, rfl, hg, (h'.lt gb rfl).2, hcap, fun i hi => ?_⟩
    have h0 := rblkCells_get bs n hi (j := 0) (by omega)
    rw [h'.cellAt _ (by omega)]
    exact h0
theorem wpList_storeTo {P : Program} {ops : Array Oper} {rest : List Oper} {o : Oper} {a : Act} {w wz : World} {Q : Exit → Act → World → Prop} {g : Nat} {cells : Array Value} (hwz : Hid (wz = w.setRow g cells)) (hgd : o.guard = none) (ty : TypeId) (x y : Operand) (ho : o.op = .store ty x y)
    (hx : a.eval x = .pointer (some ⟨g, 0, none⟩)) (hy : a.eval y = .agg cells)
    (t : TypeId) (old : Array Value) (hg : HasO w g (.cells old t (0, 0))) (hi : (P.info? ty).map (·.size) = some cells.size)
    (hold : old.size = cells.size) (h1 : cells.all (·.oneCell') = true)
    (h : wpList P ops Q rest (a.put o.dst undef) wz) : wpList P ops Q (o :: rest) a w := by
  have hwz := hwz.out
  subst hwz
  exact wpList_storeAgg hgd ty x y ho g cells hx hy t old hg hi hold h1 (fun _ e => e ▸ h)
set_option maxHeartbeats 2000000 in
set_option maxRecDepth 100000 in
theorem PackedOutlines_any (p : Option Addr) (c : Nat) (bs : List Int) (w : World) (hx : Arr .u8 w p bs) (hbs : isBytes bs) (hl : bs.length ≤ 9223372036854775807) (hc : bs.length ≤ c) (hm : MaxOk w) :
    Calls Try.prog 5 #[.slice p bs.length c] w fun e w' => e = .returned (.bool true) ∧ Below w.heap.size w w' := by
  have hms : 0 < w.heap.size := by obtain ⟨_, _, h⟩ := hm; exact h
  go_enter Try.func5, Try.ntmps5
  by_cases h0 : (10000 : Int) < bs.length
  · go_wp2_with fail
    refine (known_any w hm).mono ?_
    rintro e w1 ⟨rfl, hb⟩
    go_wp2_with fail
    go_ret
    exact ⟨rfl, hb⟩
  · have hl2 : bs.length ≤ 2000000 := by omega
    clear hl
    go_wp2_with fail
    refine (Men_any p c bs w hx hbs hl2 hc hm).mono ?_
    rintro e w1 ⟨rfl, hb1⟩
    generalize hV : outV bs = V at *
    obtain ⟨m0, n0, er⟩ := V
    simp only [] at *
    have hT1 : HasO (w1.alloc (.cells zeroMen.cs.toArray 26)) w1.heap.size (.cells zeroMen.cs.toArray 26 (0, 0)) := HasO.new _ _
    have hi26 : Hid ((Try.prog.info? 26).map (·.size) = some zeroMen.cs.toArray.size) := Lib.hid (by kernel_rfl)
    have hone : Hid (zeroMen.cs.toArray.all (·.oneCell') = true) := Lib.hid (by kernel_rfl)
    have hbT := (hb1.alloc hb1.size (.cells zeroMen.cs.toArray 26))
    replace hV := Lib.hid hV
    go_wp2_with (refine wpList_storeAgg rfl 26 (.tmp 3) (.tmp 19) rfl w1.heap.size m0.cs.toArray rfl rfl 26 _ hT1 (by kernel_rfl) rfl (men_one m0) ?_)
    have hM := setRow_hasO (cells := m0.cs.toArray) hT1
    have hbM := setRow_below (g := w1.heap.size) (cells := m0.cs.toArray) hbT hb1.size hbT.size
    show Calls _ 16 _ ((w1.alloc (.cells zeroMen.cs.toArray 26)).setRow w1.heap.size m0.cs.toArray) _
    generalize (w1.alloc (.cells zeroMen.cs.toArray 26)).setRow w1.heap.size m0.cs.toArray = w2 at *
    obtain ⟨q1, hq1⟩ : ∃ q, q = w1.heap.size := ⟨_, rfl⟩
    have hqw : w.heap.size ≤ q1 := by rw [hq1]; exact hb1.size
    rw [← hq1] at hM ⊢
    clear hT1 hbT hq1 hb1
    refine (Widths_any p c bs w2 (hx.call hbM) hbs hl2 hc (hm.call hbM hms)).mono ?_
    rintro e w3 ⟨hb3, v, rfl, hno, hyes⟩
    rw [hV.out]
    have hM3 := hM.call hb3
    have hB3 := below_call hbM hbM.size hb3
    clear hb3
    go_wp2_with fail
    refine (refOutline_any p c bs w3 (hx.call hB3) hbs hl2 hc).mono ?_
    rintro e w4 ⟨hb4, ⟨hn, rfl⟩ | ⟨m, v', hs, rfl, hown'⟩⟩
    · obtain rfl := hno hn
      have hVn : outV bs = (zeroMen, 0, 6) := by unfold outV; rw [hn]
      rw [hV.out] at hVn
      obtain ⟨rfl, rfl, rfl⟩ : m0 = zeroMen ∧ n0 = 0 ∧ er = 6 := by simpa using hVn
      have hT4 := HasO.new w4 (.cells zeroMen.cs.toArray 26)
      have hB4 := below_call hB3 hB3.size hb4
      have hM4 := (hM3.call hb4).alloc (.cells zeroMen.cs.toArray 26)
      have hbT := hB4.alloc hB4.size (.cells zeroMen.cs.toArray 26)
      have hsz4 := hM3.call hb4 |>.lt
      clear hno hyes hVn hM3 hM hb4
      have hne1 : w4.heap.size ≠ q1 := by omega
      obtain ⟨w5, hw5⟩ : ∃ x, x = (w4.alloc (.cells zeroMen.cs.toArray 26)).setRow w4.heap.size zeroMen.cs.toArray := ⟨_, rfl⟩
      have hM5 : HasO w5 q1 (.cells zeroMen.cs.toArray 26 (0, 0)) := by rw [hw5]; exact hM4.setRow_far (by omega)
      have hl5 := hM5.lt
      have hB5 : Below w.heap.size w w5 := by rw [hw5]; exact setRow_below hbT (by omega) hbT.size
      have hc5 := HasO.cells (show HasO w5 q1 (.cells #[.int .i64 0, .int .i64 0, .int .i64 0, .int .i64 0, .int .i64 0, .int .i64 0, .int .i64 0, .int .i64 0, .int .i64 0, .int .i64 0, .int .i64 0, .int .i64 0] 26 (0, 0)) from hM5)
      clear hM5
      have he : ∀ W : World, (binOp .eql 26 (.agg #[.int .i64 0, .int .i64 0, .int .i64 0, .int .i64 0, .int .i64 0, .int .i64 0, .int .i64 0, .int .i64 0, .int .i64 0, .int .i64 0, .int .i64 0, .int .i64 0]) (.agg #[.int .i64 0, .int .i64 0, .int .i64 0, .int .i64 0, .int .i64 0, .int .i64 0, .int .i64 0, .int .i64 0, .int .i64 0, .int .i64 0, .int .i64 0, .int .i64 0])).run Try.prog W = .ok (.bool true) W := fun W => (men_eql zeroMen zeroMen W).trans (by simp)
      have hgd : ∀ x y W, (eqGuard .eql 26 x y (.agg #[.int .i64 0, .int .i64 0, .int .i64 0, .int .i64 0, .int .i64 0, .int .i64 0, .int .i64 0, .int .i64 0, .int .i64 0, .int .i64 0, .int .i64 0, .int .i64 0]) (.agg #[.int .i64 0, .int .i64 0, .int .i64 0, .int .i64 0, .int .i64 0, .int .i64 0, .int .i64 0, .int .i64 0, .int .i64 0, .int .i64 0, .int .i64 0, .int .i64 0])).run Try.prog W = .ok () W := fun x y W => men_guard .eql x y zeroMen.cs.toArray zeroMen.cs.toArray W
      have hkn := known_any w5 (hm.call hB5 hms)
      replace hw5 := Lib.hid hw5
      go_wp2_with (refine wpList_storeTo hw5 rfl 26 (.tmp 8) (.tmp 30) rfl rfl rfl 26 _ hT4 hi26.out rfl hone.out ?_)
      refine hkn.mono ?_
      rintro e w6 ⟨rfl, hb6⟩
      go_wp2_with fail
      go_ret
      exact ⟨rfl, below_call hB5 hB5.size hb6⟩
    · have hVn : outV bs = (m, (countN m : Int), 0) := by unfold outV; rw [hs]
      rw [hV.out] at hVn
      obtain ⟨rfl, rfl, rfl⟩ : m0 = m ∧ n0 = (countN m : Int) ∧ er = 0 := by simpa using hVn
      obtain ⟨hval, hn0, hn1, _, _⟩ := outM_fact hs
      replace hval := Lib.hid hval
      have hown := hyes m0 hs
      have hget : ∀ i, i < nBlk (countN m0) → (widsL bs (countN m0) (nBlk (countN m0)))[i]? = some (widB bs (countN m0) i : Int) := fun i hi => widsL_get bs _ hi
      have hlen := widsL_len bs (countN m0) (nBlk (countN m0))
      generalize widsL bs (countN m0) (nBlk (countN m0)) = l at *
      have hNB : 0 < nBlk (countN m0) := by unfold nBlk; omega
      have hNB2 : nBlk (countN m0) ≤ 10000 := by unfold nBlk; omega
      obtain ⟨gb, cb, rfl, hgb, hgl, hcb, hcell⟩ := rblk_slice hown' hNB
      rw [← hlen] at hown
      obtain ⟨pv, cv, rfl, hcv, hArr⟩ := own_arr hown
      clear hyes hno hown hown' hVn hM
      have hT4 := HasO.new w4 (.cells zeroMen.cs.toArray 26)
      have hB4 := below_call hB3 hB3.size hb4
      have hM4 := (hM3.call hb4).alloc (.cells zeroMen.cs.toArray 26)
      have hbT := (below_box w4 (.cells zeroMen.cs.toArray 26))
      have hsz4 := hM3.call hb4 |>.lt
      obtain ⟨w5, hw5⟩ : ∃ x, x = (w4.alloc (.cells zeroMen.cs.toArray 26)).setRow w4.heap.size m0.cs.toArray := ⟨_, rfl⟩
      have hM5 : HasO w5 q1 (.cells m0.cs.toArray 26 (0, 0)) := by rw [hw5]; exact hM4.setRow_far (by omega)
      have hN5 : HasO w5 w4.heap.size (.cells m0.cs.toArray 26 (0, 0)) := by rw [hw5]; exact setRow_hasO hT4
      have hB45 : Below w4.heap.size w4 w5 := by rw [hw5]; exact setRow_below hbT (Nat.le_refl _) hbT.size
      have hArr4 := hArr.call hb4
      clear hb4 hArr hM4 hbT hM3
      replace hget := Lib.hid hget
      replace hcell := Lib.hid hcell
      replace hw5 := Lib.hid hw5
      have hc5 := hM5.cells
      have hd5 := hN5.cells
      have hlt5 := hM5.lt
      have hlu5 := hN5.lt
      have he : ∀ W : World, (binOp .neq 26 (.agg m0.cs.toArray) (.agg m0.cs.toArray)).run Try.prog W = .ok (.bool false) W := fun W => by rw [men_neq]; simp
      have hgd := fun x y W => men_guard .neq x y m0.cs.toArray m0.cs.toArray W
      go_wp2_with (refine wpList_storeTo hw5 rfl 26 (.tmp 8) (.tmp 30) rfl rfl rfl 26 _ hT4 hi26.out rfl (men_one m0) ?_)
      refine (refCount_any m0 w5 hval).mono ?_
      rintro e w6 ⟨rfl, hb6⟩
      have hB46 := below_call hB45 hB45.size hb6
      clear hc5 hd5 hlt5 hlu5 he hgd hw5 hT4 hM5 hN5 hB45 hb6
      go_wp2_with fail
      go_loopg [11] 100001 (fun q iv wr => ∃ i : Nat, q + i = 100001 ∧ i ≤ nBlk (countN m0) ∧ iv = .int .i64 i ∧ Below w4.heap.size w4 wr)
      case atStart => exact ⟨0, rfl, Nat.zero_le _, rfl, hB46⟩
      case round =>
        obtain ⟨i, hq, hi, rfl, hb⟩ := hrel
        clear hB46
        by_cases hlt : i < nBlk (countN m0)
        · have hii : (i : Int) < nBlk (countN m0) := by omega
          obtain ⟨b, o, rfl, hbl, hcc⟩ := (hArr4.call hb).at (show i < l.length by omega)
          have hci := hcc i (show i < l.length by omega)
          have hdi := (hb.cell (p := ⟨gb, i * 4, none⟩) hgl).trans (hcell.out i hlt)
          rw [hget.out i hlt] at hci
          have hgl2 : gb < wr.heap.size := Nat.lt_of_lt_of_le hgl hb.size
          clear hcc
          go_wp2_with fail
          go_quiet (fail)
          go_wp2_with fail
          go_roundg (gk - 1)
          case measure => omega
          case rel => exact ⟨i + 1, by omega, by omega, by go_num, below_drewN hb _⟩
        · have hii : ¬ (i : Int) < nBlk (countN m0) := by omega
          go_wp2_with fail
          refine (known_any wr (hm.call (below_call hB4 hB4.size hb) hms)).mono ?_
          rintro e w7 ⟨rfl, hb7⟩
          go_wp2_with fail
          go_ret
          have hBr := below_call hB4 hB4.size hb
          exact ⟨rfl, below_call hBr hBr.size hb7⟩
end Go.Proofs.Ytddkhnnpeonbgaa
