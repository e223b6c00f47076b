import Derived.Test.YtddkhnnpeonbgaaW4
namespace Go.Proofs.Ytddkhnnpeonbgaa
open Go.RowKit

theorem choose_val {n k j : Nat} (hn : n ≤ 64) (hk : k ≤ 4) (hkn : ¬ n < k) (hj : j < k) : wrap64 ((wrap64 ((ch (n - k + j) j : Int) * ((n : Int) - k + (j + 1)))).tdiv (j + 1)) = (ch (n - k + (j + 1)) (j + 1) : Int) := by
  have hc := choose_step hn hk (by omega) hj
  have hb := choose_bd hn hk (by omega) hj
  have hl := ch_le (n := n - k + (j + 1)) (k := j + 1) (by omega) (by omega)
  have e1 : ((ch (n - k + j) j : Int) * ((n : Int) - k + (j + 1))) = ((ch (n - k + j) j * (n - k + (j + 1)) : Nat) : Int) := by
    rw [show (n : Int) - k + (j + 1) = ((n - k + (j + 1) : Nat) : Int) by omega, ← Int.natCast_mul]
  have e2 : wrap64 ((ch (n - k + j) j * (n - k + (j + 1)) : Nat) : Int) = ((ch (n - k + j) j * (n - k + (j + 1)) : Nat) : Int) := IntWalk.wrap64_in _ (by omega)
  rw [e1, e2, show (j : Int) + 1 = ((j + 1 : Nat) : Int) by omega, ← Int.ofNat_tdiv, hc]
  exact IntWalk.wrap64_in _ (by omega)

theorem choose_any (n k : Nat) (hn : n ≤ 64) (hk : k ≤ 4) (w : World) : Calls Try.prog 26 #[.int .i64 n, .int .i64 k] w fun e w' => e = .returned (.int .i64 (ch n k)) ∧ w = w' := by
  by_cases hkn : n < k
  · have hz := Lib.hid (ch_zero hk hkn)
    go_enter Try.func26, Try.ntmps26
    go_wp2_with fail
    go_ret
    exact ⟨by rw [hz.out]; rfl, rfl⟩
  · go_enter Try.func26, Try.ntmps26
    go_wp2_with fail
    go_loopg [5, 6] k (fun q o i wr => ∃ j : Nat, q + j = k ∧ o = .int .i64 (ch (n - k + j) j) ∧ i = .int .i64 ((j : Int) + 1) ∧ wr = w)
    case atStart => exact ⟨0, by omega, rfl, rfl, rfl⟩
    case round =>
      obtain ⟨j, hg, rfl, rfl, rfl⟩ := hrel
      by_cases hj : j < k
      · have h1 : (j : Int) + 1 ≤ k := by omega
        have hv := Lib.hid (choose_val hn hk hkn hj)
        go_wp2_with fail
        go_roundg (gk - 1)
        case measure => omega
        case rel => exact ⟨j + 1, by omega, by rw [hv.out], by go_num, rfl⟩
      · obtain rfl : j = k := by omega
        have h1 : (j : Int) + 1 > j := by omega
        go_wp2_with fail
        go_ret
        exact ⟨by rw [show n - j + j = n by omega]; rfl, rfl⟩

theorem group_any (m : Men) (j : Nat) (hj : j < 10) (w : World) : Calls Try.prog 27 #[.agg m.cs.toArray, .int .i64 j] w fun e w' => e = .returned (.int .i64 (m.grp j)) ∧ Below w.heap.size w w' := by
  by_cases h : j < 5
  · have hc := men_cell_w m w 0 h
    have hc : (w.alloc (.cells m.cs.toArray 26)).cell? ⟨w.heap.size, 2 + j, none⟩ = some (.int .i64 (m.sw j)) := by
      rw [World.cell?_alloc_at _ _ _ _ rfl]; have := m.cs_w h; simpa using this
    have he : m.grp j = m.sw j := by simp [Men.grp, h]
    replace he := Lib.hid he
    have h1 : (j : Int) < 5 := by omega
    go_enter Try.func27, Try.ntmps27
    go_wp2_with fail
    go_ret
    exact ⟨by rw [he.out]; rfl, below_box _ _⟩
  · have hc : (w.alloc (.cells m.cs.toArray 26)).cell? ⟨w.heap.size, 7 + (j - 5), none⟩ = some (.int .i64 (m.sb (j - 5))) := by
      rw [World.cell?_alloc_at _ _ _ _ rfl]; have := m.cs_b (k := j - 5) (by omega); simpa using this
    have he : m.grp j = m.sb (j - 5) := by simp [Men.grp, h]
    replace he := Lib.hid he
    have h1 : ¬ (j : Int) < 5 := by omega
    have h2 : (j : Int) - 5 < 5 := by omega
    go_enter Try.func27, Try.ntmps27
    go_wp2_with fail
    go_ret
    exact ⟨by rw [he.out]; rfl, below_box _ _⟩

theorem refCount_any (m : Men) (w : World) (hm : Hid (validB m = true)) : Calls Try.prog 12 #[.agg m.cs.toArray] w fun e w' => e = .returned (.int .i64 (countN m)) ∧ Below w.heap.size w w' := by
  obtain ⟨hsq, hq1, hq2⟩ := validB_sq hm.out
  have hM0 : HasO (w.alloc (.cells m.cs.toArray 26)) w.heap.size (.cells m.cs.toArray 26 (0, 0)) := HasO.new _ _
  have e1 : wrap64 (m.f * m.r) = (m.sq : Int) := by rw [hsq]; exact IntWalk.wrap64_in _ (by omega)
  have e2 : wrap64 (2 * (m.sq : Int) * (m.sq : Int)) = (m.prod 0 : Int) := by
    have := prod_bd hm.out (k := 0) (by omega)
    rw [show (2 * (m.sq : Int) * (m.sq : Int)) = (m.prod 0 : Int) from by simp [Men.prod]]
    exact IntWalk.wrap64_in _ (by omega)
  replace hsq := Lib.hid hsq
  go_enter Try.func12, Try.ntmps12
  go_wp2_with fail
  rw [e1, e2]
  clear e1 e2
  have hb0 := below_box w (.cells m.cs.toArray 26)
  go_loopg [4, 5] 10 (fun q n i wr => ∃ k, q + k = 10 ∧ n = .int .i64 (m.prod k) ∧ i = .int .i64 k ∧ Below w.heap.size w wr ∧ HasO wr w.heap.size (.cells m.cs.toArray 26 (0, 0)))
  case atStart => exact ⟨0, rfl, rfl, rfl, hb0, hM0⟩
  case round =>
    clear hM0 hb0
    obtain ⟨k, hg, rfl, rfl, hb, hM⟩ := hrel
    by_cases hk : k < 10
    · have hkk : (k : Int) < 10 := by omega
      have hc := hM.cells
      have hgb := grp_bd (validB_ok hm.out) hk
      have hp := prod_bd hm.out (k := k) (by omega)
      have hp1 := prod_bd hm.out (k := k + 1) (by omega)
      have e3 : wrap64 ((m.prod k : Int) * (ch m.sq (m.grp k).toNat : Int)) = (m.prod (k + 1) : Int) := by
        rw [show ((m.prod k : Int) * (ch m.sq (m.grp k).toNat : Int)) = (m.prod (k + 1) : Int) from by simp [Men.prod]]
        exact IntWalk.wrap64_in _ (by omega)
      have e4 : m.grp k = ((m.grp k).toNat : Int) := by omega
      replace e3 := Lib.hid e3
      replace e4 := Lib.hid e4
      go_wp2_with fail
      refine (group_any m k hk _).mono ?_
      rintro e w1 ⟨rfl, hb1⟩
      go_wp2_with fail
      rw [e4.out]
      refine (choose_any m.sq _ hq2 (by omega) _).mono ?_
      rintro e w2 ⟨rfl, rfl⟩
      go_wp2_with fail
      rw [e3.out]
      go_roundg (gk - 1)
      case measure => omega
      case rel => exact ⟨k + 1, by omega, rfl, by go_num, below_call hb hb.size hb1, hM.call hb1⟩
    · obtain rfl : k = 10 := by omega
      go_wp2_with fail
      go_ret
      exact ⟨rfl, hb⟩

theorem hasO_w {w : World} {B : Nat} {m : Men} (h : HasO w B (.cells m.cs.toArray 26 (0, 0))) {k : Nat} (hk : k < 5) : w.cell? ⟨B, 2 + k, none⟩ = some (.int .i64 (m.sw k)) := by
  rw [h.cells]; have := m.cs_w hk; simpa using this
theorem hasO_b {w : World} {B : Nat} {m : Men} (h : HasO w B (.cells m.cs.toArray 26 (0, 0))) {k : Nat} (hk : k < 5) : w.cell? ⟨B, 7 + k, none⟩ = some (.int .i64 (m.sb k)) := by
  rw [h.cells]; have := m.cs_b hk; simpa using this

theorem pieces_any (m : Men) (w : World) (hm : menOk m = true) : Calls Try.prog 43 #[.agg m.cs.toArray] w fun e w' => e = .returned (.int .i64 (m.upto 5)) ∧ Below w.heap.size w w' := by
  have hM0 : HasO (w.alloc (.cells m.cs.toArray 26)) w.heap.size (.cells m.cs.toArray 26 (0, 0)) := HasO.new _ _
  have hb0 := below_box w (.cells m.cs.toArray 26)
  replace hm := Lib.hid hm
  go_enter Try.func43, Try.ntmps43
  go_wp2_with fail
  go_loopg [3, 4] 5 (fun q n i wr => ∃ k, q + k = 5 ∧ n = .int .i64 (m.upto k) ∧ i = .int .i64 k ∧ Below w.heap.size w wr ∧ HasO wr w.heap.size (.cells m.cs.toArray 26 (0, 0)))
  case atStart => exact ⟨0, rfl, rfl, rfl, hb0, hM0⟩
  case round =>
    clear hM0 hb0
    obtain ⟨k, hg, rfl, rfl, hb, hM⟩ := hrel
    by_cases hk : k < 5
    · have hkk : (k : Int) < 5 := by omega
      have hc1 := hasO_w hM hk
      have hc2 := hasO_b hM hk
      have h1 := upto_bd hm.out (k := k) (by omega)
      have h2 := menOk_at hm.out hk
      have e1 : m.upto k + m.sw k + m.sb k = m.upto (k + 1) := by simp only [Men.upto]; omega
      replace e1 := Lib.hid e1
      go_wp2_with fail
      go_quiet (fail)
      go_wp2_with fail
      rw [e1.out]
      go_roundg (gk - 1)
      case measure => omega
      case rel => exact ⟨k + 1, by omega, rfl, by go_num, below_drewN hb _, hM.drewN _⟩
    · obtain rfl : k = 5 := by omega
      go_wp2_with fail
      go_ret
      exact ⟨rfl, hb⟩

theorem refValid_any (m : Men) (w : World) : Calls Try.prog 22 #[.agg m.cs.toArray] w fun e w' => e = .returned (.bool (validB m)) ∧ Below w.heap.size w w' := by
  have hM0 : HasO (w.alloc (.cells m.cs.toArray 26)) w.heap.size (.cells m.cs.toArray 26 (0, 0)) := HasO.new _ _
  have hb0 := below_box w (.cells m.cs.toArray 26)
  go_enter Try.func22, Try.ntmps22
  rcases hs : sizeB m.f m.r with _ | _
  · go_wp2_with fail
    refine (size_any _ _ _).mono ?_
    rintro e w1 ⟨rfl, hb1⟩
    have hb := below_call hb0 hb0.size hb1
    clear hb1 hb0 hM0
    go_wp2_with fail
    go_ret
    exact ⟨ret_bool (by simp [validB, hs]), hb⟩
  · go_wp2_with fail
    refine (size_any _ _ _).mono ?_
    rintro e w1 ⟨rfl, hb1⟩
    have hb1' := below_call hb0 hb0.size hb1
    have hM1 := hM0.call hb1
    clear hb1 hb0 hM0
    go_wp2_with fail
    replace hs := Lib.hid hs
    go_loopg [3] 5 (fun q i wr => ∃ k, q + k = 5 ∧ i = .int .i64 k ∧ Below w.heap.size w wr ∧ HasO wr w.heap.size (.cells m.cs.toArray 26 (0, 0)) ∧ Hid (∀ j, j < k → m.okAt j = true))
    case atStart => exact ⟨0, rfl, rfl, hb1', hM1, Lib.hid (fun j h => by omega)⟩
    case round =>
      clear hM1 hb1'
      obtain ⟨k, hg, rfl, hb, hM, hok⟩ := hrel
      by_cases hk : k < 5
      · have hkk : (k : Int) < 5 := by omega
        have hc1 := hasO_w hM hk
        have hc2 := hasO_b hM hk
        rcases hbk : m.okAt k with _ | _
        · have hb2 := Lib.hid (validB_bad hk hbk)
          replace hbk := Lib.hid hbk
          by_cases h1 : m.sw k < 0
          · go_wp2_with fail
            go_ret
            exact ⟨ret_bool hb2.out.symm, hb⟩
          by_cases h2 : 4 < m.sw k
          · go_wp2_with fail
            go_ret
            exact ⟨ret_bool hb2.out.symm, hb⟩
          by_cases h3 : m.sb k < 0
          · go_wp2_with fail
            go_ret
            exact ⟨ret_bool hb2.out.symm, hb⟩
          by_cases h4 : 4 < m.sb k
          · go_wp2_with fail
            go_ret
            exact ⟨ret_bool hb2.out.symm, hb⟩
          exfalso
          have := hbk.out
          simp [Men.okAt] at this
          omega
        · have h2 := okAt_bounds hbk
          replace hbk := Lib.hid hbk
          go_wp2_with fail
          go_roundg (gk - 1)
          case measure => omega
          case rel => exact ⟨k + 1, by omega, by go_num, hb, hM, Lib.hid (fun j hj => by
            by_cases hjk : j < k
            · exact hok.out j hjk
            · obtain rfl : j = k := by omega
              exact hbk.out)⟩
      · obtain rfl : k = 5 := by omega
        have hm : menOk m = true := (menOk_iff m).2 (fun j hj => hok.out j hj)
        replace hm := Lib.hid hm
        have hc := hM.cells
        have hu := upto_bd hm.out (k := 5) (by omega)
        go_wp2_with fail
        refine (pieces_any m _ hm.out).mono ?_
        rintro e w2 ⟨rfl, hb2⟩
        have hb := below_call hb hb.size hb2
        have hc := (hM.call hb2).cells
        clear hb2 hM
        by_cases h4 : m.upto 5 ≤ 4
        · by_cases h5 : m.w0 = 0
          · have h5' : (m.w0 == 0) = true := by simp [h5]
            replace h5 := Lib.hid h5
            go_wp2_with fail
            go_ret
            exact ⟨ret_bool (by simp [validB, hs.out, hm.out, h4, pawnB, h5.out]), hb⟩
          · have h5' : (m.w0 == 0) = false := by simp [h5]
            by_cases h6 : m.b0 = 0
            · have h6' : (m.b0 == 0) = true := by simp [h6]
              replace h6 := Lib.hid h6
              go_wp2_with fail
              go_ret
              exact ⟨ret_bool (by simp [validB, hs.out, hm.out, h4, pawnB, h5, h6.out]), hb⟩
            · have h6' : (m.b0 == 0) = false := by simp [h6]
              go_wp2_with fail
              go_ret
              exact ⟨ret_bool (by simp [validB, hs.out, hm.out, h4, pawnB, h5, h6]), hb⟩
        · go_wp2_with fail
          go_ret
          exact ⟨ret_bool (by have h4' : decide (m.upto 5 ≤ 4) = false := decide_eq_false (by omega); simp [validB, h4']), hb⟩
end Go.Proofs.Ytddkhnnpeonbgaa
namespace Go.Proofs.Ytddkhnnpeonbgaa
open Go.RowKit

abbrev five5 (g : Nat → Int) : List Value := [.int .i64 (g 0), .int .i64 (g 1), .int .i64 (g 2), .int .i64 (g 3), .int .i64 (g 4)]

theorem side_any2 (g : Nat → Int) (hg : ∀ j, j < 5 → 0 ≤ g j ∧ g j ≤ 4) (w : World) : Calls Try.prog 44 #[.agg (five5 g).toArray] w fun e w' => e = .returned (.string (str (sideL g))) ∧ Below w.heap.size w w' := by
  have hb0 := below_box w (.cells (five5 g).toArray 24)
  have hM0 : HasO (w.alloc (.cells (five5 g).toArray 24)) w.heap.size (.cells (five5 g).toArray 24 (0, 0)) := HasO.new _ _
  replace hg := Lib.hid hg
  go_enter Try.func44, Try.ntmps44
  go_wp2_with fail
  go_loopg [3, 4] 5 (fun q s i wr => ∃ j, q + j = 5 ∧ s = .string (str (sideN g j)) ∧ i = .int .i64 (4 - (j : Int)) ∧ Below w.heap.size w wr ∧ HasO wr w.heap.size (.cells (five5 g).toArray 24 (0, 0)))
  case atStart => exact ⟨0, rfl, rfl, rfl, hb0, hM0⟩
  case round =>
    clear hM0 hb0
    obtain ⟨j, hq, rfl, rfl, hb, hM⟩ := hrel
    obtain ⟨g1, hg1⟩ : ∃ x, x = gk := ⟨_, rfl⟩
    subst hg1
    by_cases hj : j < 5
    · have hjj : (j : Int) < 5 := by omega
      have hc := hM.cells (4 - j)
      have hv : (five5 g).toArray[4 - j]? = some (.int .i64 (g (4 - j))) := by rcases five hj with rfl | rfl | rfl | rfl | rfl <;> rfl
      rw [hv] at hc
      go_wp2_with fail
      go_loopg [3, 5] 4 (fun q s i wr => ∃ k : Nat, q + k = 4 ∧ s = .string (str (sideN g j ++ List.replicate k (pnL[4 - j]?.getD 0))) ∧ i = .int .i64 (k : Int) ∧ (k : Int) ≤ g (4 - j) ∧ Below w.heap.size w wr ∧ HasO wr w.heap.size (.cells (five5 g).toArray 24 (0, 0)))
      case atStart => exact ⟨0, rfl, by simp, rfl, (hg.out _ (by omega)).1, hb, hM⟩
      case round =>
        clear hb hM hc
        obtain ⟨k, hq2, rfl, rfl, hkg, hb, hM⟩ := hrel
        have hc := hM.cells (4 - j)
        rw [hv] at hc
        have hgb := hg.out (4 - j) (by omega)
        by_cases hk : (k : Int) < g (4 - j)
        · have hl : (str (sideN g j ++ List.replicate k (pnL[4 - j]?.getD 0))).size ≤ 100 := by
            have := sideN_len hg.out (j := j) (by omega)
            rw [str_size]; simp; omega
          have hst := Lib.hid (sideN_step (sideN g j) k (i := 4 - j) (by omega))
          go_wp2_with fail
          go_roundg (gk - 1)
          case measure => omega
          case rel => exact ⟨k + 1, by omega, by rw [hst.out], by go_num, by omega, hb, hM⟩
        · go_wp2_with fail
          have e : sideN g j ++ List.replicate k (pnL[4 - j]?.getD 0) = sideN g (j + 1) := by
            rw [show k = (g (4 - j)).toNat by omega]; rfl
          go_roundg (g1 - 1)
          case measure => omega
          case rel => exact ⟨j + 1, by omega, by rw [e], by go_num, hb, hM⟩
    · obtain rfl : j = 5 := by omega
      go_wp2_with fail
      go_ret
      exact ⟨rfl, hb⟩
end Go.Proofs.Ytddkhnnpeonbgaa
