import Derived.Test.YtddkhnnpeonbgaaProg
import Derived.Test.YtddkhnnpeonbgaaB1
import Derived.Test.YtddkhnnpeonbgaaK1
import Derived.WalkKit
import Derived.Deep.QuietTactic
import Derived.BigQuiet
import Derived.WalkLawsBesides
import Derived.WalkSpells
import Derived.Outline
import Derived.Lib.Hide
import Derived.LoopTactic
import Derived.Deep.LoopGhost
namespace Go.Proofs.Ytddkhnnpeonbgaa
open Go.RowKit

theorem side_any (n : Int) (w : World) : Calls Try.prog 74 #[.int .i64 n] w fun e w' => e = .returned (.bool (sideB n)) ∧ w = w' := by
  go_enter Try.func74, Try.ntmps74
  go_wp2
  all_goals (go_ret; refine ⟨?_, rfl⟩; simp [sideB, *])
  omega
theorem side_t (n : Int) (w : World) (h : sideB n = true) : Calls Try.prog 74 #[.int .i64 n] w fun e w' => e = .returned (.bool true) ∧ w = w' := 
  (side_any n w).mono fun e w' ⟨h1, h2⟩ => ⟨by rw [h1, h], h2⟩
theorem side_f (n : Int) (w : World) (h : sideB n = false) : Calls Try.prog 74 #[.int .i64 n] w fun e w' => e = .returned (.bool false) ∧ w = w' := 
  (side_any n w).mono fun e w' ⟨h1, h2⟩ => ⟨by rw [h1, h], h2⟩

theorem validSize_any (f r : Int) (w : World) : Calls Try.prog 62 #[.agg #[.int .i64 f, .int .i64 r]] w fun e w' => e = .returned (.bool (sizeB f r)) ∧ Below w.heap.size w w' := by
  go_enter Try.func62, Try.ntmps62
  rcases h : sideB f with _ | _
  · go_wp2_with fail
    refine (side_f _ _ h).mono ?_
    rintro e w' ⟨rfl, rfl⟩
    go_wp2_with fail
    go_ret
    exact ⟨by simp [sizeB, h], below_box _ _⟩
  · go_wp2_with fail
    refine (side_t _ _ h).mono ?_
    rintro e w' ⟨rfl, rfl⟩
    go_wp2_with fail
    refine (side_any _ _).mono ?_
    rintro e w' ⟨rfl, rfl⟩
    go_wp2_with fail
    go_ret
    exact ⟨by simp [sizeB, h], below_box _ _⟩

theorem size_any (f r : Int) (w : World) : Calls Try.prog 42 #[.agg #[.int .i64 f, .int .i64 r]] w fun e w' => e = .returned (.bool (sizeB f r)) ∧ Below w.heap.size w w' := by
  go_enter Try.func42, Try.ntmps42
  go_wp2
  all_goals (go_ret; refine ⟨?_, below_box _ _⟩; simp [sizeB, sideB, *] <;> omega)

theorem next_pn (w : World) (b k n : Nat) (hb : w.heap.size = b) (hk : k < 5) (ty : TypeId) :
   ∃ c, (Instr.next (.pointer (some ⟨b, 0, none⟩)) true ty).run Try.prog ((w.iter PN k).drewN n) =
      .ok (.tuple #[.bool true, .int .i64 k, .int .i32 c]) ((w.iter PN (k + 1)).drewN n) := by
  subst hb
  have h1 : k < PN.size := hk
  have ha : (PN[k]'h1).toNat < 128 := by
    rcases five hk with rfl | rfl | rfl | rfl | rfl <;> decide +revert
  have := run_next_ascii (P := Try.prog) (w.drewN n) PN k ty h1 ha
  exact ⟨_, this⟩
theorem next_pn_end (w : World) (b n : Nat) (hb : w.heap.size = b) (ty : TypeId) :
   (Instr.next (.pointer (some ⟨b, 0, none⟩)) true ty).run Try.prog ((w.iter PN 5).drewN n) =
      .ok (.tuple #[.bool false]) ((w.iter PN 5).drewN n) := by
  subst hb
  exact run_next_end (P := Try.prog) (w.drewN n) PN 5 ty (by decide)

theorem men_cell (m : Men) (w : World) (k : Nat) (j : Nat) : ((w.alloc (Obj.cells m.cs.toArray 26)).iter PN k).cell? ⟨w.heap.size, j, none⟩ = m.cs[j]? := by
  unfold World.iter
  rw [World.cell?_alloc_past _ _ _ (by simp), World.cell?_alloc_at _ _ _ _ rfl]
  simp
theorem men_cell_w (m : Men) (w : World) (k : Nat) {j : Nat} (hj : j < 5) : ((w.alloc (Obj.cells m.cs.toArray 26)).iter PN k).cell? ⟨w.heap.size, 2 + j, none⟩ = some (.int .i64 (m.sw j)) := by
  rw [men_cell, Men.cs_w _ hj]
theorem men_cell_b (m : Men) (w : World) (k : Nat) {j : Nat} (hj : j < 5) : ((w.alloc (Obj.cells m.cs.toArray 26)).iter PN k).cell? ⟨w.heap.size, 7 + j, none⟩ = some (.int .i64 (m.sb j)) := by
  rw [men_cell, Men.cs_b _ hj]
theorem men_any (m : Men) (w : World) (hm : menOk m = true) : Calls Try.prog 63 #[.agg m.cs.toArray] w fun e w' => e = .returned (.int .i64 (m.upto 5)) ∧ Below w.heap.size w w' := by
  replace hm := Lib.hid hm
  go_enter Try.func63, Try.ntmps63
  go_wp2_with fail
  go_loopg [3] 5 (fun g n wr => ∃ k d, g + k = 5 ∧ wr = ((w.alloc (.cells m.cs.toArray 26)).iter PN k).drewN d ∧ n = .int .i64 (m.upto k))
  case atStart => exact ⟨0, 0, rfl, rfl, rfl⟩
  case round =>
    obtain ⟨k, d, hg, rfl, rfl⟩ := hrel
    by_cases hk : k < 5
    · obtain ⟨c, hn⟩ := next_pn (w.alloc (.cells m.cs.toArray 26)) (w.heap.size + 1) k d (by simp) hk 0
      have hw1 := men_cell_w m w (k+1) hk
      have hw2 := men_cell_b m w (k+1) hk
      have hk1 : (k : Int) < 5 := by omega
      have h1 := upto_bd hm.out (k := k) (by omega)
      have h2 := menOk_at hm.out hk
      go_wp2_with fail
      go_quiet (fail)
      go_wp2_with fail
      go_roundg (gk - 1)
      case measure => omega
      case rel => exact ⟨k+1, _, by omega, World.drewN_drewN .., rfl⟩
    · obtain rfl : k = 5 := by omega
      have hn := next_pn_end (w.alloc (.cells m.cs.toArray 26)) (w.heap.size + 1) d (by simp) 0
      go_wp2_with fail
      go_ret
      exact ⟨rfl, below_iter _ _ _ _ _⟩

theorem validB_bad {m : Men} {k : Nat} (hk : k < 5) (h : m.okAt k = false) : validB m = false := by
  simp [validB, menOk_false m hk h]

theorem valid_any (m : Men) (w : World) : Calls Try.prog 52 #[.agg m.cs.toArray] w fun e w' => e = .returned (.bool (validB m)) ∧ Below w.heap.size w w' := by
  go_enter Try.func52, Try.ntmps52
  go_wp2_with fail
  go_loopg [3] 5 (fun g n wr => ∃ k d, g + k = 5 ∧ wr = ((w.alloc (.cells m.cs.toArray 26)).iter PN k).drewN d ∧ (∀ j, j < k → Hid (m.okAt j = true)))
  case atStart => exact ⟨0, 0, rfl, rfl, fun j h => by omega⟩
  case round =>
    obtain ⟨k, d, hg, rfl, hok⟩ := hrel
    replace hok := Lib.hid hok
    by_cases hk : k < 5
    · obtain ⟨c, hn⟩ := next_pn (w.alloc (.cells m.cs.toArray 26)) (w.heap.size + 1) k d (by simp) hk 0
      have hw1 := men_cell_w m w (k+1) hk
      have hw2 := men_cell_b m w (k+1) hk
      have hk1 : (k : Int) < 5 := by omega
      rcases hb : m.okAt k with _ | _
      · have hb2 := Lib.hid (validB_bad hk hb)
        replace hb := Lib.hid hb
        by_cases h1 : m.sw k < 0
        · go_wp2_with fail
          go_ret
          exact ⟨ret_bool hb2.out.symm, below_iter _ _ _ _ _⟩
        by_cases h2 : 4 < m.sw k
        · go_wp2_with fail
          go_ret
          exact ⟨ret_bool hb2.out.symm, below_iter _ _ _ _ _⟩
        by_cases h3 : m.sb k < 0
        · go_wp2_with fail
          go_ret
          exact ⟨ret_bool hb2.out.symm, below_iter _ _ _ _ _⟩
        by_cases h4 : 4 < m.sb k
        · go_wp2_with fail
          go_ret
          exact ⟨ret_bool hb2.out.symm, below_iter _ _ _ _ _⟩
        exfalso
        have := hb.out
        simp [Men.okAt] at this
        omega
      · have h2 := okAt_bounds hb
        replace hb := Lib.hid hb
        go_wp2_with fail
        go_roundg (gk - 1)
        case measure => omega
        case rel => exact ⟨k+1, d, by omega, rfl, fun j hj => by
          by_cases hjk : j < k
          · exact hok.out j hjk
          · obtain rfl : j = k := by omega
            exact hb⟩
    · obtain rfl : k = 5 := by omega
      have hn := next_pn_end (w.alloc (.cells m.cs.toArray 26)) (w.heap.size + 1) d (by simp) 0
      have hm : menOk m = true := (menOk_iff m).2 (fun j hj => hok.out j hj)
      replace hm := Lib.hid hm
      have c0 := men_cell m w 5
      have hbase := below_iter w (.cells m.cs.toArray 26) PN 5 d
      rcases hs : sizeB m.f m.r with _ | _
      all_goals
        go_wp2_with fail
        refine (validSize_any _ _ _).mono ?_
        rintro e w1 ⟨rfl, hb1⟩
        have hb0 : Below w.heap.size w w1 := hbase.trans (hb1.mono hbase.size)
        have hz1 : w.heap.size + 2 ≤ w1.heap.size := by have := hb1.size; simpa using this
        have hM : ∀ j, w1.cell? ⟨w.heap.size, j, none⟩ = m.cs[j]? := fun j => (hb1.cell (by simp; omega)).trans (c0 j)
        clear c0 hn hb1 hbase
      · go_wp2_with fail
        go_ret
        exact ⟨ret_bool (by simp [validB, hs]), hb0⟩
      · have hu := upto_bd hm.out (k := 5) (by omega)
        go_wp2_with fail
        refine (men_any m _ hm.out).mono ?_
        rintro e w2 ⟨rfl, hb2⟩
        have hb0 := hb0.trans (hb2.mono hb0.size)
        replace hM : ∀ j, w2.cell? ⟨w.heap.size, j, none⟩ = m.cs[j]? := fun j => (hb2.cell (by simp; omega)).trans (hM j)
        clear hb2
        by_cases h4 : m.upto 5 ≤ 4
        · by_cases h5 : m.w0 = 0
          · have h5' : (m.w0 == 0) = true := by simp [h5]
            replace h5 := Lib.hid h5
            go_wp2_with fail
            go_ret
            exact ⟨ret_bool (by simp [validB, hs, hm.out, h4, pawnB, h5.out]), hb0⟩
          · have h5' : (m.w0 == 0) = false := by simp [h5]
            by_cases h6 : m.b0 = 0
            · have h6' : (m.b0 == 0) = true := by simp [h6]
              replace h6 := Lib.hid h6
              go_wp2_with fail
              go_ret
              exact ⟨ret_bool (by simp [validB, hs, hm.out, h4, pawnB, h5, h6.out]), hb0⟩
            · have h6' : (m.b0 == 0) = false := by simp [h6]
              go_wp2_with fail
              go_ret
              exact ⟨ret_bool (by simp [validB, hs, hm.out, h4, pawnB, h5, h6]), hb0⟩
        · go_wp2_with fail
          go_ret
          exact ⟨ret_bool (by have h4' : decide (m.upto 5 ≤ 4) = false := decide_eq_false (by omega); simp [validB, h4']), hb0⟩
end Go.Proofs.Ytddkhnnpeonbgaa
