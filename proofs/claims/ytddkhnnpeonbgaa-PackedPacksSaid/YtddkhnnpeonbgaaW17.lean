import Derived.Test.YtddkhnnpeonbgaaW16
import Derived.Laws.StructEq
import Derived.ChangeKeysEq
namespace Go.Proofs.Ytddkhnnpeonbgaa
open Go.RowKit

theorem Try.cells3 : Try.prog.cellsOf 3 = 1 := by kernel_rfl
theorem Try.has3 : (Try.prog.info? 3).isSome = true := by kernel_rfl
theorem five_eq (d : Nat) (a0 a1 a2 a3 a4 b0 b1 b2 b3 b4 : Int) (W : World) : (Op.equalIn (d + 2) 24 (.agg #[.int .i64 a0, .int .i64 a1, .int .i64 a2, .int .i64 a3, .int .i64 a4]) (.agg #[.int .i64 b0, .int .i64 b1, .int .i64 b2, .int .i64 b3, .int .i64 b4])).run Try.prog W = .ok (a0 == b0 && (a1 == b1 && (a2 == b2 && (a3 == b3 && a4 == b4)))) W := by
  obtain ⟨i, hi⟩ := Option.isSome_iff_exists.1 Try.has3
  rw [run_equalIn_array W (d + 1) _ _ Try.underlying24 hi, Try.cells3]
  rw [show List.range 5 = [0, 1, 2, 3, 4] from rfl]
  simp only [Op.eqItems, go_sem]
  simp [go_sem]
  by_cases h0 : a0 = b0 <;> by_cases h1 : a1 = b1 <;> by_cases h2 : a2 = b2 <;> by_cases h3 : a3 = b3 <;> by_cases h4 : a4 = b4 <;> simp [h0, h1, h2, h3, h4]
theorem men_eqs (m m' : Men) (W : World) : (Op.equalIn 10000 26 (.agg m.cs.toArray) (.agg m'.cs.toArray)).run Try.prog W = .ok (decide (m = m')) W := by
  have e := fun a0 a1 a2 a3 a4 b0 b1 b2 b3 b4 => five_eq 9997 a0 a1 a2 a3 a4 b0 b1 b2 b3 b4 W
  simp [go_sem, e]
  obtain ⟨f, r, w0, w1, w2, w3, w4, b0, b1, b2, b3, b4⟩ := m
  obtain ⟨f', r', w0', w1', w2', w3', w4', b0', b1', b2', b3', b4'⟩ := m'
  simp only [Men.mk.injEq]
  by_cases h0 : f = f' <;> by_cases h1 : r = r' <;> simp [h0, h1]
  clear e
  by_cases h2 : w0 = w0' <;> by_cases h3 : w1 = w1' <;> by_cases h4 : w2 = w2' <;> by_cases h5 : w3 = w3' <;> by_cases h6 : w4 = w4' <;> simp [h2, h3, h4, h5, h6]
  by_cases g2 : b0 = b0' <;> by_cases g3 : b1 = b1' <;> by_cases g4 : b2 = b2' <;> by_cases g5 : b3 = b3' <;> by_cases g6 : b4 = b4' <;> simp [g2, g3, g4, g5, g6]
theorem men_neq (m m' : Men) (W : World) : (binOp .neq 26 (.agg m.cs.toArray) (.agg m'.cs.toArray)).run Try.prog W = .ok (.bool (!decide (m = m'))) W := by
  rw [run_neq_struct, men_eqs]; rfl
theorem men_eql (m m' : Men) (W : World) : (binOp .eql 26 (.agg m.cs.toArray) (.agg m'.cs.toArray)).run Try.prog W = .ok (.bool (decide (m = m'))) W := by
  rw [run_eql_struct, men_eqs]; rfl
theorem men_guard (op : BinOp) (x y : Operand) (xs ys : Array Value) (W : World) : (eqGuard op 26 x y (.agg xs) (.agg ys)).run Try.prog W = .ok () W := run_eqGuard_agg _ op 26 x y xs ys (by kernel_rfl)
set_option maxRecDepth 100000 in
set_option maxHeartbeats 1000000 in
theorem same_any (m : Men) (p1 p2 : Option Addr) (c1 c2 : Nat) (xs : List Int) (w : World) (hx : Arr .i16 w p1 xs) (hy : Arr .i16 w p2 xs) (hl : xs.length ≤ 1000000000) :
    Calls Try.prog 8 #[.agg (tabCs m p1 xs.length c1).toArray, .agg (tabCs m p2 xs.length c2).toArray] w fun e w' => e = .returned (.bool true) ∧ Below w.heap.size w w' := by
  have hT : HasO (w.alloc (.cells (tabCs m p1 xs.length c1).toArray 29)) w.heap.size (.cells (tabCs m p1 xs.length c1).toArray 29 (0, 0)) := HasO.new _ _
  have hU : HasO ((w.alloc (.cells (tabCs m p1 xs.length c1).toArray 29)).alloc (.cells (tabCs m p2 xs.length c2).toArray 29)) (w.heap.size + 1) (.cells (tabCs m p2 xs.length c2).toArray 29 (0, 0)) := HasO.new' _ _ (by simp)
  have hT1 := hT.alloc (.cells (tabCs m p2 xs.length c2).toArray 29)
  have hb0 := (below_box w (.cells (tabCs m p1 xs.length c1).toArray 29)).alloc (by simp) (.cells (tabCs m p2 xs.length c2).toArray 29)
  have hx0 := hx.call hb0
  have hy0 := hy.call hb0
  clear hT
  go_enter Try.func8, Try.ntmps8
  have hc := hT1.cells
  have hd := hU.cells
  have hlt1 := hT1.lt
  have hlt2 := hU.lt
  have hne : ∀ W : World, (binOp .neq 26 (.agg m.cs.toArray) (.agg m.cs.toArray)).run Try.prog W = .ok (.bool false) W := fun W => by rw [men_neq]; simp
  have hgd := fun x y W => men_guard .neq x y m.cs.toArray m.cs.toArray W
  go_wp2_with fail
  clear hne hgd hc hd hlt1 hlt2
  go_loopg [5] 1000000001 (fun q iv wr => ∃ i : Nat, q + i = 1000000001 ∧ i ≤ xs.length ∧ iv = .int .i64 i ∧ Below w.heap.size w wr ∧ HasO wr w.heap.size (.cells (tabCs m p1 xs.length c1).toArray 29 (0, 0)) ∧ HasO wr (w.heap.size + 1) (.cells (tabCs m p2 xs.length c2).toArray 29 (0, 0)))
  case atStart => exact ⟨0, rfl, Nat.zero_le _, rfl, hb0, hT1, hU⟩
  case round =>
    clear hb0 hT1 hU hx0 hy0
    obtain ⟨i, hq, hi, rfl, hb, hT, hU⟩ := hrel
    have hc := hT.cells
    have hd := hU.cells
    have hlt1 := hT.lt
    have hlt2 := hU.lt
    by_cases hlt : i < xs.length
    · have hii : (i : Int) < xs.length := by omega
      obtain ⟨b, o, rfl, hbl, hcc⟩ := (hx.call hb).at hlt
      obtain ⟨b2, o2, rfl, hbl2, hdd⟩ := (hy.call hb).at hlt
      have hci := hcc i hlt
      have hdi := hdd i hlt
      obtain ⟨x, hxv⟩ : ∃ x, x = xs[i]?.getD 0 := ⟨_, rfl⟩
      rw [← hxv] at hci hdi
      clear hcc hxv hdd
      go_wp2_with fail
      go_quiet (fail)
      go_wp2_with fail
      go_roundg (gk - 1)
      case measure => omega
      case rel => exact ⟨i + 1, by omega, by omega, by go_num, below_drewN hb _, hT.drewN _, hU.drewN _⟩
    · have hii : ¬ (i : Int) < xs.length := by omega
      go_wp2_with fail
      go_ret
      exact ⟨rfl, hb⟩
end Go.Proofs.Ytddkhnnpeonbgaa
