import Derived.Test.YtddkhnnpeonbgaaW15
import Derived.Test.YtddkhnnpeonbgaaK5
import Derived.Laws.StructEq
import Derived.ChangeKeysEq
namespace Go.Proofs.Ytddkhnnpeonbgaa
open Go.RowKit

def vv1 (m : Men) (B : Nat) : Nat → Value
  | 0 => .pointer (some ⟨B, 0, none⟩) | 1 => .agg m.cs.toArray | 2 => .bool false | 3 => .bool true | 4 => .bool true | 9 => .bool true | 10 => .bool true | 18 => .bool true | _ => undef
def vv2 (m : Men) (B : Nat) : Nat → Value
  | 0 => .pointer (some ⟨B, 0, none⟩) | 1 => .agg m.cs.toArray | 2 => .bool true | 3 => .bool false | 4 => .bool false
  | 5 => .pointer (some ⟨B, 0, none⟩) | 6 => .agg m.cs.toArray | 7 => .int .i64 (countN m) | 8 => .bool true | 9 => .bool true | 10 => .bool true | 18 => .bool true | _ => undef
def vv3 (m : Men) (B : Nat) (p : Option Addr) (n c : Nat) (b : Bool) : Nat → Value
  | 0 => .pointer (some ⟨B, 0, none⟩) | 1 => .agg m.cs.toArray | 2 => .bool true | 3 => .bool false | 4 => .bool false
  | 5 => .pointer (some ⟨B, 0, none⟩) | 6 => .agg m.cs.toArray | 7 => .int .i64 (countN m) | 8 => .bool false | 9 => .bool false | 10 => .bool false
  | 11 => .pointer (some ⟨B, 12, none⟩) | 12 => .slice p n c | 13 => .int .i64 n | 14 => .pointer (some ⟨B, 0, none⟩) | 15 => .agg m.cs.toArray | 16 => .int .i64 (countN m) | 17 => .bool b | 18 => .bool b | _ => undef

set_option maxRecDepth 100000 in
set_option maxHeartbeats 1000000 in
theorem refTab_any (m : Men) (p : Option Addr) (c : Nat) (xs : List Int) (w : World) (hx : Arr .i16 w p xs) (hl : xs.length ≤ 1000000000) :
    Calls Try.prog 9 #[.agg (tabCs m p xs.length c).toArray] w fun e w' => e = .returned (.bool (tabOk m xs)) ∧ Below w.heap.size w w' := by
  have hT : HasO (w.alloc (.cells (tabCs m p xs.length c).toArray 29)) w.heap.size (.cells (tabCs m p xs.length c).toArray 29 (0, 0)) := HasO.new _ _
  have hb0 := below_box w (.cells (tabCs m p xs.length c).toArray 29)
  have hx0 := hx.call hb0
  go_enter Try.func9, Try.ntmps9
  go_wp2_with fail
  have hC0 : Loc w w.heap.size (.cells (tabCs m p xs.length c).toArray 29 (0, 0)) (w.alloc (.cells (tabCs m p xs.length c).toArray 29)) := ⟨hb0, hT⟩
  rcases hv : validB m with _ | _
  · have ht : Hid (tabOk m xs = false) := Lib.hid (by simp [tabOk, hv])
    refine wp_region_valsL (by kernel_rfl) (by kernel_rfl) [some 4, some 5, some 6, some 7, some 8, some 9, some 10, some 11, some 12, some 13, some 14, some 15, some 16, some 17, some 18, some 19, some 20, some 21, some 22] (by rfl) (by rfl)
      (vv1 m w.heap.size) (Loc w w.heap.size (.cells (tabCs m p xs.length c).toArray 29 (0, 0))) hC0.drew ?hstep ?hend
    case hstep =>
      intro i o f w1 ho hi hC hf K hK
      have hc := hC.2.cells
      have hi : i < 19 := hi
      rcases (by omega : i = 0 ∨ i = 1 ∨ i = 2 ∨ i = 3 ∨ i = 4 ∨ i = 5 ∨ i = 6 ∨ i = 7 ∨ i = 8 ∨ i = 9 ∨ i = 10 ∨ i = 11 ∨ i = 12 ∨ i = 13 ∨ i = 14 ∨ i = 15 ∨ i = 16 ∨ i = 17 ∨ i = 18) with rfl | rfl | rfl | rfl | rfl | rfl | rfl | rfl | rfl | rfl | rfl | rfl | rfl | rfl | rfl | rfl | rfl | rfl | rfl
      all_goals (injection ho with ho; subst ho)
      all_goals (simp [Region.binds] at hf)
      all_goals (simp only [putL, vv1] at hK hf ⊢)
      all_goals (try simp only [hf] at hK ⊢)
      all_goals (revert hK)
      all_goals (try go_simp)
      all_goals (try (intro hK; exact hK _ hC))
      case inr.inr.inl =>
        intro hK
        refine (refValid_any m _).mono ?_
        rintro e w' ⟨rfl, hb⟩
        go_simp
        exact hK _ (hC.call hb)
    case hend =>
      intro w1 hC
      simp only [putL, vv1]
      go_simp
      go_wp2_with fail
      go_ret
      exact ⟨ret_bool (by rw [ht.out]), hC.1⟩
  · have hV := Lib.hid hv
    by_cases h1 : countN m ≤ 262144
    · have h1' : ¬ (262144 : Int) < countN m := by omega
      have hs : Hid (tabOk m xs = (decide (countN m = xs.length) && !(xs.any badE))) := Lib.hid (by simp [tabOk, hv, h1])
      refine wp_region_valsL (by kernel_rfl) (by kernel_rfl) [some 4, some 5, some 6, some 7, some 8, some 9, some 10, some 11, some 12, some 13, some 14, some 15, some 16, some 17, some 18, some 19, some 20, some 21, some 22] (by rfl) (by rfl)
        (vv3 m w.heap.size p xs.length c (decide ((xs.length : Int) ≠ (countN m : Int)))) (Loc w w.heap.size (.cells (tabCs m p xs.length c).toArray 29 (0, 0))) hC0.drew ?hstep ?hend
      case hstep =>
        intro i o f w1 ho hi hC hf K hK
        have hc := hC.2.cells
        have hi : i < 19 := hi
        rcases (by omega : i = 0 ∨ i = 1 ∨ i = 2 ∨ i = 3 ∨ i = 4 ∨ i = 5 ∨ i = 6 ∨ i = 7 ∨ i = 8 ∨ i = 9 ∨ i = 10 ∨ i = 11 ∨ i = 12 ∨ i = 13 ∨ i = 14 ∨ i = 15 ∨ i = 16 ∨ i = 17 ∨ i = 18) with rfl | rfl | rfl | rfl | rfl | rfl | rfl | rfl | rfl | rfl | rfl | rfl | rfl | rfl | rfl | rfl | rfl | rfl | rfl
        all_goals (injection ho with ho; subst ho)
        all_goals (simp [Region.binds] at hf)
        all_goals (simp only [putL, vv3] at hK hf ⊢)
        all_goals (try simp only [hf] at hK ⊢)
        all_goals (revert hK)
        all_goals (try go_simp)
        all_goals (try (intro hK; exact hK _ hC))
        case inr.inr.inl =>
          intro hK
          refine (refValid_any m _).mono ?_
          rintro e w' ⟨rfl, hb⟩
          go_simp
          exact hK _ (hC.call hb)
        case inr.inr.inr.inr.inr.inr.inr.inl =>
          intro hK
          refine (refCount_any m _ hV).mono ?_
          rintro e w' ⟨rfl, hb⟩
          go_simp
          exact hK _ (hC.call hb)
        case inr.inr.inr.inr.inr.inr.inr.inr.inr.inr.inr.inr.inr.inr.inr.inr.inl =>
          intro hK
          refine (refCount_any m _ hV).mono ?_
          rintro e w' ⟨rfl, hb⟩
          go_simp
          exact hK _ (hC.call hb)
      case hend =>
        intro w1 hC
        by_cases h2 : (xs.length : Int) = (countN m : Int)
        · have hdb : decide ((xs.length : Int) ≠ (countN m : Int)) = false := by simp [h2]
          rw [hdb]
          have ht : Hid (tabOk m xs = !(xs.any badE)) := Lib.hid (by rw [hs.out, show decide (countN m = xs.length) = true by simp; omega]; simp)
          simp only [putL, vv3]
          go_simp
          have hx1 := hx.call hC.1
          have hc := hC.2.cells
          have hlt1 := hC.2.lt
          replace h2 := Lib.hid h2
          clear hdb hs
          go_wp2_with fail
          go_loopg [3] 1000000001 (fun q iv wr => ∃ i : Nat, q + i = 1000000001 ∧ i ≤ xs.length ∧ iv = .int .i64 i ∧ Loc w w.heap.size (.cells (tabCs m p xs.length c).toArray 29 (0, 0)) wr ∧ (xs.take i).any badE = false)
          case atStart => exact ⟨0, rfl, Nat.zero_le _, rfl, hC, rfl⟩
          case round =>
            clear hc hx1 hlt1 hC
            obtain ⟨i, hq, hi, rfl, hC, ha⟩ := hrel
            replace ha := Lib.hid ha
            have hc := hC.2.cells
            have hlt1 := hC.2.lt
            by_cases hlt : i < xs.length
            · have hii : (i : Int) < xs.length := by omega
              obtain ⟨b, o, rfl, hbl, hcc⟩ := (hx.call hC.1).at hlt
              have hci := hcc i hlt
              have hget : xs[i]?.getD 0 = xs[i] := by simp [hlt]
              obtain ⟨x, hxv⟩ : ∃ x, x = xs[i]?.getD 0 := ⟨_, rfl⟩
              rw [← hxv] at hci hget
              replace hget := Lib.hid hget
              clear hcc hxv
              by_cases hx0 : x < 0
              · have hbd : Hid (xs.any badE = true) := Lib.hid (by rw [List.any_eq_true]; exact ⟨xs[i], List.getElem_mem hlt, by rw [← hget.out]; simp [badE, hx0]⟩)
                go_wp2_with fail
                go_ret
                exact ⟨ret_bool (by rw [ht.out, hbd.out]; rfl), hC.1⟩
              · by_cases hx2 : 10002 < x
                · have hbd : Hid (xs.any badE = true) := Lib.hid (by rw [List.any_eq_true]; exact ⟨xs[i], List.getElem_mem hlt, by rw [← hget.out]; simp [badE, hx2]⟩)
                  go_wp2_with fail
                  go_ret
                  exact ⟨ret_bool (by rw [ht.out, hbd.out]; rfl), hC.1⟩
                · have hbd : Hid (badE x = false) := Lib.hid (by simp [badE, hx0, hx2])
                  go_wp2_with fail
                  go_roundg (gk - 1)
                  case measure => omega
                  case rel => exact ⟨i + 1, by omega, by omega, by go_num, hC, by rw [List.take_succ_eq_append_getElem hlt, List.any_append, ha.out]; simp [← hget.out, hbd.out]⟩
            · have hii : ¬ (i : Int) < xs.length := by omega
              go_wp2_with fail
              go_ret
              refine ⟨ret_bool ?_, hC.1⟩
              have ha := ha.out
              rw [List.take_of_length_le (by omega)] at ha
              rw [ht.out, ha]; rfl
        · have hdb : decide ((xs.length : Int) ≠ (countN m : Int)) = true := by simp [h2]
          rw [hdb]
          have ht : Hid (tabOk m xs = false) := Lib.hid (by rw [hs.out, show decide (countN m = xs.length) = false by simp; omega]; simp)
          simp only [putL, vv3]
          go_simp
          go_wp2_with fail
          go_ret
          exact ⟨ret_bool (by rw [ht.out]), hC.1⟩
    · have h1' : (262144 : Int) < countN m := by omega
      have ht : Hid (tabOk m xs = false) := Lib.hid (by simp [tabOk, hv, h1])
      refine wp_region_valsL (by kernel_rfl) (by kernel_rfl) [some 4, some 5, some 6, some 7, some 8, some 9, some 10, some 11, some 12, some 13, some 14, some 15, some 16, some 17, some 18, some 19, some 20, some 21, some 22] (by rfl) (by rfl)
        (vv2 m w.heap.size) (Loc w w.heap.size (.cells (tabCs m p xs.length c).toArray 29 (0, 0))) hC0.drew ?hstep ?hend
      case hstep =>
        intro i o f w1 ho hi hC hf K hK
        have hc := hC.2.cells
        have hi : i < 19 := hi
        rcases (by omega : i = 0 ∨ i = 1 ∨ i = 2 ∨ i = 3 ∨ i = 4 ∨ i = 5 ∨ i = 6 ∨ i = 7 ∨ i = 8 ∨ i = 9 ∨ i = 10 ∨ i = 11 ∨ i = 12 ∨ i = 13 ∨ i = 14 ∨ i = 15 ∨ i = 16 ∨ i = 17 ∨ i = 18) with rfl | rfl | rfl | rfl | rfl | rfl | rfl | rfl | rfl | rfl | rfl | rfl | rfl | rfl | rfl | rfl | rfl | rfl | rfl
        all_goals (injection ho with ho; subst ho)
        all_goals (simp [Region.binds] at hf)
        all_goals (simp only [putL, vv2] at hK hf ⊢)
        all_goals (try simp only [hf] at hK ⊢)
        all_goals (revert hK)
        all_goals (try go_simp)
        all_goals (try (intro hK; exact hK _ hC))
        case inr.inr.inl =>
          intro hK
          refine (refValid_any m _).mono ?_
          rintro e w' ⟨rfl, hb⟩
          go_simp
          exact hK _ (hC.call hb)
        case inr.inr.inr.inr.inr.inr.inr.inl =>
          intro hK
          refine (refCount_any m _ hV).mono ?_
          rintro e w' ⟨rfl, hb⟩
          go_simp
          exact hK _ (hC.call hb)
      case hend =>
        intro w1 hC
        simp only [putL, vv2]
        go_simp
        go_wp2_with fail
        go_ret
        exact ⟨ret_bool (by rw [ht.out]), hC.1⟩
end Go.Proofs.Ytddkhnnpeonbgaa
namespace Go.Proofs.Ytddkhnnpeonbgaa
open Go.RowKit

theorem Try.cells3 : Try.prog.cellsOf 3 = 1 := by kernel_rfl
theorem Try.has3 : (Try.prog.info? 3).isSome = true := by kernel_rfl
theorem five_eq (d : Nat) (a0 a1 a2 a3 a4 b0 b1 b2 b3 b4 : Int) (W : World) : (Op.equalIn (d + 2) 24 (.agg #[.int .i64 a0, .int .i64 a1, .int .i64 a2, .int .i64 a3, .int .i64 a4]) (.agg #[.int .i64 b0, .int .i64 b1, .int .i64 b2, .int .i64 b3, .int .i64 b4])).run Try.prog W = .ok (a0 == b0 && (a1 == b1 && (a2 == b2 && (a3 == b3 && a4 == b4)))) W := by
  obtain ⟨i, hi⟩ := Option.isSome_iff_exists.1 Try.has3
  rw [run_equalIn_array W (d + 1) _ _ Try.underlying24 hi, Try.cells3]
  rw [show List.range 5 = [0, 1, 2, 3, 4] from rfl]
  simp only [Op.eqItems, go_sem]
  simp [go_sem]
  by_cases h0 : a0 = b0 <;> by_cases h1 : a1 = b1 <;> by_cases h2 : a2 = b2 <;> by_cases h3 : a3 = b3 <;> by_cases h4 : a4 = b4 <;> simp [h0, h1, h2, h3, h4]
theorem men_eqs (m m' : Men) (W : World) : (Op.equalIn 10000 26 (.agg m.cs.toArray) (.agg m'.cs.toArray)).run Try.prog W = .ok (decide (m = m')) W := by
  have e := fun a0 a1 a2 a3 a4 b0 b1 b2 b3 b4 => five_eq 9997 a0 a1 a2 a3 a4 b0 b1 b2 b3 b4 W
  simp [go_sem, e]
  obtain ⟨f, r, w0, w1, w2, w3, w4, b0, b1, b2, b3, b4⟩ := m
  obtain ⟨f', r', w0', w1', w2', w3', w4', b0', b1', b2', b3', b4'⟩ := m'
  simp only [Men.mk.injEq]
  by_cases h0 : f = f' <;> by_cases h1 : r = r' <;> simp [h0, h1]
  clear e
  by_cases h2 : w0 = w0' <;> by_cases h3 : w1 = w1' <;> by_cases h4 : w2 = w2' <;> by_cases h5 : w3 = w3' <;> by_cases h6 : w4 = w4' <;> simp [h2, h3, h4, h5, h6]
  by_cases g2 : b0 = b0' <;> by_cases g3 : b1 = b1' <;> by_cases g4 : b2 = b2' <;> by_cases g5 : b3 = b3' <;> by_cases g6 : b4 = b4' <;> simp [g2, g3, g4, g5, g6]
theorem men_neq (m m' : Men) (W : World) : (binOp .neq 26 (.agg m.cs.toArray) (.agg m'.cs.toArray)).run Try.prog W = .ok (.bool (!decide (m = m'))) W := by
  rw [run_neq_struct, men_eqs]; rfl
theorem men_eql (m m' : Men) (W : World) : (binOp .eql 26 (.agg m.cs.toArray) (.agg m'.cs.toArray)).run Try.prog W = .ok (.bool (decide (m = m'))) W := by
  rw [run_eql_struct, men_eqs]; rfl
theorem men_guard (op : BinOp) (x y : Operand) (xs ys : Array Value) (W : World) : (eqGuard op 26 x y (.agg xs) (.agg ys)).run Try.prog W = .ok () W := run_eqGuard_agg _ op 26 x y xs ys (by kernel_rfl)
set_option maxRecDepth 100000 in
set_option maxHeartbeats 1000000 in
theorem same_any (m : Men) (p1 p2 : Option Addr) (c1 c2 : Nat) (xs : List Int) (w : World) (hx : Arr .i16 w p1 xs) (hy : Arr .i16 w p2 xs) (hl : xs.length ≤ 1000000000) :
    Calls Try.prog 8 #[.agg (tabCs m p1 xs.length c1).toArray, .agg (tabCs m p2 xs.length c2).toArray] w fun e w' => e = .returned (.bool true) ∧ Below w.heap.size w w' := by
  have hT : HasO (w.alloc (.cells (tabCs m p1 xs.length c1).toArray 29)) w.heap.size (.cells (tabCs m p1 xs.length c1).toArray 29 (0, 0)) := HasO.new _ _
  have hU : HasO ((w.alloc (.cells (tabCs m p1 xs.length c1).toArray 29)).alloc (.cells (tabCs m p2 xs.length c2).toArray 29)) (w.heap.size + 1) (.cells (tabCs m p2 xs.length c2).toArray 29 (0, 0)) := HasO.new' _ _ (by simp)
  have hT1 := hT.alloc (.cells (tabCs m p2 xs.length c2).toArray 29)
  have hb0 := (below_box w (.cells (tabCs m p1 xs.length c1).toArray 29)).alloc (by simp) (.cells (tabCs m p2 xs.length c2).toArray 29)
  have hx0 := hx.call hb0
  have hy0 := hy.call hb0
  clear hT
  go_enter Try.func8, Try.ntmps8
  have hc := hT1.cells
  have hd := hU.cells
  have hlt1 := hT1.lt
  have hlt2 := hU.lt
  have hne : ∀ W : World, (binOp .neq 26 (.agg m.cs.toArray) (.agg m.cs.toArray)).run Try.prog W = .ok (.bool false) W := fun W => by rw [men_neq]; simp
  have hgd := fun x y W => men_guard .neq x y m.cs.toArray m.cs.toArray W
  go_wp2_with fail
  clear hne hgd hc hd hlt1 hlt2
  go_loopg [5] 1000000001 (fun q iv wr => ∃ i : Nat, q + i = 1000000001 ∧ i ≤ xs.length ∧ iv = .int .i64 i ∧ Below w.heap.size w wr ∧ HasO wr w.heap.size (.cells (tabCs m p1 xs.length c1).toArray 29 (0, 0)) ∧ HasO wr (w.heap.size + 1) (.cells (tabCs m p2 xs.length c2).toArray 29 (0, 0)))
  case atStart => exact ⟨0, rfl, Nat.zero_le _, rfl, hb0, hT1, hU⟩
  case round =>
    clear hb0 hT1 hU hx0 hy0
    obtain ⟨i, hq, hi, rfl, hb, hT, hU⟩ := hrel
    have hc := hT.cells
    have hd := hU.cells
    have hlt1 := hT.lt
    have hlt2 := hU.lt
    by_cases hlt : i < xs.length
    · have hii : (i : Int) < xs.length := by omega
      obtain ⟨b, o, rfl, hbl, hcc⟩ := (hx.call hb).at hlt
      obtain ⟨b2, o2, rfl, hbl2, hdd⟩ := (hy.call hb).at hlt
      have hci := hcc i hlt
      have hdi := hdd i hlt
      obtain ⟨x, hxv⟩ : ∃ x, x = xs[i]?.getD 0 := ⟨_, rfl⟩
      rw [← hxv] at hci hdi
      clear hcc hxv hdd
      go_wp2_with fail
      go_quiet (fail)
      go_wp2_with fail
      go_roundg (gk - 1)
      case measure => omega
      case rel => exact ⟨i + 1, by omega, by omega, by go_num, below_drewN hb _, hT.drewN _, hU.drewN _⟩
    · have hii : ¬ (i : Int) < xs.length := by omega
      go_wp2_with fail
      go_ret
      exact ⟨rfl, hb⟩
end Go.Proofs.Ytddkhnnpeonbgaa
