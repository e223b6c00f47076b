import Derived.Test.YtddkhnnpeonbgaaW15
import Derived.Test.YtddkhnnpeonbgaaK6
namespace Go.Proofs.Ytddkhnnpeonbgaa
open Go.RowKit

def vv1 (m : Men) (B : Nat) : Nat → Value
  | 0 => .pointer (some ⟨B, 0, none⟩) | 1 => .agg m.cs.toArray | 2 => .bool false | 3 => .bool true | 4 => .bool true | 9 => .bool true | 10 => .bool true | 18 => .bool true | _ => undef
def vv2 (m : Men) (B : Nat) : Nat → Value
  | 0 => .pointer (some ⟨B, 0, none⟩) | 1 => .agg m.cs.toArray | 2 => .bool true | 3 => .bool false | 4 => .bool false
  | 5 => .pointer (some ⟨B, 0, none⟩) | 6 => .agg m.cs.toArray | 7 => .int .i64 (countN m) | 8 => .bool true | 9 => .bool true | 10 => .bool true | 18 => .bool true | _ => undef
def vv3 (m : Men) (B : Nat) (p : Option Addr) (n c : Nat) (b : Bool) : Nat → Value
  | 0 => .pointer (some ⟨B, 0, none⟩) | 1 => .agg m.cs.toArray | 2 => .bool true | 3 => .bool false | 4 => .bool false
  | 5 => .pointer (some ⟨B, 0, none⟩) | 6 => .agg m.cs.toArray | 7 => .int .i64 (countN m) | 8 => .bool false | 9 => .bool false | 10 => .bool false
  | 11 => .pointer (some ⟨B, 12, none⟩) | 12 => .slice p n c | 13 => .int .i64 n | 14 => .pointer (some ⟨B, 0, none⟩) | 15 => .agg m.cs.toArray | 16 => .int .i64 (countN m) | 17 => .bool b | 18 => .bool b | _ => undef

set_option maxRecDepth 100000 in
set_option maxHeartbeats 1000000 in
theorem refTab_any (m : Men) (p : Option Addr) (c : Nat) (xs : List Int) (w : World) (hx : Arr .i16 w p xs) (hl : xs.length ≤ 1000000000) :
    Calls Try.prog 9 #[.agg (tabCs m p xs.length c).toArray] w fun e w' => e = .returned (.bool (tabOk m xs)) ∧ Below w.heap.size w w' := by
  have hT : HasO (w.alloc (.cells (tabCs m p xs.length c).toArray 29)) w.heap.size (.cells (tabCs m p xs.length c).toArray 29 (0, 0)) := HasO.new _ _
  have hb0 := below_box w (.cells (tabCs m p xs.length c).toArray 29)
  have hx0 := hx.call hb0
  go_enter Try.func9, Try.ntmps9
  go_wp2_with fail
  have hC0 : Loc w w.heap.size (.cells (tabCs m p xs.length c).toArray 29 (0, 0)) (w.alloc (.cells (tabCs m p xs.length c).toArray 29)) := ⟨hb0, hT⟩
  rcases hv : validB m with _ | _
  · have ht : Hid (tabOk m xs = false) := Lib.hid (by simp [tabOk, hv])
    refine wp_region_valsL (by kernel_rfl) (by kernel_rfl) [some 4, some 5, some 6, some 7, some 8, some 9, some 10, some 11, some 12, some 13, some 14, some 15, some 16, some 17, some 18, some 19, some 20, some 21, some 22] (by rfl) (by rfl)
      (vv1 m w.heap.size) (Loc w w.heap.size (.cells (tabCs m p xs.length c).toArray 29 (0, 0))) hC0.drew ?hstep ?hend
    case hstep =>
      intro i o f w1 ho hi hC hf K hK
      have hc := hC.2.cells
      have hi : i < 19 := hi
      rcases (by omega : i = 0 ∨ i = 1 ∨ i = 2 ∨ i = 3 ∨ i = 4 ∨ i = 5 ∨ i = 6 ∨ i = 7 ∨ i = 8 ∨ i = 9 ∨ i = 10 ∨ i = 11 ∨ i = 12 ∨ i = 13 ∨ i = 14 ∨ i = 15 ∨ i = 16 ∨ i = 17 ∨ i = 18) with rfl | rfl | rfl | rfl | rfl | rfl | rfl | rfl | rfl | rfl | rfl | rfl | rfl | rfl | rfl | rfl | rfl | rfl | rfl
      all_goals (injection ho with ho; subst ho)
      all_goals (simp [Region.binds] at hf)
      all_goals (simp only [putL, vv1] at hK hf ⊢)
      all_goals (try simp only [hf] at hK ⊢)
      all_goals (revert hK)
      all_goals (try go_simp)
      all_goals (try (intro hK; exact hK _ hC))
      case inr.inr.inl =>
        intro hK
        refine (refValid_any m _).mono ?_
        rintro e w' ⟨rfl, hb⟩
        go_simp
        exact hK _ (hC.call hb)
    case hend =>
      intro w1 hC
      simp only [putL, vv1]
      go_simp
      go_wp2_with fail
      go_ret
      exact ⟨ret_bool (by rw [ht.out]), hC.1⟩
  · have hV := Lib.hid hv
    by_cases h1 : countN m ≤ 262144
    · have h1' : ¬ (262144 : Int) < countN m := by omega
      have hs : Hid (tabOk m xs = (decide (countN m = xs.length) && !(xs.any badE))) := Lib.hid (by simp [tabOk, hv, h1])
      refine wp_region_valsL (by kernel_rfl) (by kernel_rfl) [some 4, some 5, some 6, some 7, some 8, some 9, some 10, some 11, some 12, some 13, some 14, some 15, some 16, some 17, some 18, some 19, some 20, some 21, some 22] (by rfl) (by rfl)
        (vv3 m w.heap.size p xs.length c (decide ((xs.length : Int) ≠ (countN m : Int)))) (Loc w w.heap.size (.cells (tabCs m p xs.length c).toArray 29 (0, 0))) hC0.drew ?hstep ?hend
      case hstep =>
        intro i o f w1 ho hi hC hf K hK
        have hc := hC.2.cells
        have hi : i < 19 := hi
        rcases (by omega : i = 0 ∨ i = 1 ∨ i = 2 ∨ i = 3 ∨ i = 4 ∨ i = 5 ∨ i = 6 ∨ i = 7 ∨ i = 8 ∨ i = 9 ∨ i = 10 ∨ i = 11 ∨ i = 12 ∨ i = 13 ∨ i = 14 ∨ i = 15 ∨ i = 16 ∨ i = 17 ∨ i = 18) with rfl | rfl | rfl | rfl | rfl | rfl | rfl | rfl | rfl | rfl | rfl | rfl | rfl | rfl | rfl | rfl | rfl | rfl | rfl
        all_goals (injection ho with ho; subst ho)
        all_goals (simp [Region.binds] at hf)
        all_goals (simp only [putL, vv3] at hK hf ⊢)
        all_goals (try simp only [hf] at hK ⊢)
        all_goals (revert hK)
        all_goals (try go_simp)
        all_goals (try (intro hK; exact hK _ hC))
        case inr.inr.inl =>
          intro hK
          refine (refValid_any m _).mono ?_
          rintro e w' ⟨rfl, hb⟩
          go_simp
          exact hK _ (hC.call hb)
        case inr.inr.inr.inr.inr.inr.inr.inl =>
          intro hK
          refine (refCount_any m _ hV).mono ?_
          rintro e w' ⟨rfl, hb⟩
          go_simp
          exact hK _ (hC.call hb)
        case inr.inr.inr.inr.inr.inr.inr.inr.inr.inr.inr.inr.inr.inr.inr.inr.inl =>
          intro hK
          refine (refCount_any m _ hV).mono ?_
          rintro e w' ⟨rfl, hb⟩
          go_simp
          exact hK _ (hC.call hb)
      case hend =>
        intro w1 hC
        by_cases h2 : (xs.length : Int) = (countN m : Int)
        · have hdb : decide ((xs.length : Int) ≠ (countN m : Int)) = false := by simp [h2]
          rw [hdb]
          have ht : Hid (tabOk m xs = !(xs.any badE)) := Lib.hid (by rw [hs.out, show decide (countN m = xs.length) = true by simp; omega]; simp)
          simp only [putL, vv3]
          go_simp
          have hx1 := hx.call hC.1
          have hc := hC.2.cells
          have hlt1 := hC.2.lt
          replace h2 := Lib.hid h2
          clear hdb hs
          go_wp2_with fail
          go_loopg [3] 1000000001 (fun q iv wr => ∃ i : Nat, q + i = 1000000001 ∧ i ≤ xs.length ∧ iv = .int .i64 i ∧ Loc w w.heap.size (.cells (tabCs m p xs.length c).toArray 29 (0, 0)) wr ∧ (xs.take i).any badE = false)
          case atStart => exact ⟨0, rfl, Nat.zero_le _, rfl, hC, rfl⟩
          case round =>
            clear hc hx1 hlt1 hC
            obtain ⟨i, hq, hi, rfl, hC, ha⟩ := hrel
            replace ha := Lib.hid ha
            have hc := hC.2.cells
            have hlt1 := hC.2.lt
            by_cases hlt : i < xs.length
            · have hii : (i : Int) < xs.length := by omega
              obtain ⟨b, o, rfl, hbl, hcc⟩ := (hx.call hC.1).at hlt
              have hci := hcc i hlt
              have hget : xs[i]?.getD 0 = xs[i] := by simp [hlt]
              obtain ⟨x, hxv⟩ : ∃ x, x = xs[i]?.getD 0 := ⟨_, rfl⟩
              rw [← hxv] at hci hget
              replace hget := Lib.hid hget
              clear hcc hxv
              by_cases hx0 : x < 0
              · have hbd : Hid (xs.any badE = true) := Lib.hid (by rw [List.any_eq_true]; exact ⟨xs[i], List.getElem_mem hlt, by rw [← hget.out]; simp [badE, hx0]⟩)
                go_wp2_with fail
                go_ret
                exact ⟨ret_bool (by rw [ht.out, hbd.out]; rfl), hC.1⟩
              · by_cases hx2 : 10002 < x
                · have hbd : Hid (xs.any badE = true) := Lib.hid (by rw [List.any_eq_true]; exact ⟨xs[i], List.getElem_mem hlt, by rw [← hget.out]; simp [badE, hx2]⟩)
                  go_wp2_with fail
                  go_ret
                  exact ⟨ret_bool (by rw [ht.out, hbd.out]; rfl), hC.1⟩
                · have hbd : Hid (badE x = false) := Lib.hid (by simp [badE, hx0, hx2])
                  go_wp2_with fail
                  go_roundg (gk - 1)
                  case measure => omega
                  case rel => exact ⟨i + 1, by omega, by omega, by go_num, hC, by rw [List.take_succ_eq_append_getElem hlt, List.any_append, ha.out]; simp [← hget.out, hbd.out]⟩
            · have hii : ¬ (i : Int) < xs.length := by omega
              go_wp2_with fail
              go_ret
              refine ⟨ret_bool ?_, hC.1⟩
              have ha := ha.out
              rw [List.take_of_length_le (by omega)] at ha
              rw [ht.out, ha]; rfl
        · have hdb : decide ((xs.length : Int) ≠ (countN m : Int)) = true := by simp [h2]
          rw [hdb]
          have ht : Hid (tabOk m xs = false) := Lib.hid (by rw [hs.out, show decide (countN m = xs.length) = false by simp; omega]; simp)
          simp only [putL, vv3]
          go_simp
          go_wp2_with fail
          go_ret
          exact ⟨ret_bool (by rw [ht.out]), hC.1⟩
    · have h1' : (262144 : Int) < countN m := by omega
      have ht : Hid (tabOk m xs = false) := Lib.hid (by simp [tabOk, hv, h1])
      refine wp_region_valsL (by kernel_rfl) (by kernel_rfl) [some 4, some 5, some 6, some 7, some 8, some 9, some 10, some 11, some 12, some 13, some 14, some 15, some 16, some 17, some 18, some 19, some 20, some 21, some 22] (by rfl) (by rfl)
        (vv2 m w.heap.size) (Loc w w.heap.size (.cells (tabCs m p xs.length c).toArray 29 (0, 0))) hC0.drew ?hstep ?hend
      case hstep =>
        intro i o f w1 ho hi hC hf K hK
        have hc := hC.2.cells
        have hi : i < 19 := hi
        rcases (by omega : i = 0 ∨ i = 1 ∨ i = 2 ∨ i = 3 ∨ i = 4 ∨ i = 5 ∨ i = 6 ∨ i = 7 ∨ i = 8 ∨ i = 9 ∨ i = 10 ∨ i = 11 ∨ i = 12 ∨ i = 13 ∨ i = 14 ∨ i = 15 ∨ i = 16 ∨ i = 17 ∨ i = 18) with rfl | rfl | rfl | rfl | rfl | rfl | rfl | rfl | rfl | rfl | rfl | rfl | rfl | rfl | rfl | rfl | rfl | rfl | rfl
        all_goals (injection ho with ho; subst ho)
        all_goals (simp [Region.binds] at hf)
        all_goals (simp only [putL, vv2] at hK hf ⊢)
        all_goals (try simp only [hf] at hK ⊢)
        all_goals (revert hK)
        all_goals (try go_simp)
        all_goals (try (intro hK; exact hK _ hC))
        case inr.inr.inl =>
          intro hK
          refine (refValid_any m _).mono ?_
          rintro e w' ⟨rfl, hb⟩
          go_simp
          exact hK _ (hC.call hb)
        case inr.inr.inr.inr.inr.inr.inr.inl =>
          intro hK
          refine (refCount_any m _ hV).mono ?_
          rintro e w' ⟨rfl, hb⟩
          go_simp
          exact hK _ (hC.call hb)
      case hend =>
        intro w1 hC
        simp only [putL, vv2]
        go_simp
        go_wp2_with fail
        go_ret
        exact ⟨ret_bool (by rw [ht.out]), hC.1⟩
end Go.Proofs.Ytddkhnnpeonbgaa
