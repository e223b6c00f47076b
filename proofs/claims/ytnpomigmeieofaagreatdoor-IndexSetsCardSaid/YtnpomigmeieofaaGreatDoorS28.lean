import Derived.Test.YtnpomigmeieofaaGreatDoorS24
import Derived.Test.YtnpomigmeieofaaGreatDoorS27
set_option maxHeartbeats 12800000
namespace Go.Proofs.YtnpomigmeieofaaGreatDoor
open Go.RowKit

theorem v1_any (f r ca pa ha fu : Int) (bl : Bool) (p : Option Addr) (c : Nat) (xs : List Int) (q : Nat) (w : World) (hq : HasO w q (.cells (posCs f r p xs.length c bl ca pa ha fu).toArray 40 (0, 0))) (hx : Arr .i8 w p xs) :
  Calls Tryz.prog 95 #[.pointer (some ⟨q, 0, none⟩)] w fun e w' => e = .returned (.bool (boardB f r xs)) ∧ Below w.heap.size w w' := by
 have h0 := hq.cells 0
 have h1 := hq.cells 1
 have h2 := hq.cells 2
 have hl := hq.lt
 go_enter Tryz.func95, Tryz.ntmps95
 go_wp2_with fail
 refine (board_any f r p c xs _ hx).mono ?_
 rintro e w2 ⟨rfl, hb2⟩
 go_wp2_with fail
 go_ret
 exact ⟨rfl, hb2⟩
theorem v2_any (f r ca pa ha fu : Int) (bl : Bool) (p : Option Addr) (c : Nat) (xs : List Int) (q : Nat) (w : World) (hq : HasO w q (.cells (posCs f r p xs.length c bl ca pa ha fu).toArray 40 (0, 0))) (hg : GlobOk w) (hx : Arr .i8 w p xs) (hl : xs.length ≤ 1000) (hcap : xs.length ≤ c) :
  Calls Tryz.prog 97 #[.pointer (some ⟨q, 0, none⟩)] w fun e w' => e = .returned (.bool (kingsB f r xs bl)) ∧ Below w.heap.size w w' := by
 have hc := hq.cells
 have hl0 := hq.lt
 go_enter Tryz.func97, Tryz.ntmps97
 go_wp2_with fail
 refine (kings_any f r ca pa ha fu bl p c xs _ hg hx hl hcap).mono ?_
 rintro e w2 ⟨rfl, hb2⟩
 go_wp2_with fail
 go_ret
 exact ⟨rfl, hb2⟩
theorem v3_any (F R : Nat) (ca pa ha fu : Int) (bl : Bool) (p : Option Addr) (c : Nat) (xs : List Int) (q : Nat) (w : World) (hq : HasO w q (.cells (posCs F R p xs.length c bl ca pa ha fu).toArray 40 (0, 0))) (hF : 3 ≤ F ∧ F ≤ 8) (hFl : F < xs.length) (hx : Arr .i8 w p xs) (hl : xs.length ≤ 1000) (hcap : xs.length ≤ c) :
  Calls Tryz.prog 99 #[.pointer (some ⟨q, 0, none⟩)] w fun e w' => e = .returned (.bool (pawnsB F xs)) ∧ Below w.heap.size w w' := by
 have hc := hq.cells
 have hl0 := hq.lt
 go_enter Tryz.func99, Tryz.ntmps99
 go_wp2_with fail
 refine (pawns_any F R ca pa ha fu bl p c xs hF hl hcap hFl _ hx).mono ?_
 rintro e w2 ⟨rfl, hb2⟩
 go_wp2_with fail
 go_ret
 exact ⟨rfl, hb2⟩
theorem v4_any (F R : Nat) (ca pa ha fu : Int) (bl : Bool) (p : Option Addr) (c : Nat) (xs : List Int) (q : Nat) (w : World) (hq : HasO w q (.cells (posCs F R p xs.length c bl ca pa ha fu).toArray 40 (0, 0))) (hlen : Hid (xs.length = F * R)) (hpos : 0 < xs.length) (hca : 0 ≤ ca ∧ ca < 256) (hg : GlobOk w) (hx : Arr .i8 w p xs) :
  Calls Tryz.prog 101 #[.pointer (some ⟨q, 0, none⟩)] w fun e w' => e = .returned (.bool (cstB F R xs ca)) ∧ Below w.heap.size w w' := by
 have hc := hq.cells
 have hl0 := hq.lt
 go_enter Tryz.func101, Tryz.ntmps101
 go_wp2_with fail
 refine (castles_any F R ca pa ha fu bl p c xs hlen.out hpos hca _ hg hx).mono ?_
 rintro e w2 ⟨rfl, hb2⟩
 go_wp2_with fail
 go_ret
 exact ⟨rfl, hb2⟩
theorem v5_any (F R : Nat) (ca pa ha fu : Int) (bl : Bool) (p : Option Addr) (c : Nat) (xs : List Int) (q : Nat) (w : World) (hq : HasO w q (.cells (posCs F R p xs.length c bl ca pa ha fu).toArray 40 (0, 0))) (hF : 3 ≤ F ∧ F ≤ 8) (hR : 3 ≤ R ∧ R ≤ 8) (hlen : Hid (xs.length = F * R)) (hpos : 0 < xs.length) (hx : Arr .i8 w p xs) :
  Calls Tryz.prog 103 #[.pointer (some ⟨q, 0, none⟩)] w fun e w' => e = .returned (.bool (passB F R xs bl pa ha)) ∧ Below w.heap.size w w' := by
 have hc := hq.cells
 have hl0 := hq.lt
 go_enter Tryz.func103, Tryz.ntmps103
 go_wp2_with fail
 refine (passant_any F R ca pa ha fu bl p c xs hF hR hlen.out hpos _ hx).mono ?_
 rintro e w2 ⟨rfl, hb2⟩
 go_wp2_with fail
 go_ret
 exact ⟨rfl, hb2⟩
def cntB (ha fu : Int) : Bool := decide (0 ≤ ha) && (decide (ha ≤ 10000) && (decide (1 ≤ fu) && decide (fu ≤ 10000)))
theorem v6_any (f r ca pa ha fu : Int) (bl : Bool) (p : Option Addr) (n c : Nat) (q : Nat) (w : World) (hq : HasO w q (.cells (posCs f r p n c bl ca pa ha fu).toArray 40 (0, 0))) :
  Calls Tryz.prog 105 #[.pointer (some ⟨q, 0, none⟩)] w fun e w' => e = .returned (.bool (cntB ha fu)) ∧ Below w.heap.size w w' := by
 have h0 := hq.cells 6
 have h1 := hq.cells 7
 have hl0 := hq.lt
 by_cases z1 : 0 ≤ ha <;> by_cases z2 : ha ≤ 10000 <;> by_cases z3 : 1 ≤ fu <;> by_cases z4 : fu ≤ 10000
 all_goals first
  | (exfalso; omega)
  | (go_enter Tryz.func105, Tryz.ntmps105
     go_wp2_with fail
     go_ret
     exact ⟨ret_bool (by simp [cntB, z1, z2, z3, z4]), Below.refl _ _⟩)
def cnd (f r : Int) (xs : List Int) (bl : Bool) (ca pa ha fu : Int) : Nat → Bool
 | 0 => boardB f r xs
 | 1 => kingsB f r xs bl
 | 2 => pawnsB f.toNat xs
 | 3 => cstB f r xs ca
 | 4 => passB f.toNat r.toNat xs bl pa ha
 | _ => cntB ha fu
def cndA (f r : Int) (xs : List Int) (bl : Bool) (ca pa ha fu : Int) : Nat → Bool
 | 0 => true
 | k + 1 => cndA f r xs bl ca pa ha fu k && cnd f r xs bl ca pa ha fu k
def pvW (f r : Int) (xs : List Int) (bl : Bool) (ca pa ha fu : Int) : Bool := cndA f r xs bl ca pa ha fu 6
theorem cndA_le {f r : Int} {xs : List Int} {bl : Bool} {ca pa ha fu : Int} {k : Nat} (h : cndA f r xs bl ca pa ha fu k = false) : ∀ n, cndA f r xs bl ca pa ha fu (k + n) = false := by
 intro n
 induction n with
 | zero => exact h
 | succ n ih => rw [← Nat.add_assoc]; simp only [cndA, ih]; rfl
theorem board_nat {f r : Int} {xs : List Int} (h : boardB f r xs = true) : ∃ F R : Nat, f = F ∧ r = R ∧ (3 ≤ F ∧ F ≤ 8) ∧ (3 ≤ R ∧ R ≤ 8) ∧ xs.length = F * R ∧ F < xs.length := by
 obtain ⟨h1, h2, _⟩ := boardB_fact h
 have h3 : (3 ≤ f ∧ f ≤ 8) ∧ (3 ≤ r ∧ r ≤ 8) := by
  unfold sizeB sideB at h1; simp at h1; exact h1
 obtain ⟨F, rfl⟩ : ∃ F : Nat, f = F := ⟨f.toNat, by omega⟩
 obtain ⟨R, rfl⟩ : ∃ R : Nat, r = R := ⟨r.toNat, by omega⟩
 have h4 : xs.length = F * R := by rw [← Int.natCast_mul] at h2; omega
 have h5 : F * 3 ≤ F * R := Nat.mul_le_mul_left F (by omega)
 exact ⟨F, R, rfl, rfl, by omega, by omega, h4, by omega⟩
set_option maxRecDepth 100000 in
theorem posValid_any (f r ca pa ha fu : Int) (bl : Bool) (p : Option Addr) (c : Nat) (xs : List Int) (hca : 0 ≤ ca ∧ ca < 256) (hl : xs.length ≤ 1000) (hcap : xs.length ≤ c) (w : World) (hg : GlobOk w) (hx : Arr .i8 w p xs) :
  Calls Tryz.prog 44 #[.agg (posCs f r p xs.length c bl ca pa ha fu).toArray] w fun e w' => e = .returned (.bool (pvW f r xs bl ca pa ha fu)) ∧ Below w.heap.size w w' := by
 have hA := HasO.new w (.cells (posCs f r p xs.length c bl ca pa ha fu).toArray 40)
 have hB := below_box w (.cells (posCs f r p xs.length c bl ca pa ha fu).toArray 40)
 have hx1 := hx.call hB
 have hg1 := hg.call hB
 have hcs : ∀ k, cndA f r xs bl ca pa ha fu (k + 1) = (cndA f r xs bl ca pa ha fu k && cnd f r xs bl ca pa ha fu k) := fun _ => rfl
 have hV0 : pvW f r xs bl ca pa ha fu = cndA f r xs bl ca pa ha fu 6 := rfl
 obtain ⟨V, hV⟩ : ∃ V, V = pvW f r xs bl ca pa ha fu := ⟨_, rfl⟩
 rw [← hV] at hV0 ⊢
 clear hV
 have hle := fun k => cndA_le (f := f) (r := r) (xs := xs) (bl := bl) (ca := ca) (pa := pa) (ha := ha) (fu := fu) (k := k)
 have hcd : cnd f r xs bl ca pa ha fu 0 = boardB f r xs ∧ cnd f r xs bl ca pa ha fu 1 = kingsB f r xs bl ∧ cnd f r xs bl ca pa ha fu 2 = pawnsB f.toNat xs ∧ cnd f r xs bl ca pa ha fu 3 = cstB f r xs ca ∧ cnd f r xs bl ca pa ha fu 4 = passB f.toNat r.toNat xs bl pa ha ∧ cnd f r xs bl ca pa ha fu 5 = cntB ha fu := ⟨rfl, rfl, rfl, rfl, rfl, rfl⟩
 have hc1 : cndA f r xs bl ca pa ha fu 1 = true → boardB f r xs = true := fun h => by rw [hcs 0, hcd.1] at h; simp only [Bool.and_eq_true] at h; exact h.2
 have hc2 : ∀ k, cndA f r xs bl ca pa ha fu (k + 1) = true → boardB f r xs = true := by
  intro k
  induction k with
  | zero => exact hc1
  | succ k ih => intro h; rw [hcs (k + 1)] at h; simp only [Bool.and_eq_true] at h; exact ih h.1
 clear hc1
 have hz : cndA f r xs bl ca pa ha fu 0 = true := rfl
 generalize cndA f r xs bl ca pa ha fu = CA at *
 have hbz := fun (h : boardB f r xs = true) => board_nat h
 have k1 := fun q W hq hx => v1_any f r ca pa ha fu bl p c xs q W hq hx
 have k2 := fun q W hq hg hx => v2_any f r ca pa ha fu bl p c xs q W hq hg hx hl hcap
 have k3 : boardB f r xs = true → ∀ q W, HasO W q (.cells (posCs f r p xs.length c bl ca pa ha fu).toArray 40 (0, 0)) → Arr .i8 W p xs → Calls Tryz.prog 99 #[.pointer (some ⟨q, 0, none⟩)] W fun e w' => e = .returned (.bool (cnd f r xs bl ca pa ha fu 2)) ∧ Below W.heap.size W w' := by
  intro h q W hq hx
  obtain ⟨F, R, rfl, rfl, hF, hR, hlen, hFl⟩ := hbz h
  exact v3_any F R ca pa ha fu bl p c xs q W hq hF hFl hx hl hcap
 have k4 : boardB f r xs = true → ∀ q W, HasO W q (.cells (posCs f r p xs.length c bl ca pa ha fu).toArray 40 (0, 0)) → GlobOk W → Arr .i8 W p xs → Calls Tryz.prog 101 #[.pointer (some ⟨q, 0, none⟩)] W fun e w' => e = .returned (.bool (cnd f r xs bl ca pa ha fu 3)) ∧ Below W.heap.size W w' := by
  intro h q W hq hg hx
  obtain ⟨F, R, rfl, rfl, hF, hR, hlen, hFl⟩ := hbz h
  exact v4_any F R ca pa ha fu bl p c xs q W hq (Lib.hid hlen) (by omega) hca hg hx
 have k5 : boardB f r xs = true → ∀ q W, HasO W q (.cells (posCs f r p xs.length c bl ca pa ha fu).toArray 40 (0, 0)) → Arr .i8 W p xs → Calls Tryz.prog 103 #[.pointer (some ⟨q, 0, none⟩)] W fun e w' => e = .returned (.bool (cnd f r xs bl ca pa ha fu 4)) ∧ Below W.heap.size W w' := by
  intro h q W hq hx
  obtain ⟨F, R, rfl, rfl, hF, hR, hlen, hFl⟩ := hbz h
  exact v5_any F R ca pa ha fu bl p c xs q W hq hF hR (Lib.hid hlen) (by omega) hx
 have k6 := fun q W hq => v6_any f r ca pa ha fu bl p xs.length c q W hq
 obtain ⟨d0, d1, d2, d3, d4, d5⟩ := hcd
 rw [← d0] at k1
 rw [← d1] at k2
 rw [← d5] at k6
 clear d0 d1 d2 d3 d4 d5 hbz
 generalize cnd f r xs bl ca pa ha fu = CD at *
 replace hV0 := Lib.hid hV0
 replace hz := Lib.hid hz
 go_enter Tryz.func44, Tryz.ntmps44
 go_wp2_with fail
 show Code.wp _ _ _ _ ((w.alloc (.cells (posCs f r p xs.length c bl ca pa ha fu).toArray 40)).alloc (.cells #[.func (.func 95) #[] #[.pointer (some ⟨w.heap.size, 0, none⟩)], .func (.func 97) #[] #[.pointer (some ⟨w.heap.size, 0, none⟩)], .func (.func 99) #[] #[.pointer (some ⟨w.heap.size, 0, none⟩)], .func (.func 101) #[] #[.pointer (some ⟨w.heap.size, 0, none⟩)], .func (.func 103) #[] #[.pointer (some ⟨w.heap.size, 0, none⟩)], .func (.func 105) #[] #[.pointer (some ⟨w.heap.size, 0, none⟩)]] 27))
 have hb2 := below_box (w.alloc (.cells (posCs f r p xs.length c bl ca pa ha fu).toArray 40)) (.cells #[.func (.func 95) #[] #[.pointer (some ⟨w.heap.size, 0, none⟩)], .func (.func 97) #[] #[.pointer (some ⟨w.heap.size, 0, none⟩)], .func (.func 99) #[] #[.pointer (some ⟨w.heap.size, 0, none⟩)], .func (.func 101) #[] #[.pointer (some ⟨w.heap.size, 0, none⟩)], .func (.func 103) #[] #[.pointer (some ⟨w.heap.size, 0, none⟩)], .func (.func 105) #[] #[.pointer (some ⟨w.heap.size, 0, none⟩)]] 27)
 have hT := HasO.new' (w.alloc (.cells (posCs f r p xs.length c bl ca pa ha fu).toArray 40)) (.cells #[.func (.func 95) #[] #[.pointer (some ⟨w.heap.size, 0, none⟩)], .func (.func 97) #[] #[.pointer (some ⟨w.heap.size, 0, none⟩)], .func (.func 99) #[] #[.pointer (some ⟨w.heap.size, 0, none⟩)], .func (.func 101) #[] #[.pointer (some ⟨w.heap.size, 0, none⟩)], .func (.func 103) #[] #[.pointer (some ⟨w.heap.size, 0, none⟩)], .func (.func 105) #[] #[.pointer (some ⟨w.heap.size, 0, none⟩)]] 27) (q := w.heap.size + 1) (by simp)
 have hA2 := hA.call hb2
 have hB2 := below_call hB hB.size hb2
 have hx2 := hx1.call hb2
 have hg2 := hg1.call hb2
 clear hA hB hx1 hg1 hb2 hx hg
 generalize (w.alloc (.cells (posCs f r p xs.length c bl ca pa ha fu).toArray 40)).alloc (.cells #[.func (.func 95) #[] #[.pointer (some ⟨w.heap.size, 0, none⟩)], .func (.func 97) #[] #[.pointer (some ⟨w.heap.size, 0, none⟩)], .func (.func 99) #[] #[.pointer (some ⟨w.heap.size, 0, none⟩)], .func (.func 101) #[] #[.pointer (some ⟨w.heap.size, 0, none⟩)], .func (.func 103) #[] #[.pointer (some ⟨w.heap.size, 0, none⟩)], .func (.func 105) #[] #[.pointer (some ⟨w.heap.size, 0, none⟩)]] 27) = w2 at *
 go_loopg [15] 7 (fun q iv wr => ∃ i : Nat, q + i = 7 ∧ i ≤ 6 ∧ iv = .int .i64 i ∧ CA i = true ∧ Below w2.heap.size w2 wr)
 case atStart => exact ⟨0, rfl, Nat.zero_le _, rfl, hz.out, Below.refl _ _⟩
 case round =>
  obtain ⟨i, hq, hi, rfl, hok, hbr⟩ := hrel
  have hAr := hA2.call hbr
  have hBr := below_call hB2 hB2.size hbr
  have hxr := hx2.call hbr
  have hgr := hg2.call hbr
  have hTr := hT.call hbr
  have hlr := hTr.lt
  replace hok := Lib.hid hok
  by_cases hlt : i < 6
  ·have hnx := hcs i
   rw [hok.out, Bool.true_and] at hnx
   have hlei := hle (i + 1)
   replace hnx := Lib.hid hnx
   rcases (by omega : i = 0 ∨ i = 1 ∨ i = 2 ∨ i = 3 ∨ i = 4 ∨ i = 5) with rfl | rfl | rfl | rfl | rfl | rfl
   ·have hci := hTr.cells 0
    have hcall := k1 _ _ hAr hxr
    clear k1 k2 k3 k4 k5 k6
    go_wp2_with fail
    refine hcall.mono ?_
    rintro e w3 ⟨rfl, hb3⟩
    have hb4 := below_call hbr hbr.size hb3
    have hB4 := below_call hBr hBr.size hb3
    clear hcall
    rcases hd : CD 0 with _ | _
    ·have e0 : Hid (V = false) := Lib.hid (by rw [hV0.out]; exact hlei (by rw [hnx.out]; exact hd) 5)
     go_wp2_with fail
     go_ret
     exact ⟨by rw [e0.out]; rfl, hB4⟩
    ·have e1 : Hid (CA (0 + 1) = true) := Lib.hid (by rw [hnx.out]; exact hd)
     go_wp2_with fail
     go_roundg (gk - 1)
     case measure => omega
     case rel => exact ⟨0 + 1, by omega, by omega, by go_num, e1.out, hb4⟩
   ·have hci := hTr.cells 1
    have hcall := k2 _ _ hAr hgr hxr
    clear k1 k2 k3 k4 k5 k6
    go_wp2_with fail
    refine hcall.mono ?_
    rintro e w3 ⟨rfl, hb3⟩
    have hb4 := below_call hbr hbr.size hb3
    have hB4 := below_call hBr hBr.size hb3
    clear hcall
    rcases hd : CD 1 with _ | _
    ·have e0 : Hid (V = false) := Lib.hid (by rw [hV0.out]; exact hlei (by rw [hnx.out]; exact hd) 4)
     go_wp2_with fail
     go_ret
     exact ⟨by rw [e0.out]; rfl, hB4⟩
    ·have e1 : Hid (CA (1 + 1) = true) := Lib.hid (by rw [hnx.out]; exact hd)
     go_wp2_with fail
     go_roundg (gk - 1)
     case measure => omega
     case rel => exact ⟨1 + 1, by omega, by omega, by go_num, e1.out, hb4⟩
   ·have hci := hTr.cells 2
    have hcall := k3 (hc2 1 hok.out) _ _ hAr hxr
    clear k1 k2 k3 k4 k5 k6
    go_wp2_with fail
    refine hcall.mono ?_
    rintro e w3 ⟨rfl, hb3⟩
    have hb4 := below_call hbr hbr.size hb3
    have hB4 := below_call hBr hBr.size hb3
    clear hcall
    rcases hd : CD 2 with _ | _
    ·have e0 : Hid (V = false) := Lib.hid (by rw [hV0.out]; exact hlei (by rw [hnx.out]; exact hd) 3)
     go_wp2_with fail
     go_ret
     exact ⟨by rw [e0.out]; rfl, hB4⟩
    ·have e1 : Hid (CA (2 + 1) = true) := Lib.hid (by rw [hnx.out]; exact hd)
     go_wp2_with fail
     go_roundg (gk - 1)
     case measure => omega
     case rel => exact ⟨2 + 1, by omega, by omega, by go_num, e1.out, hb4⟩
   ·have hci := hTr.cells 3
    have hcall := k4 (hc2 2 hok.out) _ _ hAr hgr hxr
    clear k1 k2 k3 k4 k5 k6
    go_wp2_with fail
    refine hcall.mono ?_
    rintro e w3 ⟨rfl, hb3⟩
    have hb4 := below_call hbr hbr.size hb3
    have hB4 := below_call hBr hBr.size hb3
    clear hcall
    rcases hd : CD 3 with _ | _
    ·have e0 : Hid (V = false) := Lib.hid (by rw [hV0.out]; exact hlei (by rw [hnx.out]; exact hd) 2)
     go_wp2_with fail
     go_ret
     exact ⟨by rw [e0.out]; rfl, hB4⟩
    ·have e1 : Hid (CA (3 + 1) = true) := Lib.hid (by rw [hnx.out]; exact hd)
     go_wp2_with fail
     go_roundg (gk - 1)
     case measure => omega
     case rel => exact ⟨3 + 1, by omega, by omega, by go_num, e1.out, hb4⟩
   ·have hci := hTr.cells 4
    have hcall := k5 (hc2 3 hok.out) _ _ hAr hxr
    clear k1 k2 k3 k4 k5 k6
    go_wp2_with fail
    refine hcall.mono ?_
    rintro e w3 ⟨rfl, hb3⟩
    have hb4 := below_call hbr hbr.size hb3
    have hB4 := below_call hBr hBr.size hb3
    clear hcall
    rcases hd : CD 4 with _ | _
    ·have e0 : Hid (V = false) := Lib.hid (by rw [hV0.out]; exact hlei (by rw [hnx.out]; exact hd) 1)
     go_wp2_with fail
     go_ret
     exact ⟨by rw [e0.out]; rfl, hB4⟩
    ·have e1 : Hid (CA (4 + 1) = true) := Lib.hid (by rw [hnx.out]; exact hd)
     go_wp2_with fail
     go_roundg (gk - 1)
     case measure => omega
     case rel => exact ⟨4 + 1, by omega, by omega, by go_num, e1.out, hb4⟩
   ·have hci := hTr.cells 5
    have hcall := k6 _ _ hAr
    clear k1 k2 k3 k4 k5 k6
    go_wp2_with fail
    refine hcall.mono ?_
    rintro e w3 ⟨rfl, hb3⟩
    have hb4 := below_call hbr hbr.size hb3
    have hB4 := below_call hBr hBr.size hb3
    clear hcall
    rcases hd : CD 5 with _ | _
    ·have e0 : Hid (V = false) := Lib.hid (by rw [hV0.out]; exact hlei (by rw [hnx.out]; exact hd) 0)
     go_wp2_with fail
     go_ret
     exact ⟨by rw [e0.out]; rfl, hB4⟩
    ·have e1 : Hid (CA (5 + 1) = true) := Lib.hid (by rw [hnx.out]; exact hd)
     go_wp2_with fail
     go_roundg (gk - 1)
     case measure => omega
     case rel => exact ⟨5 + 1, by omega, by omega, by go_num, e1.out, hb4⟩
  ·have hn : ¬ (i : Int) < 6 := by omega
   obtain rfl : i = 6 := by omega
   have e0 : Hid (V = true) := Lib.hid (by rw [hV0.out]; exact hok.out)
   go_wp2_with fail
   go_ret
   exact ⟨by rw [e0.out]; rfl, hBr⟩
theorem sq_split {F R b : Nat} {x y : Int} (hF : 3 ≤ F ∧ F ≤ 8) (hb : b < F * R) : (onB F R x y = true ∧ x + y * F = b) ↔ (x = (b % F : Nat) ∧ y = (b / F : Nat)) := by
 constructor
 ·rintro ⟨h1, h2⟩
  obtain ⟨a1, a2, a3, a4⟩ := onB_fact h1
  obtain ⟨m, rfl⟩ : ∃ m : Nat, x = m := ⟨x.toNat, by omega⟩
  obtain ⟨n, rfl⟩ : ∃ n : Nat, y = n := ⟨y.toNat, by omega⟩
  have h3 : m + n * F = b := by
   have : ((m + n * F : Nat) : Int) = b := by simpa using h2
   omega
  subst h3
  have h4 : (m + n * F) % F = m := by rw [Nat.add_mul_mod_self_right]; exact Nat.mod_eq_of_lt (by omega)
  have h5 : (m + n * F) / F = n := by rw [Nat.add_mul_div_right _ _ (by omega), Nat.div_eq_of_lt (by omega)]; omega
  rw [h4, h5]
  exact ⟨rfl, rfl⟩
 ·rintro ⟨rfl, rfl⟩
  have h1 := Nat.mod_lt b (show 0 < F by omega)
  have h2 : b / F < R := Nat.div_lt_of_lt_mul hb
  have h3 := Nat.mod_add_div b F
  refine ⟨?_, ?_⟩
  ·have : ∀ x y : Nat, x < F → y < R → onB F R (x : Int) (y : Int) = true := by intro x y h1 h2; unfold onB; simp; omega
   exact this _ _ h1 h2
  ·rw [Nat.mul_comm] at h3
   rw [← Int.natCast_mul, ← Int.natCast_add, h3]
theorem split_d {F R a b : Nat} {dx dy : Int} (hF : 3 ≤ F ∧ F ≤ 8) (hb : b < F * R) : (onB F R (((a % F : Nat) : Int) + dx) (((a / F : Nat) : Int) + dy) = true ∧ (((a % F : Nat) : Int) + dx) + (((a / F : Nat) : Int) + dy) * F = b) ↔ (dF F a b = dx ∧ dR F a b = dy) := by
 rw [sq_split hF hb]
 unfold dF dR
 generalize ((a % F : Nat) : Int) = f, ((a / F : Nat) : Int) = r, ((b % F : Nat) : Int) = f', ((b / F : Nat) : Int) = r'
 omega
theorem leapW_bit {F R a b : Nat} (st : List (Int × Int)) (hF : 3 ≤ F ∧ F ≤ 8) (hb : b < F * R) : ∀ n, (leapW F R a st n).testBit b = true ↔ ∃ j, j < n ∧ dF F a b = (st[j]?.getD (0, 0)).1 ∧ dR F a b = (st[j]?.getD (0, 0)).2 := by
 intro n
 induction n with
 | zero => simp [leapW]
 | succ n ih =>
  have key := split_d (a := a) (dx := (st[n]?.getD (0, 0)).1) (dy := (st[n]?.getD (0, 0)).2) hF hb
  have hs : (∃ j, j < n + 1 ∧ dF F a b = (st[j]?.getD (0, 0)).1 ∧ dR F a b = (st[j]?.getD (0, 0)).2) ↔ ((∃ j, j < n ∧ dF F a b = (st[j]?.getD (0, 0)).1 ∧ dR F a b = (st[j]?.getD (0, 0)).2) ∨ (dF F a b = (st[n]?.getD (0, 0)).1 ∧ dR F a b = (st[n]?.getD (0, 0)).2)) := by
   constructor
   ·rintro ⟨j, hj, h⟩
    rcases (by omega : j < n ∨ j = n) with h1 | rfl
    ·exact .inl ⟨j, h1, h⟩
    ·exact .inr h
   ·rintro (⟨j, hj, h⟩ | h)
    ·exact ⟨j, by omega, h⟩
    ·exact ⟨n, by omega, h⟩
  rw [hs, ← ih, ← key]
  simp only [leapW]
  split
  ·rename_i h
   obtain ⟨m, hm, hl⟩ := at_lt h
   rw [hm, Int.toNat_natCast, Nat.testBit_or, Nat.testBit_two_pow, Bool.or_eq_true, decide_eq_true_eq]
   constructor
   ·rintro (h1 | h1)
    ·exact .inl h1
    ·exact .inr ⟨h, by rw [h1]⟩
   ·rintro (h1 | h1)
    ·exact .inl h1
    ·exact .inr (by have := h1.2; omega)
  ·rename_i h
   exact ⟨fun h1 => .inl h1, fun h1 => h1.elim id (fun h2 => absurd h2.1 h)⟩
theorem leapW_any {F R a b : Nat} (st : List (Int × Int)) (hF : 3 ≤ F ∧ F ≤ 8) (hb : b < F * R) : (leapW F R a st st.length).testBit b = st.any (fun s => dF F a b == s.1 && dR F a b == s.2) := by
 rw [Bool.eq_iff_iff, leapW_bit st hF hb, List.any_eq_true]
 constructor
 ·rintro ⟨j, hj, h1, h2⟩
  rw [List.getElem?_eq_getElem hj, Option.getD_some] at h1 h2
  exact ⟨st[j], List.getElem_mem hj, by simp [← h1, ← h2]⟩
 ·rintro ⟨s, hs, h⟩
  obtain ⟨j, hj, rfl⟩ := List.getElem_of_mem hs
  refine ⟨j, hj, ?_⟩
  rw [List.getElem?_eq_getElem hj, Option.getD_some]
  simpa using h
theorem dF_small {F a b : Nat} (hF : 3 ≤ F ∧ F ≤ 8) : -8 < dF F a b ∧ dF F a b < 8 := by
 have h1 := Nat.mod_lt a (show 0 < F by omega)
 have h2 := Nat.mod_lt b (show 0 < F by omega)
 unfold dF
 generalize a % F = x, b % F = y at *
 omega
theorem dR_small {F R a b : Nat} (hR : 3 ≤ R ∧ R ≤ 8) (ha : a < F * R) (hb : b < F * R) : -8 < dR F a b ∧ dR F a b < 8 := by
 have h1 : a / F < R := Nat.div_lt_of_lt_mul ha
 have h2 : b / F < R := Nat.div_lt_of_lt_mul hb
 unfold dR
 generalize a / F = x, b / F = y at *
 omega
theorem fin15 {p : Int → Int → Prop} (h : ∀ i, i < 15 → ∀ j, j < 15 → p ((i : Nat) - 7 : Int) ((j : Nat) - 7 : Int)) (x y : Int) (hx : -8 < x ∧ x < 8) (hy : -8 < y ∧ y < 8) : p x y := by
 have := h (x + 7).toNat (by omega) (y + 7).toNat (by omega)
 rw [show (((x + 7).toNat : Nat) : Int) - 7 = x by omega, show (((y + 7).toNat : Nat) : Int) - 7 = y by omega] at this
 exact this
theorem knight_fin (x y : Int) (hx : -8 < x ∧ x < 8) (hy : -8 < y ∧ y < 8) : leapsL.any (fun s => x == s.1 && y == s.2) = (x * x + y * y == 5) :=
 fin15 (p := fun x y => leapsL.any (fun s => x == s.1 && y == s.2) = (x * x + y * y == 5)) (by decide +kernel) x y hx hy
theorem king_fin (x y : Int) (hx : -8 < x ∧ x < 8) (hy : -8 < y ∧ y < 8) : (diagL.any (fun s => x == s.1 && y == s.2) || strL.any (fun s => x == s.1 && y == s.2)) = (max (kindI x) (kindI y) == 1) :=
 fin15 (p := fun x y => (diagL.any (fun s => x == s.1 && y == s.2) || strL.any (fun s => x == s.1 && y == s.2)) = (max (kindI x) (kindI y) == 1)) (by decide +kernel) x y hx hy
theorem pawn_fin (bl : Bool) (x y : Int) (hx : -8 < x ∧ x < 8) (hy : -8 < y ∧ y < 8) : (pwnL bl).any (fun s => x == s.1 && y == s.2) = ((y == sdI bl) && ((x == 1) || (-x == 1))) := by
 cases bl
 ·exact fin15 (p := fun x y => (pwnL false).any (fun s => x == s.1 && y == s.2) = ((y == sdI false) && ((x == 1) || (-x == 1)))) (by decide +kernel) x y hx hy
 ·exact fin15 (p := fun x y => (pwnL true).any (fun s => x == s.1 && y == s.2) = ((y == sdI true) && ((x == 1) || (-x == 1)))) (by decide +kernel) x y hx hy
theorem pawnL_mem {F : Nat} {bl : Bool} {a b : Nat} : ∀ n, b < n → elI (pawnL F bl a n) b = pawnHit F bl a b := by
 have hout : ∀ n, n ≤ b → elI (pawnL F bl a n) b = false := by
  intro n
  induction n with
  | zero => intro _; rfl
  | succ n ih =>
   intro h
   have ih := ih (by omega)
   simp only [pawnL]
   split
   ·unfold elI at ih ⊢
    rw [List.any_append, ih]
    simp; omega
   ·exact ih
 intro n
 induction n with
 | zero => intro h; omega
 | succ n ih =>
  intro h
  simp only [pawnL]
  rcases (by omega : b < n ∨ b = n) with h1 | rfl
  ·have ih := ih h1
   split
   ·unfold elI at ih ⊢
    rw [List.any_append, ih]
    have : ((n : Int) == (b : Int)) = false := by simp; omega
    simp [this]
   ·exact ih
  ·have h2 := hout b (Nat.le_refl _)
   split
   ·rename_i h3
    unfold elI at h2 ⊢
    rw [List.any_append, h2, h3]; simp
   ·rename_i h3
    rw [h2]; simp at h3; rw [h3]
theorem slideR_bit {oc b : Nat} : ∀ (L : List Int) (S : Nat), (∀ x ∈ L, 0 ≤ x) → ((slideR oc L S).testBit b = true ↔ (S.testBit b = true ∨ ∃ i, i < L.length ∧ L[i]?.getD 0 = b ∧ ∀ j, j < i → oc.testBit (L[j]?.getD 0).toNat = false)) := by
 intro L
 induction L with
 | nil => intro S _; simp [slideR]
 | cons x r ih =>
  intro S hL
  have hx := hL x (by simp)
  obtain ⟨n, rfl⟩ : ∃ n : Nat, x = n := ⟨x.toNat, by omega⟩
  have h1 : (S ||| 2 ^ n).testBit b = true ↔ (S.testBit b = true ∨ n = b) := by
   rw [Nat.testBit_or, Nat.testBit_two_pow, Bool.or_eq_true, decide_eq_true_eq]
  simp only [slideR, Int.toNat_natCast]
  split
  ·rename_i ho
   rw [h1]
   constructor
   ·rintro (h | h)
    ·exact .inl h
    ·exact .inr ⟨0, by simp, by simp [h], fun j hj => by omega⟩
   ·rintro (h | ⟨i, hi, h2, h3⟩)
    ·exact .inl h
    ·cases i with
     | zero => right; simp at h2; omega
     | succ i => have := h3 0 (by omega); simp [ho] at this
  ·rename_i ho
   rw [ih _ (fun y hy => hL y (by simp [hy])), h1]
   constructor
   ·rintro ((h | h) | ⟨i, hi, h2, h3⟩)
    ·exact .inl h
    ·exact .inr ⟨0, by simp, by simp [h], fun j hj => by omega⟩
    ·refine .inr ⟨i + 1, by simp; omega, by simpa using h2, fun j hj => ?_⟩
     cases j with
     | zero => simpa using ho
     | succ j => simpa using h3 j (by omega)
   ·rintro (h | ⟨i, hi, h2, h3⟩)
    ·exact .inl (.inl h)
    ·cases i with
     | zero => left; right; simp at h2; omega
     | succ i => exact .inr ⟨i, by simp at hi; omega, by simpa using h2, fun j hj => by simpa using h3 (j + 1) (by omega)⟩
theorem ray_free {oc b : Nat} (L : List Int) (hL : ∀ x ∈ L, 0 ≤ x ∧ x < 64) : (∃ i, i < L.length ∧ L[i]?.getD 0 = (b : Int) ∧ ∀ j, j < i → oc.testBit (L[j]?.getD 0).toNat = false) ↔ (elI L b = true ∧ freeL (btwL L b) oc = true) := by
 have hfree : ∀ i, i ≤ L.length → (freeL (L.take i) oc = true ↔ ∀ j, j < i → oc.testBit (L[j]?.getD 0).toNat = false) := by
  intro i hi
  unfold freeL
  rw [List.all_eq_true]
  constructor
  ·intro h j hj
   have hjl : j < L.length := by omega
   have h1 := hL L[j] (List.getElem_mem hjl)
   have := h L[j] (by rw [List.mem_take_iff_getElem]; exact ⟨j, by omega, rfl⟩)
   rw [List.getElem?_eq_getElem hjl, Option.getD_some]
   unfold hasS at this
   simpa [h1.1, h1.2] using this
  ·intro h x hx
   rw [List.mem_take_iff_getElem] at hx
   obtain ⟨j, hj, rfl⟩ := hx
   have hjl : j < L.length := by omega
   have := h j (by omega)
   rw [List.getElem?_eq_getElem hjl, Option.getD_some] at this
   unfold hasS
   simp [this]
 constructor
 ·rintro ⟨i, hi, h1, h2⟩
  rw [List.getElem?_eq_getElem hi, Option.getD_some] at h1
  have hel : elI L b = true := by unfold elI; rw [List.any_eq_true]; exact ⟨L[i], List.getElem_mem hi, by simp [h1]⟩
  refine ⟨hel, ?_⟩
  -- the first place
  have hex : ∃ m, m ≤ i ∧ (∃ hm : m < L.length, L[m] = (b : Int)) ∧ elI (L.take m) b = false := by
   clear h2
   induction i using Nat.strongRecOn with
   | _ i ih =>
    by_cases hf : elI (L.take i) b = false
    ·exact ⟨i, Nat.le_refl _, ⟨hi, h1⟩, hf⟩
    ·simp only [Bool.not_eq_false] at hf
     unfold elI at hf
     rw [List.any_eq_true] at hf
     obtain ⟨x, hx, hxb⟩ := hf
     rw [List.mem_take_iff_getElem] at hx
     obtain ⟨j, hj, rfl⟩ := hx
     obtain ⟨m, hm, h3⟩ := ih j (by omega) (by omega) (by simpa using hxb)
     exact ⟨m, by omega, h3⟩
  obtain ⟨m, hmi, ⟨hm, h3⟩, h4⟩ := hex
  rw [btwL_at h4 hm h3, hfree m (by omega)]
  exact fun j hj => h2 j (by omega)
 ·rintro ⟨h1, h2⟩
  have hex : ∃ m, (∃ hm : m < L.length, L[m] = (b : Int)) ∧ elI (L.take m) b = false := by
   unfold elI at h1
   rw [List.any_eq_true] at h1
   obtain ⟨x, hx, hxb⟩ := h1
   obtain ⟨i, hi, rfl⟩ := List.getElem_of_mem hx
   have hxb : L[i] = (b : Int) := by simpa using hxb
   clear hx
   induction i using Nat.strongRecOn with
   | _ i ih =>
    by_cases hf : elI (L.take i) b = false
    ·exact ⟨i, ⟨hi, hxb⟩, hf⟩
    ·simp only [Bool.not_eq_false] at hf
     unfold elI at hf
     rw [List.any_eq_true] at hf
     obtain ⟨x, hx, hxb2⟩ := hf
     rw [List.mem_take_iff_getElem] at hx
     obtain ⟨j, hj, rfl⟩ := hx
     exact ih j (by omega) (by omega) (by simpa using hxb2) (by simpa using hxb2)
  obtain ⟨m, ⟨hm, h3⟩, h4⟩ := hex
  rw [btwL_at h4 hm h3, hfree m (by omega)] at h2
  exact ⟨m, hm, by rw [List.getElem?_eq_getElem hm]; exact h3, h2⟩
theorem ray_at {F R a b : Nat} {dx dy : Int} {i : Nat} (hF : 3 ≤ F ∧ F ≤ 8) (hb : b < F * R) (hi : i < (rayL F R a dx dy 8 1).length) (h : (rayL F R a dx dy 8 1)[i]?.getD 0 = b) : dF F a b = ((i : Int) + 1) * dx ∧ dR F a b = ((i : Int) + 1) * dy := by
 obtain ⟨h1, h2⟩ := rayL_get (F := F) (R := R) (a := a) (dx := dx) (dy := dy) 8 1 i hi
 rw [h] at h1
 unfold rayN at h1 h2
 have hno := numI_on (F := F) (R := R) (a := ((a % F : Nat) : Int) + ((1 + i : Nat) : Int) * dx) (b := ((a / F : Nat) : Int) + ((1 + i : Nat) : Int) * dy)
 rcases hv : onB F R (((a % F : Nat) : Int) + ((1 + i : Nat) : Int) * dx) (((a / F : Nat) : Int) + ((1 + i : Nat) : Int) * dy) with _ | _
 ·have := hno.1.2 hv; omega
 ·have h3 := hno.2 hv
  rw [← h1] at h3
  have := (split_d hF hb).1 ⟨hv, h3.symm⟩
  rw [show ((1 + i : Nat) : Int) = (i : Int) + 1 by omega] at this
  exact this
theorem ray_to {F R a b n : Nat} {dx dy : Int} (hF : 3 ≤ F ∧ F ≤ 8) (hb : b < F * R) (hn : 1 ≤ n ∧ n ≤ 7) (hx : dF F a b = (n : Int) * dx) (hy : dR F a b = (n : Int) * dy) (hon : ∀ k : Nat, 1 ≤ k → k ≤ n → onB F R (((a % F : Nat) : Int) + (k : Int) * dx) (((a / F : Nat) : Int) + (k : Int) * dy) = true) :
  n - 1 < (rayL F R a dx dy 8 1).length ∧ (rayL F R a dx dy 8 1)[n - 1]?.getD 0 = b := by
 have hl : n ≤ (rayL F R a dx dy 8 1).length := by
  rcases Nat.lt_or_ge (rayL F R a dx dy 8 1).length n with h | h
  ·have h1 := rayL_end (F := F) (R := R) (a := a) (dx := dx) (dy := dy) 8 1 (by omega)
   unfold rayN at h1
   have h2 := hon (1 + (rayL F R a dx dy 8 1).length) (by omega) (by omega)
   have h3 := numI_on.1.1 h1
   rw [h2] at h3; cases h3
  ·exact h
 refine ⟨by omega, ?_⟩
 rw [(rayL_get (F := F) (R := R) (a := a) (dx := dx) (dy := dy) 8 1 (n - 1) (by omega)).1]
 unfold rayN
 rw [show 1 + (n - 1) = n by omega, numI_on.2 (hon n hn.1 (Nat.le_refl _))]
 exact ((split_d hF hb).2 ⟨hx, hy⟩).2
theorem on_between {F R : Nat} {f r dx dy : Int} {n k : Nat} (h0 : 0 ≤ f ∧ f < F ∧ 0 ≤ r ∧ r < R) (h1 : onB F R (f + (n : Int) * dx) (r + (n : Int) * dy) = true) (hk : k ≤ n) (hdx : dx = -1 ∨ dx = 0 ∨ dx = 1) (hdy : dy = -1 ∨ dy = 0 ∨ dy = 1) : onB F R (f + (k : Int) * dx) (r + (k : Int) * dy) = true := by
 obtain ⟨a1, a2, a3, a4⟩ := onB_fact h1
 unfold onB
 rcases hdx with rfl | rfl | rfl <;> rcases hdy with rfl | rfl | rfl <;> simp at a1 a2 a3 a4 ⊢ <;> omega
theorem ray_line {F R a b : Nat} {dx dy : Int} (hF : 3 ≤ F ∧ F ≤ 8) (hR : 3 ≤ R ∧ R ≤ 8) (ha : a < F * R) (hb : b < F * R) (hdx : dx = -1 ∨ dx = 0 ∨ dx = 1) (hdy : dy = -1 ∨ dy = 0 ∨ dy = 1) (hn : ¬ (dx = 0 ∧ dy = 0)) :
  elI (rayL F R a dx dy 8 1) b = (lineB a b (dF F a b) (dR F a b) && ((sgnI (dF F a b) == dx) && (sgnI (dR F a b) == dy))) := by
 rw [Bool.eq_iff_iff]
 have hxs := dF_small (F := F) (a := a) (b := b) hF
 have hys := dR_small hR ha hb
 constructor
 ·intro h
  unfold elI at h
  rw [List.any_eq_true] at h
  obtain ⟨x, hx, hxb⟩ := h
  obtain ⟨i, hi, rfl⟩ := List.getElem_of_mem hx
  obtain ⟨h1, h2⟩ := ray_at (b := b) hF hb hi (by rw [List.getElem?_eq_getElem hi, Option.getD_some]; simpa using hxb)
  have hab : a ≠ b := by
   rintro rfl
   have e1 : dF F a a = 0 := by unfold dF; omega
   have e2 : dR F a a = 0 := by unfold dR; omega
   rw [e1] at h1
   rw [e2] at h2
   rcases hdx with rfl | rfl | rfl <;> rcases hdy with rfl | rfl | rfl <;> simp at h1 h2 hn <;> omega
  generalize dF F a b = df at *
  generalize dR F a b = dr at *
  unfold lineB sgnI
  rcases hdx with rfl | rfl | rfl <;> rcases hdy with rfl | rfl | rfl <;> simp at h1 h2 hn ⊢ <;> refine ⟨⟨hab, by omega⟩, ?_⟩ <;> (subst h1 h2) <;> omega
 ·intro h
  simp only [Bool.and_eq_true, beq_iff_eq] at h
  obtain ⟨h1, h2, h3⟩ := h
  obtain ⟨n, hn1, hx, hy⟩ : ∃ n : Nat, (1 ≤ n ∧ n ≤ 7) ∧ dF F a b = (n : Int) * dx ∧ dR F a b = (n : Int) * dy := by
   generalize dF F a b = df at *
   generalize dR F a b = dr at *
   refine ⟨max df.natAbs dr.natAbs, ?_, ?_, ?_⟩
   all_goals
    unfold lineB at h1
    unfold sgnI at h2 h3
    simp at h1
    rcases hdx with rfl | rfl | rfl <;> rcases hdy with rfl | rfl | rfl <;> simp at hn <;> split at h2 <;> split at h3 <;> (try split at h2) <;> (try split at h3) <;> first | omega | (exfalso; omega)
  have hon := ((split_d (a := a) (R := R) hF hb).2 ⟨hx, hy⟩).1
  have hfa := (sq_bd hF hR ha)
  obtain ⟨h4, h5⟩ := ray_to hF hb hn1 hx hy (fun k _ hk => on_between ⟨Int.natCast_nonneg _, by omega, Int.natCast_nonneg _, by omega⟩ hon hk hdx hdy)
  unfold elI
  rw [List.any_eq_true]
  rw [List.getElem?_eq_getElem h4, Option.getD_some] at h5
  exact ⟨_, List.getElem_mem h4, by simp [h5]⟩
end Go.Proofs.YtnpomigmeieofaaGreatDoor
