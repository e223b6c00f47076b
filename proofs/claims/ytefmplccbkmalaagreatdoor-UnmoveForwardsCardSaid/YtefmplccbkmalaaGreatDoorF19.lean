import Derived.Test.YtefmplccbkmalaaGreatDoorF09
import Derived.Test.YtefmplccbkmalaaGreatDoorF18
set_option maxHeartbeats 12800000
namespace Go.Proofs.YtefmplccbkmalaaGreatDoor
open Go.RowKit

theorem v1_any (f r ca pa ha fu : Int) (bl : Bool) (p : Option Addr) (c : Nat) (xs : List Int) (q : Nat) (w : World) (hq : HasO w q (.cells (posCs f r p xs.length c bl ca pa ha fu).toArray 26 (0, 0))) (hx : Arr .i8 w p xs) :
  Calls Tryz.prog 72 #[.pointer (some ⟨q, 0, none⟩)] w fun e w' => e = .returned (.bool (boardB f r xs)) ∧ Below w.heap.size w w' := by
 have h0 := hq.cells 0
 have h1 := hq.cells 1
 have h2 := hq.cells 2
 have hl := hq.lt
 go_enter Tryz.func72, Tryz.ntmps72
 go_wp2_with fail
 refine (board_any f r p c xs _ hx).mono ?_
 rintro e w2 ⟨rfl, hb2⟩
 go_wp2_with fail
 go_ret
 exact ⟨rfl, hb2⟩
theorem v2_any (f r ca pa ha fu : Int) (bl : Bool) (p : Option Addr) (c : Nat) (xs : List Int) (q : Nat) (w : World) (hq : HasO w q (.cells (posCs f r p xs.length c bl ca pa ha fu).toArray 26 (0, 0))) (hg : GlobOk w) (hx : Arr .i8 w p xs) (hl : xs.length ≤ 1000) (hcap : xs.length ≤ c) :
  Calls Tryz.prog 74 #[.pointer (some ⟨q, 0, none⟩)] w fun e w' => e = .returned (.bool (kingsB f r xs bl)) ∧ Below w.heap.size w w' := by
 have hc := hq.cells
 have hl0 := hq.lt
 go_enter Tryz.func74, Tryz.ntmps74
 go_wp2_with fail
 refine (kings_any f r ca pa ha fu bl p c xs _ hg hx hl hcap).mono ?_
 rintro e w2 ⟨rfl, hb2⟩
 go_wp2_with fail
 go_ret
 exact ⟨rfl, hb2⟩
theorem v3_any (F R : Nat) (ca pa ha fu : Int) (bl : Bool) (p : Option Addr) (c : Nat) (xs : List Int) (q : Nat) (w : World) (hq : HasO w q (.cells (posCs F R p xs.length c bl ca pa ha fu).toArray 26 (0, 0))) (hF : 3 ≤ F ∧ F ≤ 8) (hFl : F < xs.length) (hx : Arr .i8 w p xs) (hl : xs.length ≤ 1000) (hcap : xs.length ≤ c) :
  Calls Tryz.prog 76 #[.pointer (some ⟨q, 0, none⟩)] w fun e w' => e = .returned (.bool (pawnsB F xs)) ∧ Below w.heap.size w w' := by
 have hc := hq.cells
 have hl0 := hq.lt
 go_enter Tryz.func76, Tryz.ntmps76
 go_wp2_with fail
 refine (pawns_any F R ca pa ha fu bl p c xs hF hl hcap hFl _ hx).mono ?_
 rintro e w2 ⟨rfl, hb2⟩
 go_wp2_with fail
 go_ret
 exact ⟨rfl, hb2⟩
theorem v4_any (F R : Nat) (ca pa ha fu : Int) (bl : Bool) (p : Option Addr) (c : Nat) (xs : List Int) (q : Nat) (w : World) (hq : HasO w q (.cells (posCs F R p xs.length c bl ca pa ha fu).toArray 26 (0, 0))) (hlen : Hid (xs.length = F * R)) (hpos : 0 < xs.length) (hca : 0 ≤ ca ∧ ca < 256) (hg : GlobOk w) (hx : Arr .i8 w p xs) :
  Calls Tryz.prog 78 #[.pointer (some ⟨q, 0, none⟩)] w fun e w' => e = .returned (.bool (cstB F R xs ca)) ∧ Below w.heap.size w w' := by
 have hc := hq.cells
 have hl0 := hq.lt
 go_enter Tryz.func78, Tryz.ntmps78
 go_wp2_with fail
 refine (castles_any F R ca pa ha fu bl p c xs hlen.out hpos hca _ hg hx).mono ?_
 rintro e w2 ⟨rfl, hb2⟩
 go_wp2_with fail
 go_ret
 exact ⟨rfl, hb2⟩
theorem v5_any (F R : Nat) (ca pa ha fu : Int) (bl : Bool) (p : Option Addr) (c : Nat) (xs : List Int) (q : Nat) (w : World) (hq : HasO w q (.cells (posCs F R p xs.length c bl ca pa ha fu).toArray 26 (0, 0))) (hF : 3 ≤ F ∧ F ≤ 8) (hR : 3 ≤ R ∧ R ≤ 8) (hlen : Hid (xs.length = F * R)) (hpos : 0 < xs.length) (hx : Arr .i8 w p xs) :
  Calls Tryz.prog 80 #[.pointer (some ⟨q, 0, none⟩)] w fun e w' => e = .returned (.bool (passB F R xs bl pa ha)) ∧ Below w.heap.size w w' := by
 have hc := hq.cells
 have hl0 := hq.lt
 go_enter Tryz.func80, Tryz.ntmps80
 go_wp2_with fail
 refine (passant_any F R ca pa ha fu bl p c xs hF hR hlen.out hpos _ hx).mono ?_
 rintro e w2 ⟨rfl, hb2⟩
 go_wp2_with fail
 go_ret
 exact ⟨rfl, hb2⟩
def cntB (ha fu : Int) : Bool := decide (0 ≤ ha) && (decide (ha ≤ 10000) && (decide (1 ≤ fu) && decide (fu ≤ 10000)))
theorem v6_any (f r ca pa ha fu : Int) (bl : Bool) (p : Option Addr) (n c : Nat) (q : Nat) (w : World) (hq : HasO w q (.cells (posCs f r p n c bl ca pa ha fu).toArray 26 (0, 0))) :
  Calls Tryz.prog 82 #[.pointer (some ⟨q, 0, none⟩)] w fun e w' => e = .returned (.bool (cntB ha fu)) ∧ Below w.heap.size w w' := by
 have h0 := hq.cells 6
 have h1 := hq.cells 7
 have hl0 := hq.lt
 by_cases z1 : 0 ≤ ha <;> by_cases z2 : ha ≤ 10000 <;> by_cases z3 : 1 ≤ fu <;> by_cases z4 : fu ≤ 10000
 all_goals first
  | (exfalso; omega)
  | (go_enter Tryz.func82, Tryz.ntmps82
     go_wp2_with fail
     go_ret
     exact ⟨ret_bool (by simp [cntB, z1, z2, z3, z4]), Below.refl _ _⟩)
def cnd (f r : Int) (xs : List Int) (bl : Bool) (ca pa ha fu : Int) : Nat → Bool
 | 0 => boardB f r xs
 | 1 => kingsB f r xs bl
 | 2 => pawnsB f.toNat xs
 | 3 => cstB f r xs ca
 | 4 => passB f.toNat r.toNat xs bl pa ha
 | _ => cntB ha fu
def cndA (f r : Int) (xs : List Int) (bl : Bool) (ca pa ha fu : Int) : Nat → Bool
 | 0 => true
 | k + 1 => cndA f r xs bl ca pa ha fu k && cnd f r xs bl ca pa ha fu k
def pvW (f r : Int) (xs : List Int) (bl : Bool) (ca pa ha fu : Int) : Bool := cndA f r xs bl ca pa ha fu 6
theorem cndA_le {f r : Int} {xs : List Int} {bl : Bool} {ca pa ha fu : Int} {k : Nat} (h : cndA f r xs bl ca pa ha fu k = false) : ∀ n, cndA f r xs bl ca pa ha fu (k + n) = false := by
 intro n
 induction n with
 | zero => exact h
 | succ n ih => rw [← Nat.add_assoc]; simp only [cndA, ih]; rfl
theorem board_nat {f r : Int} {xs : List Int} (h : boardB f r xs = true) : ∃ F R : Nat, f = F ∧ r = R ∧ (3 ≤ F ∧ F ≤ 8) ∧ (3 ≤ R ∧ R ≤ 8) ∧ xs.length = F * R ∧ F < xs.length := by
 obtain ⟨h1, h2, _⟩ := boardB_fact h
 have h3 : (3 ≤ f ∧ f ≤ 8) ∧ (3 ≤ r ∧ r ≤ 8) := by
  unfold sizeB sideB at h1; simp at h1; exact h1
 obtain ⟨F, rfl⟩ : ∃ F : Nat, f = F := ⟨f.toNat, by omega⟩
 obtain ⟨R, rfl⟩ : ∃ R : Nat, r = R := ⟨r.toNat, by omega⟩
 have h4 : xs.length = F * R := by rw [← Int.natCast_mul] at h2; omega
 have h5 : F * 3 ≤ F * R := Nat.mul_le_mul_left F (by omega)
 exact ⟨F, R, rfl, rfl, by omega, by omega, h4, by omega⟩
set_option maxRecDepth 100000 in
theorem posValid_any (f r ca pa ha fu : Int) (bl : Bool) (p : Option Addr) (c : Nat) (xs : List Int) (hca : 0 ≤ ca ∧ ca < 256) (hl : xs.length ≤ 1000) (hcap : xs.length ≤ c) (w : World) (hg : GlobOk w) (hx : Arr .i8 w p xs) :
  Calls Tryz.prog 27 #[.agg (posCs f r p xs.length c bl ca pa ha fu).toArray] w fun e w' => e = .returned (.bool (pvW f r xs bl ca pa ha fu)) ∧ Below w.heap.size w w' := by
 have hA := HasO.new w (.cells (posCs f r p xs.length c bl ca pa ha fu).toArray 26)
 have hB := below_box w (.cells (posCs f r p xs.length c bl ca pa ha fu).toArray 26)
 have hx1 := hx.call hB
 have hg1 := hg.call hB
 have hcs : ∀ k, cndA f r xs bl ca pa ha fu (k + 1) = (cndA f r xs bl ca pa ha fu k && cnd f r xs bl ca pa ha fu k) := fun _ => rfl
 have hV0 : pvW f r xs bl ca pa ha fu = cndA f r xs bl ca pa ha fu 6 := rfl
 obtain ⟨V, hV⟩ : ∃ V, V = pvW f r xs bl ca pa ha fu := ⟨_, rfl⟩
 rw [← hV] at hV0 ⊢
 clear hV
 have hle := fun k => cndA_le (f := f) (r := r) (xs := xs) (bl := bl) (ca := ca) (pa := pa) (ha := ha) (fu := fu) (k := k)
 have hcd : cnd f r xs bl ca pa ha fu 0 = boardB f r xs ∧ cnd f r xs bl ca pa ha fu 1 = kingsB f r xs bl ∧ cnd f r xs bl ca pa ha fu 2 = pawnsB f.toNat xs ∧ cnd f r xs bl ca pa ha fu 3 = cstB f r xs ca ∧ cnd f r xs bl ca pa ha fu 4 = passB f.toNat r.toNat xs bl pa ha ∧ cnd f r xs bl ca pa ha fu 5 = cntB ha fu := ⟨rfl, rfl, rfl, rfl, rfl, rfl⟩
 have hc1 : cndA f r xs bl ca pa ha fu 1 = true → boardB f r xs = true := fun h => by rw [hcs 0, hcd.1] at h; simp only [Bool.and_eq_true] at h; exact h.2
 have hc2 : ∀ k, cndA f r xs bl ca pa ha fu (k + 1) = true → boardB f r xs = true := by
  intro k
  induction k with
  | zero => exact hc1
  | succ k ih => intro h; rw [hcs (k + 1)] at h; simp only [Bool.and_eq_true] at h; exact ih h.1
 clear hc1
 have hz : cndA f r xs bl ca pa ha fu 0 = true := rfl
 generalize cndA f r xs bl ca pa ha fu = CA at *
 have hbz := fun (h : boardB f r xs = true) => board_nat h
 have k1 := fun q W hq hx => v1_any f r ca pa ha fu bl p c xs q W hq hx
 have k2 := fun q W hq hg hx => v2_any f r ca pa ha fu bl p c xs q W hq hg hx hl hcap
 have k3 : boardB f r xs = true → ∀ q W, HasO W q (.cells (posCs f r p xs.length c bl ca pa ha fu).toArray 26 (0, 0)) → Arr .i8 W p xs → Calls Tryz.prog 76 #[.pointer (some ⟨q, 0, none⟩)] W fun e w' => e = .returned (.bool (cnd f r xs bl ca pa ha fu 2)) ∧ Below W.heap.size W w' := by
  intro h q W hq hx
  obtain ⟨F, R, rfl, rfl, hF, hR, hlen, hFl⟩ := hbz h
  exact v3_any F R ca pa ha fu bl p c xs q W hq hF hFl hx hl hcap
 have k4 : boardB f r xs = true → ∀ q W, HasO W q (.cells (posCs f r p xs.length c bl ca pa ha fu).toArray 26 (0, 0)) → GlobOk W → Arr .i8 W p xs → Calls Tryz.prog 78 #[.pointer (some ⟨q, 0, none⟩)] W fun e w' => e = .returned (.bool (cnd f r xs bl ca pa ha fu 3)) ∧ Below W.heap.size W w' := by
  intro h q W hq hg hx
  obtain ⟨F, R, rfl, rfl, hF, hR, hlen, hFl⟩ := hbz h
  exact v4_any F R ca pa ha fu bl p c xs q W hq (Lib.hid hlen) (by omega) hca hg hx
 have k5 : boardB f r xs = true → ∀ q W, HasO W q (.cells (posCs f r p xs.length c bl ca pa ha fu).toArray 26 (0, 0)) → Arr .i8 W p xs → Calls Tryz.prog 80 #[.pointer (some ⟨q, 0, none⟩)] W fun e w' => e = .returned (.bool (cnd f r xs bl ca pa ha fu 4)) ∧ Below W.heap.size W w' := by
  intro h q W hq hx
  obtain ⟨F, R, rfl, rfl, hF, hR, hlen, hFl⟩ := hbz h
  exact v5_any F R ca pa ha fu bl p c xs q W hq hF hR (Lib.hid hlen) (by omega) hx
 have k6 := fun q W hq => v6_any f r ca pa ha fu bl p xs.length c q W hq
 obtain ⟨d0, d1, d2, d3, d4, d5⟩ := hcd
 rw [← d0] at k1
 rw [← d1] at k2
 rw [← d5] at k6
 clear d0 d1 d2 d3 d4 d5 hbz
 generalize cnd f r xs bl ca pa ha fu = CD at *
 replace hV0 := Lib.hid hV0
 replace hz := Lib.hid hz
 go_enter Tryz.func27, Tryz.ntmps27
 go_wp2_with fail
 show Code.wp _ _ _ _ ((w.alloc (.cells (posCs f r p xs.length c bl ca pa ha fu).toArray 26)).alloc (.cells #[.func (.func 72) #[] #[.pointer (some ⟨w.heap.size, 0, none⟩)], .func (.func 74) #[] #[.pointer (some ⟨w.heap.size, 0, none⟩)], .func (.func 76) #[] #[.pointer (some ⟨w.heap.size, 0, none⟩)], .func (.func 78) #[] #[.pointer (some ⟨w.heap.size, 0, none⟩)], .func (.func 80) #[] #[.pointer (some ⟨w.heap.size, 0, none⟩)], .func (.func 82) #[] #[.pointer (some ⟨w.heap.size, 0, none⟩)]] 28))
 have hb2 := below_box (w.alloc (.cells (posCs f r p xs.length c bl ca pa ha fu).toArray 26)) (.cells #[.func (.func 72) #[] #[.pointer (some ⟨w.heap.size, 0, none⟩)], .func (.func 74) #[] #[.pointer (some ⟨w.heap.size, 0, none⟩)], .func (.func 76) #[] #[.pointer (some ⟨w.heap.size, 0, none⟩)], .func (.func 78) #[] #[.pointer (some ⟨w.heap.size, 0, none⟩)], .func (.func 80) #[] #[.pointer (some ⟨w.heap.size, 0, none⟩)], .func (.func 82) #[] #[.pointer (some ⟨w.heap.size, 0, none⟩)]] 28)
 have hT := HasO.new' (w.alloc (.cells (posCs f r p xs.length c bl ca pa ha fu).toArray 26)) (.cells #[.func (.func 72) #[] #[.pointer (some ⟨w.heap.size, 0, none⟩)], .func (.func 74) #[] #[.pointer (some ⟨w.heap.size, 0, none⟩)], .func (.func 76) #[] #[.pointer (some ⟨w.heap.size, 0, none⟩)], .func (.func 78) #[] #[.pointer (some ⟨w.heap.size, 0, none⟩)], .func (.func 80) #[] #[.pointer (some ⟨w.heap.size, 0, none⟩)], .func (.func 82) #[] #[.pointer (some ⟨w.heap.size, 0, none⟩)]] 28) (q := w.heap.size + 1) (by simp)
 have hA2 := hA.call hb2
 have hB2 := below_call hB hB.size hb2
 have hx2 := hx1.call hb2
 have hg2 := hg1.call hb2
 clear hA hB hx1 hg1 hb2 hx hg
 generalize (w.alloc (.cells (posCs f r p xs.length c bl ca pa ha fu).toArray 26)).alloc (.cells #[.func (.func 72) #[] #[.pointer (some ⟨w.heap.size, 0, none⟩)], .func (.func 74) #[] #[.pointer (some ⟨w.heap.size, 0, none⟩)], .func (.func 76) #[] #[.pointer (some ⟨w.heap.size, 0, none⟩)], .func (.func 78) #[] #[.pointer (some ⟨w.heap.size, 0, none⟩)], .func (.func 80) #[] #[.pointer (some ⟨w.heap.size, 0, none⟩)], .func (.func 82) #[] #[.pointer (some ⟨w.heap.size, 0, none⟩)]] 28) = w2 at *
 go_loopg [15] 7 (fun q iv wr => ∃ i : Nat, q + i = 7 ∧ i ≤ 6 ∧ iv = .int .i64 i ∧ CA i = true ∧ Below w2.heap.size w2 wr)
 case atStart => exact ⟨0, rfl, Nat.zero_le _, rfl, hz.out, Below.refl _ _⟩
 case round =>
  obtain ⟨i, hq, hi, rfl, hok, hbr⟩ := hrel
  have hAr := hA2.call hbr
  have hBr := below_call hB2 hB2.size hbr
  have hxr := hx2.call hbr
  have hgr := hg2.call hbr
  have hTr := hT.call hbr
  have hlr := hTr.lt
  replace hok := Lib.hid hok
  by_cases hlt : i < 6
  ·have hnx := hcs i
   rw [hok.out, Bool.true_and] at hnx
   have hlei := hle (i + 1)
   replace hnx := Lib.hid hnx
   rcases (by omega : i = 0 ∨ i = 1 ∨ i = 2 ∨ i = 3 ∨ i = 4 ∨ i = 5) with rfl | rfl | rfl | rfl | rfl | rfl
   ·have hci := hTr.cells 0
    have hcall := k1 _ _ hAr hxr
    clear k1 k2 k3 k4 k5 k6
    go_wp2_with fail
    refine hcall.mono ?_
    rintro e w3 ⟨rfl, hb3⟩
    have hb4 := below_call hbr hbr.size hb3
    have hB4 := below_call hBr hBr.size hb3
    clear hcall
    rcases hd : CD 0 with _ | _
    ·have e0 : Hid (V = false) := Lib.hid (by rw [hV0.out]; exact hlei (by rw [hnx.out]; exact hd) 5)
     go_wp2_with fail
     go_ret
     exact ⟨by rw [e0.out]; rfl, hB4⟩
    ·have e1 : Hid (CA (0 + 1) = true) := Lib.hid (by rw [hnx.out]; exact hd)
     go_wp2_with fail
     go_roundg (gk - 1)
     case measure => omega
     case rel => exact ⟨0 + 1, by omega, by omega, by go_num, e1.out, hb4⟩
   ·have hci := hTr.cells 1
    have hcall := k2 _ _ hAr hgr hxr
    clear k1 k2 k3 k4 k5 k6
    go_wp2_with fail
    refine hcall.mono ?_
    rintro e w3 ⟨rfl, hb3⟩
    have hb4 := below_call hbr hbr.size hb3
    have hB4 := below_call hBr hBr.size hb3
    clear hcall
    rcases hd : CD 1 with _ | _
    ·have e0 : Hid (V = false) := Lib.hid (by rw [hV0.out]; exact hlei (by rw [hnx.out]; exact hd) 4)
     go_wp2_with fail
     go_ret
     exact ⟨by rw [e0.out]; rfl, hB4⟩
    ·have e1 : Hid (CA (1 + 1) = true) := Lib.hid (by rw [hnx.out]; exact hd)
     go_wp2_with fail
     go_roundg (gk - 1)
     case measure => omega
     case rel => exact ⟨1 + 1, by omega, by omega, by go_num, e1.out, hb4⟩
   ·have hci := hTr.cells 2
    have hcall := k3 (hc2 1 hok.out) _ _ hAr hxr
    clear k1 k2 k3 k4 k5 k6
    go_wp2_with fail
    refine hcall.mono ?_
    rintro e w3 ⟨rfl, hb3⟩
    have hb4 := below_call hbr hbr.size hb3
    have hB4 := below_call hBr hBr.size hb3
    clear hcall
    rcases hd : CD 2 with _ | _
    ·have e0 : Hid (V = false) := Lib.hid (by rw [hV0.out]; exact hlei (by rw [hnx.out]; exact hd) 3)
     go_wp2_with fail
     go_ret
     exact ⟨by rw [e0.out]; rfl, hB4⟩
    ·have e1 : Hid (CA (2 + 1) = true) := Lib.hid (by rw [hnx.out]; exact hd)
     go_wp2_with fail
     go_roundg (gk - 1)
     case measure => omega
     case rel => exact ⟨2 + 1, by omega, by omega, by go_num, e1.out, hb4⟩
   ·have hci := hTr.cells 3
    have hcall := k4 (hc2 2 hok.out) _ _ hAr hgr hxr
    clear k1 k2 k3 k4 k5 k6
    go_wp2_with fail
    refine hcall.mono ?_
    rintro e w3 ⟨rfl, hb3⟩
    have hb4 := below_call hbr hbr.size hb3
    have hB4 := below_call hBr hBr.size hb3
    clear hcall
    rcases hd : CD 3 with _ | _
    ·have e0 : Hid (V = false) := Lib.hid (by rw [hV0.out]; exact hlei (by rw [hnx.out]; exact hd) 2)
     go_wp2_with fail
     go_ret
     exact ⟨by rw [e0.out]; rfl, hB4⟩
    ·have e1 : Hid (CA (3 + 1) = true) := Lib.hid (by rw [hnx.out]; exact hd)
     go_wp2_with fail
     go_roundg (gk - 1)
     case measure => omega
     case rel => exact ⟨3 + 1, by omega, by omega, by go_num, e1.out, hb4⟩
   ·have hci := hTr.cells 4
    have hcall := k5 (hc2 3 hok.out) _ _ hAr hxr
    clear k1 k2 k3 k4 k5 k6
    go_wp2_with fail
    refine hcall.mono ?_
    rintro e w3 ⟨rfl, hb3⟩
    have hb4 := below_call hbr hbr.size hb3
    have hB4 := below_call hBr hBr.size hb3
    clear hcall
    rcases hd : CD 4 with _ | _
    ·have e0 : Hid (V = false) := Lib.hid (by rw [hV0.out]; exact hlei (by rw [hnx.out]; exact hd) 1)
     go_wp2_with fail
     go_ret
     exact ⟨by rw [e0.out]; rfl, hB4⟩
    ·have e1 : Hid (CA (4 + 1) = true) := Lib.hid (by rw [hnx.out]; exact hd)
     go_wp2_with fail
     go_roundg (gk - 1)
     case measure => omega
     case rel => exact ⟨4 + 1, by omega, by omega, by go_num, e1.out, hb4⟩
   ·have hci := hTr.cells 5
    have hcall := k6 _ _ hAr
    clear k1 k2 k3 k4 k5 k6
    go_wp2_with fail
    refine hcall.mono ?_
    rintro e w3 ⟨rfl, hb3⟩
    have hb4 := below_call hbr hbr.size hb3
    have hB4 := below_call hBr hBr.size hb3
    clear hcall
    rcases hd : CD 5 with _ | _
    ·have e0 : Hid (V = false) := Lib.hid (by rw [hV0.out]; exact hlei (by rw [hnx.out]; exact hd) 0)
     go_wp2_with fail
     go_ret
     exact ⟨by rw [e0.out]; rfl, hB4⟩
    ·have e1 : Hid (CA (5 + 1) = true) := Lib.hid (by rw [hnx.out]; exact hd)
     go_wp2_with fail
     go_roundg (gk - 1)
     case measure => omega
     case rel => exact ⟨5 + 1, by omega, by omega, by go_num, e1.out, hb4⟩
  ·have hn : ¬ (i : Int) < 6 := by omega
   obtain rfl : i = 6 := by omega
   have e0 : Hid (V = true) := Lib.hid (by rw [hV0.out]; exact hok.out)
   go_wp2_with fail
   go_ret
   exact ⟨by rw [e0.out]; rfl, hBr⟩
structure Pos where
 F : Nat
 R : Nat
 xs : List Int
 bl : Bool
 ca : Int
 pa : Int
 ha : Int
 fu : Int
 deriving DecidableEq
structure Mv where
 fr : Int
 tg : Int
 pr : Int
 deriving DecidableEq
structure Ret where
 mv : Mv
 cp : Int
 at_ : Int
 ca : Int
 pa : Int
 deriving DecidableEq
structure Und where
 mv : Mv
 cp : Int
 at_ : Int
 ca : Int
 pa : Int
 ha : Int
 fu : Int
 deriving DecidableEq
abbrev Mv.cs (m : Mv) : List Value := [.int .i64 m.fr, .int .i64 m.tg, .int .i8 m.pr]
abbrev Ret.cs (r : Ret) : List Value := r.mv.cs ++ [.int .i8 r.cp, .int .i64 r.at_, .int .u8 r.ca, .int .i64 r.pa]
abbrev Und.cs (u : Und) : List Value := u.mv.cs ++ [.int .i8 u.cp, .int .i64 u.at_, .int .u8 u.ca, .int .i64 u.pa, .int .i64 u.ha, .int .i64 u.fu]
def mvB (F R : Int) (m : Mv) : Bool := sqB F R m.fr && (sqB F R m.tg && (decide (m.fr ≠ m.tg) && (decide (m.pr = 0) || (decide (2 ≤ m.pr) && decide (m.pr ≤ 5)))))
structure Cas where
 bit : Nat
 bl : Bool
 fr : Nat
 tg : Nat
 co : Nat
 cr : Nat
 deriving DecidableEq
def casL : List Cas := [⟨1, false, 4, 6, 7, 5⟩, ⟨2, false, 4, 2, 0, 3⟩, ⟨4, true, 60, 62, 63, 61⟩, ⟨8, true, 60, 58, 56, 59⟩]
def isW (x : Int) (bl : Bool) : Bool := if bl then decide (x < 0) else decide (0 < x)
def Pos.at_ (p : Pos) (k : Int) : Int := p.xs[k.toNat]?.getD 0
def Pos.occ (p : Pos) : Nat := setW gNon p.xs p.xs.length
def btwR (b : Int) : List Int → Nat → Nat
 | [], S => S
 | x :: r, S => if x = b then S else btwR b r (S ||| 2 ^ x.toNat)
def sgn3 (n : Int) : Int := if n < 0 then -1 else if 0 < n then 1 else 0
def btwW (F R a b : Nat) : Nat := btwR b (rayL F R a (sgn3 (((b % F : Nat) : Int) - (a % F : Nat))) (sgn3 (((b / F : Nat) : Int) - (a / F : Nat))) 8 1) 0
def casW (p : Pos) (m : Mv) : List Cas → Option Cas × Bool
 | [] => (none, false)
 | c :: l => if c.bl ≠ p.bl ∨ p.ca.toNat &&& c.bit = 0 ∨ (c.fr : Int) ≠ m.fr ∨ (c.tg : Int) ≠ m.tg then casW p m l else (some c, decide (btwW p.F p.R c.fr c.co &&& p.occ = 0))
def castW (p : Pos) (m : Mv) : Option Cas × Bool := if kindI (p.at_ m.fr) ≠ 6 then (none, false) else casW p m casL
def stpW (F R : Nat) (bl : Bool) (a oc : Nat) : Nat :=
 let one := leapW F R a [(0, sdI bl)] 1 &&& (2 ^ 64 - 1 - oc)
 if one = 0 ∨ R < 6 ∨ ((a / F : Nat) : Int) ≠ (if bl then (R : Int) - 2 else 1) then one else one ||| (leapW F R a [(0, 2 * sdI bl)] 1 &&& (2 ^ 64 - 1 - oc))
def goesW (p : Pos) (m : Mv) : Bool :=
 let own := p.at_ m.fr
 if kindI own ≠ 1 then decide (m.pr = 0) && (reachW p.F p.R m.fr.toNat p.occ (kindI own)).testBit m.tg.toNat
 else
  let atk := if p.at_ m.tg = 0 ∧ m.tg ≠ p.pa then 0 else leapW p.F p.R m.fr.toNat (pwnL p.bl) 2
  (stpW p.F p.R p.bl m.fr.toNat p.occ ||| atk).testBit m.tg.toNat && (decide (m.pr ≠ 0) == decide (((m.tg.toNat / p.F : Nat) : Int) = (if p.bl then 0 else (p.R : Int) - 1)))
def chkS (F R : Nat) (xs : List Int) (bl : Bool) : Nat := if orthB F R xs then (if kgI xs bl < 0 then 0 else chkW F R xs bl) else 0
def orK (f : Cas → Bool) : Nat → Nat
 | 0 => 0
 | k + 1 => match casL[k]? with
  | some c => if f c then orK f k ||| c.bit else orK f k
  | none => orK f k
def lostW (a : Int) : Nat := orK (fun c => decide ((c.fr : Int) = a) || decide ((c.co : Int) = a)) 4
def lostM (m : Mv) : Nat := orK (fun c => decide (m.fr = c.fr) || (decide (m.fr = c.co) || (decide (m.tg = c.fr) || decide (m.tg = c.co)))) 4
def clrN (a b : Nat) : Nat := a &&& (255 - b)
def Pos.ok (p : Pos) : Bool := pvW p.F p.R p.xs p.bl p.ca p.pa p.ha p.fu
def capW (p : Pos) (m : Mv) : Int × Int :=
 let at0 := if kindI (p.at_ m.fr) = 1 ∧ m.tg = p.pa then m.fr - m.fr % p.F + m.tg % p.F else m.tg
 let cp := p.at_ at0
 (if cp = 0 then -1 else at0, cp)
def brdW (p : Pos) (m : Mv) (cs : Option Cas) : List Int :=
 let own := p.at_ m.fr
 let at0 := (capW p m).1
 let x1 := if 0 ≤ at0 then p.xs.set at0.toNat 0 else p.xs
 let x2 := (x1.set m.fr.toNat 0).set m.tg.toNat own
 if m.pr ≠ 0 then x2.set m.tg.toNat (if p.bl then -m.pr else m.pr)
 else match cs with
  | some c => (x2.set c.cr (x2[c.co]?.getD 0)).set c.co 0
  | none => x2
def aftW (p : Pos) (m : Mv) (cs : Option Cas) : Pos :=
 let own := p.at_ m.fr
 let up := m.tg - m.fr
 { F := p.F, R := p.R, xs := brdW p m cs, bl := !p.bl, ca := (clrN p.ca.toNat (lostW m.fr ||| lostW m.tg) : Nat),
   pa := if kindI own = 1 ∧ (up = 2 * p.F ∨ up = -(2 * p.F)) then m.fr + up / 2 else -1,
   ha := if kindI own = 1 ∨ (capW p m).2 ≠ 0 then 0 else p.ha + 1, fu := if p.bl then p.fu + 1 else p.fu }
def undW (p : Pos) (m : Mv) : Und := ⟨m, (capW p m).2, (capW p m).1, p.ca, p.pa, p.ha, p.fu⟩
def mkW (p : Pos) (m : Mv) : Except Int (Pos × Und) :=
 if (p.ok && mvB p.F p.R m) = false then .error 2
 else if isW (p.at_ m.fr) p.bl = false then .error 9
 else
  let cs := castW p m
  let go := goesW p m
  if (isW (p.at_ m.tg) p.bl || (!go && (!cs.2 || decide (m.pr ≠ 0)))) = true then .error 10
  else
   let way : Option Cas := if cs.2 && !go then cs.1 else none
   let out := aftW p m way
   if decide (chkS p.F p.R out.xs p.bl ≠ 0) || (way.isSome && (decide (chkS p.F p.R p.xs p.bl ≠ 0) || decide (atrW p.F p.R (setW gNon p.xs p.xs.length) p.xs ((way.map Cas.cr).getD 0) (!p.bl) p.xs.length ≠ 0))) then .error 90
   else if 10000 < out.ha ∨ 10000 < out.fu then .error 7
   else .ok (out, undW p m)
def befW (p : Pos) (r : Ret) : Pos :=
 let side := !p.bl
 let own := if r.mv.pr ≠ 0 then pcI 1 side else p.at_ r.mv.tg
 let x1 := (p.xs.set r.mv.tg.toNat 0).set r.mv.fr.toNat own
 let x2 := casL.foldl (fun x c => if p.F = 8 ∧ p.R = 8 ∧ own = pcI 6 side ∧ c.bl = side ∧ (c.fr : Int) = r.mv.fr ∧ (c.tg : Int) = r.mv.tg then (x.set c.co (x[c.cr]?.getD 0)).set c.cr 0 else x) x1
 let x3 := if 0 ≤ r.at_ ∧ r.at_ < x2.length then x2.set r.at_.toNat r.cp else x2
 { F := p.F, R := p.R, xs := x3, bl := side, ca := r.ca, pa := r.pa, ha := max 0 (p.ha - 1), fu := if side then p.fu - 1 else p.fu }
def mayW (p : Pos) (r : Ret) : Bool :=
 match mkW (befW p r) r.mv with
 | .ok (q, u) => decide (q = p) && (decide (u.cp = r.cp) && decide (u.at_ = r.at_))
 | .error _ => false
theorem wdiv (a F : Nat) (ha : a < 1000) : wrap64 ((a : Int) / F) = ((a / F : Nat) : Int) := by
 have h1 : a / F ≤ a := Nat.div_le_self _ _
 rw [← Int.natCast_ediv]
 generalize a / F = K at *
 exact IntWalk.wrap64_in _ (by omega)
theorem kind64_any (x : Int) (hx : -128 < x ∧ x ≤ 127) (w : World) : Calls Tryz.prog 64 #[.int .i8 x] w fun e w' => e = .returned (.int .i8 (kindI x)) ∧ w = w' := by
 have hn : IntKind.i8.wrap (-x) = -x := i8_in (by omega) (by omega)
 have hk : kindI x = max x (-x) := by unfold kindI; split <;> omega
 rw [hk]
 go_enter Tryz.func64, Tryz.ntmps64
 go_wp2
 go_ret
 exact ⟨rfl, rfl⟩
theorem kind30_any (x : Int) (hx : -128 < x ∧ x ≤ 127) (w : World) : Calls Tryz.prog 30 #[.int .i8 x] w fun e w' => e = .returned (.int .i8 (kindI x)) ∧ w = w' := by
 have hn : IntKind.i8.wrap (-x) = -x := i8_in (by omega) (by omega)
 have hk : kindI x = max x (-x) := by unfold kindI; split <;> omega
 rw [hk]
 go_enter Tryz.func30, Tryz.ntmps30
 go_wp2
 go_ret
 exact ⟨rfl, rfl⟩
theorem of92_any (k : Int) (bl : Bool) (hk : -128 < k ∧ k ≤ 127) (w : World) : Calls Tryz.prog 92 #[.int .i8 k, .bool bl] w fun e w' => e = .returned (.int .i8 (pcI k bl)) ∧ w = w' := by
 have hn : IntKind.i8.wrap (-k) = -k := i8_in (by omega) (by omega)
 cases bl
 all_goals
  go_enter Tryz.func92, Tryz.ntmps92
  go_wp2
  go_ret
  exact ⟨rfl, rfl⟩
theorem isW_any (x : Int) (bl : Bool) (w : World) : Calls Tryz.prog 61 #[.int .i8 x, .bool bl] w fun e w' => e = .returned (.bool (isW x bl)) ∧ w = w' := by
 by_cases h1 : x < 0 <;> by_cases h2 : 0 < x <;> cases bl
 all_goals first
  | (exfalso; omega)
  | (go_enter Tryz.func61, Tryz.ntmps61
     go_wp2
     go_ret
     exact ⟨ret_bool (by simp [isW, h1, h2]), rfl⟩)
def noP (e : Int) : List PanicEntry := [{ v := .iface 31 (.int .i64 e), recovered := false }]
theorem refuse_no (e : Int) (w : World) : Calls Tryz.prog 60 #[.bool false, .int .i64 e] w fun r w' => r = .returned (.tuple #[]) ∧ w = w' := by
 go_enter Tryz.func60, Tryz.ntmps60
 go_wp2
 go_end0
 exact ⟨rfl, rfl⟩
theorem refuse_yes (e : Int) (w : World) : Calls Tryz.prog 60 #[.bool true, .int .i64 e] w fun r w' => r = .panicked (noP e) ∧ w = w' := by
 go_enter Tryz.func60, Tryz.ntmps60
 go_wp2
 exact ⟨rfl, rfl, rfl⟩
theorem occ_any (f r ca pa ha fu : Int) (bl : Bool) (p : Option Addr) (c : Nat) (xs : List Int) (w : World) (hx : Arr .i8 w p xs) (hok : boardB f r xs = true) :
  Calls Tryz.prog 119 #[.agg (posCs f r p xs.length c bl ca pa ha fu).toArray] w fun e w' => e = .returned (.int .u64 (setW gNon xs xs.length : Nat)) ∧ Below w.heap.size w w' := by
 obtain ⟨hs1, hlen, _⟩ := boardB_fact hok
 have hm := size_mul hs1
 have hl : xs.length ≤ 64 := by omega
 have hB := below_box w (.cells (posCs f r p xs.length c bl ca pa ha fu).toArray 26)
 have hx1 := hx.call hB
 have hs := fun W h => sides_any f r p c xs W h hok
 have e1 : Hid (bits .or .u64 (setW gPos xs xs.length : Nat) (setW gNeg xs xs.length : Nat) = ((setW gNon xs xs.length : Nat) : Int)) := Lib.hid (by
  rw [u64_or_nat _ _ (setW_lt _ _ hl) (setW_lt _ _ hl), setW_or])
 clear hs1 hlen hm
 go_enter Tryz.func119, Tryz.ntmps119
 go_wp2_with fail
 refine (hs _ hx1).mono ?_
 rintro e w2 ⟨rfl, hb2⟩
 go_wp2_with fail
 go_ret
 exact ⟨by rw [← e1.out]; rfl, below_call hB hB.size hb2⟩
theorem chkV_eq (F R : Nat) (xs : List Int) (cl : Bool) : ∃ e, chkV F R xs cl = .tuple #[.int .u64 (chkS F R xs cl : Nat), .int .i64 e] := by
 unfold chkV chkS
 split
 ·split
  iterate 2 exact ⟨_, rfl⟩
 ·exact ⟨_, rfl⟩
theorem checked_any (F R : Nat) (ca pa ha fu : Int) (bl cl : Bool) (p : Option Addr) (c : Nat) (xs : List Int) (w : World) (hg : GlobOk w) (hx : Arr .i8 w p xs) (hl : xs.length ≤ 1000) (hcap : xs.length ≤ c) :
  Calls Tryz.prog 68 #[.agg (posCs F R p xs.length c bl ca pa ha fu).toArray, .bool cl] w fun e w' => e = .returned (.bool (decide (chkS F R xs cl ≠ 0))) ∧ Below w.heap.size w w' := by
 have hB := below_box w (.cells (posCs F R p xs.length c bl ca pa ha fu).toArray 26)
 have hx1 := hx.call hB
 have hg1 := hg.call hB
 have hc := fun W hg h => checkers_any F R cl p c xs W hg h hl hcap
 obtain ⟨e2, he⟩ := chkV_eq F R xs cl
 rw [he] at hc
 clear he
 generalize chkS F R xs cl = S at *
 go_enter Tryz.func68, Tryz.ntmps68
 go_wp2_with fail
 refine (hc _ hg1 hx1).mono ?_
 rintro e w2 ⟨rfl, hb2⟩
 go_wp2_with fail
 go_ret
 exact ⟨ret_bool (by by_cases h : S = 0 <;> simp [h]), below_call hB hB.size hb2⟩
def casV : List Value := casL.flatMap fun c => [.int .u8 c.bit, .bool c.bl, .int .i64 c.fr, .int .i64 c.tg, .int .i64 c.co, .int .i64 c.cr]
def GlobU (w : World) : Prop := GlobOk w ∧ (∀ j v, casV[j]? = some v → w.cell? ⟨0, j, none⟩ = some v) ∧ (∀ j v, casV[j]? = some v → w.cell? ⟨2, j, none⟩ = some v) ∧ w.cell? ⟨1, 0, none⟩ = some (.int .i64 8) ∧ w.cell? ⟨1, 1, none⟩ = some (.int .i64 8)
theorem GlobU.call {w w' : World} (h : GlobU w) (hb : Below w.heap.size w w') : GlobU w' := by
 obtain ⟨h1, h2, h3, h4, h5⟩ := h
 have hk : ∀ {q j : Nat} {v : Value}, w.cell? ⟨q, j, none⟩ = some v → w'.cell? ⟨q, j, none⟩ = some v := fun {q j v} h => by
  rw [(bcell hb).1 q j (block_lt_of_cell h)]; exact h
 exact ⟨h1.call hb, fun j v e => hk (h2 j v e), fun j v e => hk (h3 j v e), hk h4, hk h5⟩
theorem ld2 (w : World) (h : GlobU w) : (loadVar 150 ⟨2, 0, none⟩).run Tryz.prog w = .ok (.agg casV.toArray) w :=
 run_loadA casV (by kernel_rfl) (fun j v e => by rw [Nat.zero_add]; exact h.2.2.1 j v e)
theorem ld0 (w : World) (h : GlobU w) : (loadVar 132 ⟨0, 0, none⟩).run Tryz.prog w = .ok (.agg casV.toArray) w :=
 run_loadA casV (by kernel_rfl) (fun j v e => by rw [Nat.zero_add]; exact h.2.1 j v e)
abbrev Cas.cs (c : Cas) : List Value := [.int .u8 c.bit, .bool c.bl, .int .i64 c.fr, .int .i64 c.tg, .int .i64 c.co, .int .i64 c.cr]
abbrev Cas.ok (c : Cas) : Prop := c.bit < 16 ∧ c.fr < 64 ∧ c.tg < 64 ∧ c.co < 64 ∧ c.cr < 64 ∧ 0 < c.bit
theorem ix2 (i : Nat) (h : i < 4) : ∃ c, casL[i]? = some c ∧ c.ok ∧ ∀ W, (Instr.index 150 (.agg casV.toArray) (.int .i64 i)).run Tryz.prog W = .ok (.agg c.cs.toArray) W := by
 rcases (by omega : i = 0 ∨ i = 1 ∨ i = 2 ∨ i = 3) with rfl | rfl | rfl | rfl <;> exact ⟨_, rfl, by decide, fun W => by kernel_rfl⟩
theorem ix0 (i : Nat) (h : i < 4) : ∃ c, casL[i]? = some c ∧ c.ok ∧ ∀ W, (Instr.index 132 (.agg casV.toArray) (.int .i64 i)).run Tryz.prog W = .ok (.agg c.cs.toArray) W := by
 rcases (by omega : i = 0 ∨ i = 1 ∨ i = 2 ∨ i = 3) with rfl | rfl | rfl | rfl <;> exact ⟨_, rfl, by decide, fun W => by kernel_rfl⟩
end Go.Proofs.YtefmplccbkmalaaGreatDoor
