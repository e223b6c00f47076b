import Derived.Test.YtnpomigmeieofaaGreatDoorS09
import Derived.Test.YtnpomigmeieofaaGreatDoorS10
import Derived.Test.YtnpomigmeieofaaGreatDoorS36
import Derived.Test.YtnpomigmeieofaaGreatDoorS50
set_option maxHeartbeats 12800000
namespace Go.Proofs.YtnpomigmeieofaaGreatDoor
open Go.RowKit

def mA : Men := ⟨3, 4, 0, 0, 0, 0, 1, 0, 0, 0, 2, 0⟩
def mKK : Men := ⟨3, 3, 0, 0, 0, 0, 0, 0, 0, 0, 0, 0⟩
def mKQ : Men := ⟨3, 3, 0, 0, 0, 0, 1, 0, 0, 0, 0, 0⟩
def mNN : Men := ⟨3, 3, 0, 2, 0, 0, 0, 0, 0, 0, 0, 0⟩
def mKP : Men := ⟨3, 3, 1, 0, 0, 0, 0, 0, 0, 0, 0, 0⟩
def mKB : Men := ⟨3, 3, 0, 0, 1, 0, 0, 0, 0, 0, 0, 0⟩
def mKN : Men := ⟨3, 3, 0, 1, 0, 0, 0, 0, 0, 0, 0, 0⟩
def mKR : Men := ⟨3, 3, 0, 0, 0, 1, 0, 0, 0, 0, 0, 0⟩
abbrev sA : List UInt8 := [51, 120, 52, 32, 75, 81, 75, 82, 82]
abbrev sA2 : List UInt8 := [51, 120, 52, 32, 75, 82, 81, 75]
abbrev sKK : List UInt8 := [51, 120, 51, 32, 75, 75]
abbrev sKQ : List UInt8 := [51, 120, 51, 32, 75, 81, 75]
abbrev sNN : List UInt8 := [51, 120, 51, 32, 75, 78, 78, 75]
abbrev sKP : List UInt8 := [51, 120, 51, 32, 75, 80, 75]
abbrev sKB : List UInt8 := [51, 120, 51, 32, 75, 66, 75]
abbrev sKN : List UInt8 := [51, 120, 51, 32, 75, 78, 75]
abbrev sKR : List UInt8 := [51, 120, 51, 32, 75, 82, 75]
theorem kn_vA : validB mA = true := by decide +kernel
theorem kn_tA : textL mA = sA := by decide +kernel
theorem kn_pA : parseC sA = some mA := by decide +kernel
theorem kn_pA2 : parseC sA2 = none := by decide +kernel
theorem kn_pKK : parseC sKK = some mKK := by decide +kernel
theorem kn_pKQ : parseC sKQ = some mKQ := by decide +kernel
theorem kn_pNN : parseC sNN = some mNN := by decide +kernel
theorem kn_pKP : parseC sKP = some mKP := by decide +kernel
theorem kn_pKB : parseC sKB = some mKB := by decide +kernel
theorem kn_pKN : parseC sKN = some mKN := by decide +kernel
theorem kn_pKR : parseC sKR = some mKR := by decide +kernel
theorem kn_cKK : cntE mKK = (162, 0) := by decide +kernel
theorem kn_cKQ : cntE mKQ = (1458, 0) := by decide +kernel
theorem kn_cNN : cntE mNN = (5832, 0) := by decide +kernel
abbrev t1 : List UInt8 := [51, 120, 51, 32, 107, 50, 47, 51, 47, 75, 50, 32, 119, 32, 45, 32, 45, 32, 48, 32, 49]
abbrev t2 : List UInt8 := [51, 120, 51, 32, 107, 50, 47, 51, 47, 75, 49, 78, 32, 119, 32, 45, 32, 45, 32, 48, 32, 49]
abbrev t3 : List UInt8 := [51, 120, 51, 32, 107, 50, 47, 51, 47, 49, 75, 49, 32, 98, 32, 45, 32, 45, 32, 55, 32, 57]
abbrev r1 : List (List UInt8) := [[107, 50], [51], [75, 50]]
abbrev r2 : List (List UInt8) := [[107, 50], [51], [75, 49, 78]]
abbrev r3 : List (List UInt8) := [[107, 50], [51], [49, 75, 49]]
theorem kn_PP1 : PP t1 [107, 50, 47, 51, 47, 75, 50] r1 3 3 0 1 false := ⟨by decide, by decide +kernel, by decide, by decide +kernel, rfl, by omega, by omega, by decide +kernel, by omega, by omega, by decide +kernel⟩
theorem kn_PP2 : PP t2 [107, 50, 47, 51, 47, 75, 49, 78] r2 3 3 0 1 false := ⟨by decide, by decide +kernel, by decide, by decide +kernel, rfl, by omega, by omega, by decide +kernel, by omega, by omega, by decide +kernel⟩
theorem kn_PP3 : PP t3 [107, 50, 47, 51, 47, 49, 75, 49] r3 3 3 7 9 true := ⟨by decide, by decide +kernel, by decide, by decide +kernel, rfl, by omega, by omega, by decide +kernel, by omega, by omega, by decide +kernel⟩
theorem kn_81 : ∀ x ∈ brdL r1 3, -128 ≤ x ∧ x ≤ 127 := by decide +kernel
theorem kn_82 : ∀ x ∈ brdL r2 3, -128 ≤ x ∧ x ≤ 127 := by decide +kernel
theorem kn_83 : ∀ x ∈ brdL r3 3, -128 ≤ x ∧ x ≤ 127 := by decide +kernel
theorem kn_n1 : numE ((3 : Nat) : Int) ((3 : Nat) : Int) (brdL r1 3) false 0 (-1) ((0 : Nat) : Int) ((1 : Nat) : Int) = (((6 : Nat) : Int), 0) := by decide +kernel
theorem kn_n2 : numE ((3 : Nat) : Int) ((3 : Nat) : Int) (brdL r2 3) false 0 (-1) ((0 : Nat) : Int) ((1 : Nat) : Int) = (((56 : Nat) : Int), 0) := by decide +kernel
theorem kn_n3 : numE ((3 : Nat) : Int) ((3 : Nat) : Int) (brdL r3 3) true 0 (-1) ((7 : Nat) : Int) ((9 : Nat) : Int) = (((96 : Nat) : Int), 0) := by decide +kernel
theorem kn_q6 : (fr2P 9 6 && pvB ((3 : Nat) : Int) ((3 : Nat) : Int) (xs2P 9 6) (blP 9 6) 0 (-1) 0 1) = true := by decide +kernel
theorem kn_x6 : xs2P 9 6 = brdL r1 3 := by decide +kernel
theorem kn_b6 : blP 9 6 = false := by decide +kernel
theorem kn_q0 : fr2P 9 0 = false := by decide +kernel
theorem kn_grp : ∀ j, j < 10 → mKK.grp j = 0 := by decide +kernel
theorem kn_vKQ : validB mKQ = true := by decide +kernel
theorem kn_vKP : validB mKP = true := by decide +kernel
theorem kn_v36 : validB men36 = false := by decide +kernel
theorem kn_sKQ : nxtS mKQ = [mKK] := by decide +kernel
theorem kn_sKP : nxtS mKP = [mKB, mKK, mKN, mKQ, mKR] := by decide +kernel
theorem kn_end : EndAt mKQ 2 := ⟨fun j hj => by rcases (by omega : j = 0 ∨ j = 1) with rfl | rfl <;> decide +kernel, by decide +kernel⟩
theorem kn_cl : srtD cmpC (bfs mKQ 2) = [mKK, mKQ] := by decide +kernel
end Go.Proofs.YtnpomigmeieofaaGreatDoor
namespace Go.Proofs.YtnpomigmeieofaaGreatDoor
open Go.RowKit
attribute [local go_sem] Oper.semAt_some

theorem kc_text (W : World) : Calls Tryz.prog 8 #[.agg mA.cs.toArray] W fun e w' => e = .returned (.tuple #[.string { data := #[51, 120, 52, 32, 75, 81, 75, 82, 82] }, .int .i64 0]) ∧ Below W.heap.size W w' := by
 have h := Text_any mA W
 rw [if_pos kn_vA, kn_tA] at h
 exact h
theorem kc_parse1 (W : World) (hm : MaxOk W) : Calls Tryz.prog 12 #[.string { data := #[51, 120, 52, 32, 75, 81, 75, 82, 82] }] W fun e w' => e = .returned (.tuple #[.agg mA.cs.toArray, .int .i64 0]) ∧ Below W.heap.size W w' := by
 have h := parse_any sA W (by decide) hm
 rw [show parseV sA = .tuple #[.agg mA.cs.toArray, .int .i64 0] from by unfold parseV; rw [kn_pA]] at h
 exact h
theorem kc_parse2 (W : World) (hm : MaxOk W) : Calls Tryz.prog 12 #[.string { data := #[51, 120, 52, 32, 75, 82, 81, 75] }] W fun e w' => e = .returned (.tuple #[.agg zeroMen.cs.toArray, .int .i64 6]) ∧ Below W.heap.size W w' := by
 have h := parse_any sA2 W (by decide) hm
 rw [show parseV sA2 = .tuple #[.agg zeroMen.cs.toArray, .int .i64 6] from by unfold parseV; rw [kn_pA2]] at h
 exact h
theorem kc_KK (W : World) : Calls Tryz.prog 31 #[.string { data := #[51, 120, 51, 32, 75, 75] }] W fun e w' => e = .returned (.agg mKK.cs.toArray) ∧ Below W.heap.size W w' := lawMen_any sKK mKK W (by decide) kn_pKK
theorem kc_KQ (W : World) : Calls Tryz.prog 31 #[.string { data := #[51, 120, 51, 32, 75, 81, 75] }] W fun e w' => e = .returned (.agg mKQ.cs.toArray) ∧ Below W.heap.size W w' := lawMen_any sKQ mKQ W (by decide) kn_pKQ
theorem kc_NN (W : World) : Calls Tryz.prog 31 #[.string { data := #[51, 120, 51, 32, 75, 78, 78, 75] }] W fun e w' => e = .returned (.agg mNN.cs.toArray) ∧ Below W.heap.size W w' := lawMen_any sNN mNN W (by decide) kn_pNN
theorem kc_KP (W : World) : Calls Tryz.prog 31 #[.string { data := #[51, 120, 51, 32, 75, 80, 75] }] W fun e w' => e = .returned (.agg mKP.cs.toArray) ∧ Below W.heap.size W w' := lawMen_any sKP mKP W (by decide) kn_pKP
theorem kc_cKK (W : World) : Calls Tryz.prog 20 #[.agg mKK.cs.toArray] W fun e w' => e = .returned (.tuple #[.int .i64 162, .int .i64 0]) ∧ Below W.heap.size W w' := by
 have h := Count_any mKK W
 rw [kn_cKK] at h
 exact h
theorem kc_cKQ (W : World) : Calls Tryz.prog 20 #[.agg mKQ.cs.toArray] W fun e w' => e = .returned (.tuple #[.int .i64 1458, .int .i64 0]) ∧ Below W.heap.size W w' := by
 have h := Count_any mKQ W
 rw [kn_cKQ] at h
 exact h
theorem kc_cNN (W : World) : Calls Tryz.prog 20 #[.agg mNN.cs.toArray] W fun e w' => e = .returned (.tuple #[.int .i64 5832, .int .i64 0]) ∧ Below W.heap.size W w' := by
 have h := Count_any mNN W
 rw [kn_cNN] at h
 exact h
theorem kc_n1 (W : World) (hg : GlobOk W) : Calls Tryz.prog 32 #[.string { data := #[51, 120, 51, 32, 107, 50, 47, 51, 47, 75, 50, 32, 119, 32, 45, 32, 45, 32, 48, 32, 49] }, .int .i64 6] W fun e w' => e = .returned (.bool true) ∧ Below W.heap.size W w' := lawNumber_any t1 _ r1 3 3 0 1 false 6 kn_PP1 kn_81 kn_n1 W hg
theorem kc_n2 (W : World) (hg : GlobOk W) : Calls Tryz.prog 32 #[.string { data := #[51, 120, 51, 32, 107, 50, 47, 51, 47, 75, 49, 78, 32, 119, 32, 45, 32, 45, 32, 48, 32, 49] }, .int .i64 56] W fun e w' => e = .returned (.bool true) ∧ Below W.heap.size W w' := lawNumber_any t2 _ r2 3 3 0 1 false 56 kn_PP2 kn_82 kn_n2 W hg
theorem kc_n3 (W : World) (hg : GlobOk W) : Calls Tryz.prog 32 #[.string { data := #[51, 120, 51, 32, 107, 50, 47, 51, 47, 49, 75, 49, 32, 98, 32, 45, 32, 45, 32, 55, 32, 57] }, .int .i64 96] W fun e w' => e = .returned (.bool true) ∧ Below W.heap.size W w' := lawNumber_any t3 _ r3 3 3 7 9 true 96 kn_PP3 kn_83 kn_n3 W hg
theorem kc_p6 (W : World) (hg : GlobOk W) : Calls Tryz.prog 21 #[.agg mKK.cs.toArray, .int .i64 6] W fun e w' => (∃ gp, e = .returned (.tuple #[.agg (posCs 3 3 (some ⟨gp, 0, none⟩) 9 9 false 0 (-1) 0 1).toArray, .int .i64 0]) ∧ Arr .i8 w' (some ⟨gp, 0, none⟩) (brdL r1 3)) ∧ Below W.heap.size W w' := by
 refine (pos0_any mKK 3 3 9 6 rfl rfl rfl (by decide) (by decide) kn_grp kn_cKK (by decide) W hg).mono ?_
 rintro e w' ⟨h, hb⟩
 rw [if_pos kn_q6] at h
 obtain ⟨gp, he, _, hP⟩ := h
 rw [kn_x6] at hP
 rw [kn_b6] at he
 exact ⟨⟨gp, he, arr_pcs hP⟩, hb⟩
theorem kc_p0 (W : World) (hg : GlobOk W) : Calls Tryz.prog 21 #[.agg mKK.cs.toArray, .int .i64 0] W fun e w' => e = .returned (.tuple #[.agg (posCs 0 0 none 0 0 false 0 0 0 0).toArray, .int .i64 9]) ∧ Below W.heap.size W w' := by
 refine (pos0_any mKK 3 3 9 0 rfl rfl rfl (by decide) (by decide) kn_grp kn_cKK (by decide) W hg).mono ?_
 rintro e w' ⟨h, hb⟩
 rw [if_neg (by rw [kn_q0]; simp)] at h
 exact ⟨h, hb⟩
theorem kc_p9 (W : World) : Calls Tryz.prog 21 #[.agg mKK.cs.toArray, .int .i64 162] W fun e w' => e = .returned (.tuple #[.agg (posCs 0 0 none 0 0 false 0 0 0 0).toArray, .int .i64 3]) ∧ Below W.heap.size W w' := posOut_any mKK 162 162 kn_cKK (Nat.le_refl _) W
theorem kc_t1 (W : World) : Calls Tryz.prog 33 #[.string { data := #[51, 120, 51, 32, 107, 50, 47, 51, 47, 75, 50, 32, 119, 32, 45, 32, 45, 32, 48, 32, 49] }] W fun e w' => (∃ p c, e = .returned (.tuple #[.agg (posCs 3 3 p 9 c false 0 (-1) 0 1).toArray, .bool true]) ∧ 9 ≤ c ∧ Arr .i8 w' p (brdL r1 3)) ∧ Below W.heap.size W w' := kn_PP1.parse W
theorem kc_eq (gp c : Nat) (p : Option Addr) (W : World) (h1 : Arr .i8 W (some ⟨gp, 0, none⟩) (brdL r1 3)) (h2 : Arr .i8 W p (brdL r1 3)) :
  Calls Tryz.prog 17 #[.agg (posCs 3 3 (some ⟨gp, 0, none⟩) 9 9 false 0 (-1) 0 1).toArray, .agg (posCs 3 3 p 9 c false 0 (-1) 0 1).toArray] W fun e w' => e = .returned (.bool true) ∧ Below W.heap.size W w' :=
 equal_any 3 3 0 (-1) 0 1 false (some ⟨gp, 0, none⟩) p 9 9 c (brdL r1 3) (by decide +kernel) (by decide) W h1 h2
theorem kc_nQ (W : World) : Calls Tryz.prog 25 #[.agg mKQ.cs.toArray] W fun e w' => (∃ v, e = .returned (.tuple #[v, .int .i64 0]) ∧ w'.ownsRow W.heap.size 26 12 v 1 (mensV [mKK])) ∧ Below W.heap.size W w' := by
 have h := Next_any mKQ kn_vKQ W
 rw [kn_sKQ] at h
 exact h
theorem kc_nP (W : World) : Calls Tryz.prog 25 #[.agg mKP.cs.toArray] W fun e w' => (∃ v, e = .returned (.tuple #[v, .int .i64 0]) ∧ w'.ownsRow W.heap.size 26 12 v 5 (mensV [mKB, mKK, mKN, mKQ, mKR])) ∧ Below W.heap.size W w' := by
 have h := Next_any mKP kn_vKP W
 rw [kn_sKP] at h
 exact h
theorem kc_cl (W : World) : Calls Tryz.prog 26 #[.agg mKQ.cs.toArray] W fun e w' => (∃ v, e = .returned (.tuple #[v, .int .i64 0]) ∧ w'.ownsRow W.heap.size 26 12 v 2 (mensV [mKK, mKQ])) ∧ Below W.heap.size W w' := by
 refine (closure_any mKQ kn_vKQ W).mono ?_
 rintro e w' ⟨⟨v, n, hE, he, ho⟩, hb⟩
 obtain rfl := hE.uniq kn_end
 rw [kn_cl] at ho
 exact ⟨⟨v, he, ho⟩, hb⟩
theorem kc_v36 (W : World) : Calls Tryz.prog 9 #[.agg men36.cs.toArray] W fun e w' => e = .returned (.bool false) ∧ Below W.heap.size W w' := by
 have h := valid_any men36 W
 rw [kn_v36] at h
 exact h
theorem kc_s1 (v : Value) (base g2 : Nat) (W : World) (hown : W.ownsRow base 26 12 v 1 (mensV [mKK])) (hO : HasO W g2 (.cells #[.string { data := #[51, 120, 51, 32, 75, 75] }] 9 (0, 0))) :
  Calls Tryz.prog 34 #[v, .int .i64 0, .slice (some ⟨g2, 0, none⟩) 1 1] W fun e w' => e = .returned (.bool true) ∧ Below W.heap.size W w' := by
 refine sets_any 1 v [mKK] g2 [sKK] rfl (by decide) (by decide) rfl ?_ W base hown hO.lt ?_
 ·intro j hj
  have hj9 : j = 0 := by simp at hj; omega
  subst hj9
  exact ⟨by decide, kn_pKK⟩
 ·intro j hj
  have hj9 : j = 0 := by simp at hj; omega
  subst hj9
  rw [hO.cells 0]; rfl
theorem kc_s5 (v : Value) (base g2 : Nat) (W : World) (hown : W.ownsRow base 26 12 v 5 (mensV [mKB, mKK, mKN, mKQ, mKR])) (hO : HasO W g2 (.cells #[.string { data := #[51, 120, 51, 32, 75, 66, 75] }, .string { data := #[51, 120, 51, 32, 75, 75] }, .string { data := #[51, 120, 51, 32, 75, 78, 75] }, .string { data := #[51, 120, 51, 32, 75, 81, 75] }, .string { data := #[51, 120, 51, 32, 75, 82, 75] }] 9 (0, 0))) :
  Calls Tryz.prog 34 #[v, .int .i64 0, .slice (some ⟨g2, 0, none⟩) 5 5] W fun e w' => e = .returned (.bool true) ∧ Below W.heap.size W w' := by
 refine sets_any 5 v [mKB, mKK, mKN, mKQ, mKR] g2 [sKB, sKK, sKN, sKQ, sKR] rfl (by decide) (by decide) rfl ?_ W base hown hO.lt ?_
 ·intro j hj
  have hj9 : j = 0 ∨ j = 1 ∨ j = 2 ∨ j = 3 ∨ j = 4 := by simp at hj; omega
  rcases hj9 with rfl | rfl | rfl | rfl | rfl
  ·exact ⟨by decide, kn_pKB⟩
  ·exact ⟨by decide, kn_pKK⟩
  ·exact ⟨by decide, kn_pKN⟩
  ·exact ⟨by decide, kn_pKQ⟩
  ·exact ⟨by decide, kn_pKR⟩
 ·intro j hj
  have hj9 : j = 0 ∨ j = 1 ∨ j = 2 ∨ j = 3 ∨ j = 4 := by simp at hj; omega
  rcases hj9 with rfl | rfl | rfl | rfl | rfl <;> (rw [hO.cells]; rfl)
theorem kc_s2 (v : Value) (base g2 : Nat) (W : World) (hown : W.ownsRow base 26 12 v 2 (mensV [mKK, mKQ])) (hO : HasO W g2 (.cells #[.string { data := #[51, 120, 51, 32, 75, 75] }, .string { data := #[51, 120, 51, 32, 75, 81, 75] }] 9 (0, 0))) :
  Calls Tryz.prog 34 #[v, .int .i64 0, .slice (some ⟨g2, 0, none⟩) 2 2] W fun e w' => e = .returned (.bool true) ∧ Below W.heap.size W w' := by
 refine sets_any 2 v [mKK, mKQ] g2 [sKK, sKQ] rfl (by decide) (by decide) rfl ?_ W base hown hO.lt ?_
 ·intro j hj
  have hj9 : j = 0 ∨ j = 1 := by simp at hj; omega
  rcases hj9 with rfl | rfl
  ·exact ⟨by decide, kn_pKK⟩
  ·exact ⟨by decide, kn_pKQ⟩
 ·intro j hj
  have hj9 : j = 0 ∨ j = 1 := by simp at hj; omega
  rcases hj9 with rfl | rfl <;> (rw [hO.cells]; rfl)
set_option maxRecDepth 100000 in
theorem known_any (w : World) (hg : GlobOk w) (hm : MaxOk w) : Calls Tryz.prog 7 #[] w fun e w' => e = .returned (.bool true) ∧ Below w.heap.size w w' := by
 have hw0 : 0 < w.heap.size := by obtain ⟨_, _, h⟩ := hm; exact h
 have hM := HasO.new w (.cells (⟨3, 4, 0, 0, 0, 0, 0, 0, 0, 0, 0, 0⟩ : Men).cs.toArray 26)
 have hB := below_box w (.cells (⟨3, 4, 0, 0, 0, 0, 0, 0, 0, 0, 0, 0⟩ : Men).cs.toArray 26)
 go_enter Tryz.func7, Tryz.ntmps7
 go_upto_region 2 with fail
 show Code.wp _ _ _ _ (w.alloc (.cells (⟨3, 4, 0, 0, 0, 0, 0, 0, 0, 0, 0, 0⟩ : Men).cs.toArray 26))
 generalize w.alloc (.cells (⟨3, 4, 0, 0, 0, 0, 0, 0, 0, 0, 0, 0⟩ : Men).cs.toArray 26) = w1 at *
 obtain ⟨q1, hq1⟩ : ∃ q, q = w.heap.size := ⟨_, rfl⟩
 rw [← hq1] at hM ⊢
 replace hq1 := Lib.hid hq1
 have hA : Alt q1 (q1 + 1) w1 ((w1.setCell ⟨q1, 6, none⟩ (.int .i64 1)).setCell ⟨q1, 10, none⟩ (.int .i64 2)) := (Alt.setCell (p := ⟨q1, 6, none⟩) ⟨Nat.le_refl _, Nat.lt_succ_self _⟩).trans (Alt.setCell (p := ⟨q1, 10, none⟩) ⟨Nat.le_refl _, Nat.lt_succ_self _⟩)
 have hM2 : HasO ((w1.setCell ⟨q1, 6, none⟩ (.int .i64 1)).setCell ⟨q1, 10, none⟩ (.int .i64 2)) q1 (.cells mA.cs.toArray 26 (0, 0)) := (hM.set_ 6 (.int .i64 1)).set_ 10 (.int .i64 2)
 have hB2 := hA.below hB (by rw [hq1.out]; exact Nat.le_refl _) hB.size
 have hc := hM.cells
 have hf := hM.frozen
 have hl := hM.lt
 clear hA hB hM
 go_upto_region 3 with fail
 generalize (w1.setCell ⟨q1, 6, none⟩ (.int .i64 1)).setCell ⟨q1, 10, none⟩ (.int .i64 2) = w2 at *
 clear hc hf hl
 go_wp2_with (first | (refine wpList_loadO rfl 26 (.tmp 1) rfl q1 _ 26 rfl hM2 (by kernel_rfl) ?_) | fail)
 refine (kc_text w2).mono ?_
 rintro e w3 ⟨rfl, hb3⟩
 have hM3 := hM2.call hb3
 have hB3 := below_call hB2 hB2.size hb3
 clear hM2 hB2 hb3
 go_wp2_with fail
 refine (kc_parse1 w3 (hm.call hB3 hw0)).mono ?_
 rintro e w4 ⟨rfl, hb4⟩
 have hM4 := hM3.call hb4
 have hB4 := below_call hB3 hB3.size hb4
 have hQ := HasO.new w4 (.cells mA.cs.toArray 26)
 have hbQ := below_box w4 (.cells mA.cs.toArray 26)
 have hM5 := hM4.call hbQ
 have hB5 := below_call hB4 hB4.size hbQ
 clear hM3 hB3 hb4 hM4 hB4 hbQ
 go_upto_region 5 with fail
 show Code.wp _ _ _ _ (w4.alloc (.cells mA.cs.toArray 26))
 generalize w4.alloc (.cells mA.cs.toArray 26) = w5 at *
 generalize w4.heap.size = q4 at *
 go_wp2_with fail
 refine (kc_parse2 w5 (hm.call hB5 hw0)).mono ?_
 rintro e w6 ⟨rfl, hb6⟩
 have hM6 := hM5.call hb6
 have hQ6 := hQ.call hb6
 have hB6 := below_call hB5 hB5.size hb6
 have hbZ := below_box w6 (.cells zeroMen.cs.toArray 26)
 have hM7 := hM6.call hbZ
 have hQ7 := hQ6.call hbZ
 have hB7 := below_call hB6 hB6.size hbZ
 clear hM5 hQ hB5 hb6 hM6 hQ6 hB6 hbZ
 go_upto_region 6 with fail
 show Code.wp _ _ _ _ (w6.alloc (.cells zeroMen.cs.toArray 26))
 generalize w6.alloc (.cells zeroMen.cs.toArray 26) = w7 at *
 generalize w6.heap.size = q6 at *
 have hme := men_neq mA mA
 rw [decide_eq_true (rfl : mA = mA)] at hme
 have hc1 := hM7.cells
 have hc4 := hQ7.cells
 have hl1 := hM7.lt
 have hl4 := hQ7.lt
 go_wp2_with fail
 clear hme hc1 hc4 hl1 hl4 hM7 hQ7
 replace hg := hg.call hB7
 have hB9 := hB7
 clear hm hB7
 refine (kc_KK w7).mono ?_
 rintro e v10 ⟨rfl, hb⟩
 have hB10 := below_call hB9 hB9.size hb
 replace hg := hg.call hb
 clear hB9 hb
 go_wp2_with fail
 refine (kc_cKK v10).mono ?_
 rintro e v11 ⟨rfl, hb⟩
 have hB11 := below_call hB10 hB10.size hb
 replace hg := hg.call hb
 clear hB10 hb
 go_wp2_with fail
 refine (kc_KQ v11).mono ?_
 rintro e v12 ⟨rfl, hb⟩
 have hB12 := below_call hB11 hB11.size hb
 replace hg := hg.call hb
 clear hB11 hb
 go_wp2_with fail
 refine (kc_cKQ v12).mono ?_
 rintro e v13 ⟨rfl, hb⟩
 have hB13 := below_call hB12 hB12.size hb
 replace hg := hg.call hb
 clear hB12 hb
 go_wp2_with fail
 refine (kc_NN v13).mono ?_
 rintro e v14 ⟨rfl, hb⟩
 have hB14 := below_call hB13 hB13.size hb
 replace hg := hg.call hb
 clear hB13 hb
 go_wp2_with fail
 refine (kc_cNN v14).mono ?_
 rintro e v15 ⟨rfl, hb⟩
 have hB15 := below_call hB14 hB14.size hb
 replace hg := hg.call hb
 clear hB14 hb
 go_wp2_with fail
 refine (kc_n1 v15 hg).mono ?_
 rintro e v16 ⟨rfl, hb⟩
 have hB16 := below_call hB15 hB15.size hb
 replace hg := hg.call hb
 clear hB15 hb
 go_wp2_with fail
 refine (kc_n2 v16 hg).mono ?_
 rintro e v17 ⟨rfl, hb⟩
 have hB17 := below_call hB16 hB16.size hb
 replace hg := hg.call hb
 clear hB16 hb
 go_wp2_with fail
 refine (kc_n3 v17 hg).mono ?_
 rintro e v18 ⟨rfl, hb⟩
 have hB18 := below_call hB17 hB17.size hb
 replace hg := hg.call hb
 clear hB17 hb
 go_wp2_with fail
 refine (kc_KK v18).mono ?_
 rintro e v19 ⟨rfl, hb⟩
 have hB19 := below_call hB18 hB18.size hb
 replace hg := hg.call hb
 clear hB18 hb
 go_wp2_with fail
 refine (kc_p6 v19 hg).mono ?_
 rintro e v20 ⟨⟨gp, rfl, hx1⟩, hb⟩
 have hB20 := below_call hB19 hB19.size hb
 replace hg := hg.call hb
 clear hB19 hb
 have hO1 := HasO.new v20 (.cells (posCs 3 3 (some ⟨gp, 0, none⟩) 9 9 false 0 (-1) 0 1).toArray 40)
 have hbx := below_box v20 (.cells (posCs 3 3 (some ⟨gp, 0, none⟩) 9 9 false 0 (-1) 0 1).toArray 40)
 have hB21 := below_call hB20 hB20.size hbx
 replace hg := hg.call hbx
 replace hx1 := hx1.call hbx
 clear hB20 hbx
 go_upto_region 16 with fail
 show Code.wp _ _ _ _ (v20.alloc (.cells (posCs 3 3 (some ⟨gp, 0, none⟩) 9 9 false 0 (-1) 0 1).toArray 40))
 obtain ⟨q21, hq21⟩ : ∃ q, q = v20.heap.size := ⟨_, rfl⟩
 rw [← hq21] at hO1 ⊢
 clear hq21
 generalize v20.alloc (.cells (posCs 3 3 (some ⟨gp, 0, none⟩) 9 9 false 0 (-1) 0 1).toArray 40) = v21 at *
 go_wp2_with fail
 refine (kc_KK v21).mono ?_
 rintro e v22 ⟨rfl, hb⟩
 have hB22 := below_call hB21 hB21.size hb
 replace hg := hg.call hb
 replace hx1 := hx1.call hb
 replace hO1 := hO1.call hb
 clear hB21 hb
 go_wp2_with fail
 refine (kc_p0 v22 hg).mono ?_
 rintro e v23 ⟨rfl, hb⟩
 have hB23 := below_call hB22 hB22.size hb
 replace hg := hg.call hb
 replace hx1 := hx1.call hb
 replace hO1 := hO1.call hb
 clear hB22 hb
 go_wp2_with fail
 refine (kc_KK v23).mono ?_
 rintro e v24 ⟨rfl, hb⟩
 have hB24 := below_call hB23 hB23.size hb
 replace hg := hg.call hb
 replace hx1 := hx1.call hb
 replace hO1 := hO1.call hb
 clear hB23 hb
 go_wp2_with fail
 refine (kc_p9 v24).mono ?_
 rintro e v25 ⟨rfl, hb⟩
 have hB25 := below_call hB24 hB24.size hb
 replace hg := hg.call hb
 replace hx1 := hx1.call hb
 replace hO1 := hO1.call hb
 clear hB24 hb
 go_wp2_with fail
 refine (kc_t1 v25).mono ?_
 rintro e v26 ⟨⟨p2, c2, rfl, _, hx2⟩, hb⟩
 have hB26 := below_call hB25 hB25.size hb
 replace hg := hg.call hb
 replace hx1 := hx1.call hb
 replace hO1 := hO1.call hb
 clear hB25 hb
 have hO2 := HasO.new v26 (.cells (posCs 3 3 p2 9 c2 false 0 (-1) 0 1).toArray 40)
 have hbx := below_box v26 (.cells (posCs 3 3 p2 9 c2 false 0 (-1) 0 1).toArray 40)
 have hB27 := below_call hB26 hB26.size hbx
 replace hg := hg.call hbx
 replace hx1 := hx1.call hbx
 replace hO1 := hO1.call hbx
 replace hx2 := hx2.call hbx
 clear hB26 hbx
 go_upto_region 19 with fail
 show Code.wp _ _ _ _ (v26.alloc (.cells (posCs 3 3 p2 9 c2 false 0 (-1) 0 1).toArray 40))
 obtain ⟨q27, hq27⟩ : ∃ q, q = v26.heap.size := ⟨_, rfl⟩
 rw [← hq27] at hO2 ⊢
 clear hq27
 generalize v26.alloc (.cells (posCs 3 3 p2 9 c2 false 0 (-1) 0 1).toArray 40) = v27 at *
 go_wp2_with (first | (refine wpList_loadO rfl 40 (.tmp 11) rfl q21 _ 40 rfl hO1 (by kernel_rfl) ?_) | (refine wpList_loadO rfl 40 (.tmp 12) rfl q27 _ 40 rfl hO2 (by kernel_rfl) ?_) | fail)
 refine (kc_eq gp c2 p2 v27 hx1 hx2).mono ?_
 rintro e v28 ⟨rfl, hb⟩
 have hB28 := below_call hB27 hB27.size hb
 replace hg := hg.call hb
 replace hx1 := hx1.call hb
 replace hO1 := hO1.call hb
 replace hx2 := hx2.call hb
 replace hO2 := hO2.call hb
 clear hB27 hb
 clear hx1 hx2 hO1 hO2
 go_wp2_with fail
 refine (kc_KQ v28).mono ?_
 rintro e v29 ⟨rfl, hb⟩
 have hB29 := below_call hB28 hB28.size hb
 replace hg := hg.call hb
 clear hB28 hb
 go_wp2_with fail
 refine (kc_nQ v29).mono ?_
 rintro e v30 ⟨⟨l1, rfl, ho1⟩, hb⟩
 have hB30 := below_call hB29 hB29.size hb
 replace hg := hg.call hb
 clear hB29 hb
 go_wp2_with fail
 refine (kc_KP v30).mono ?_
 rintro e v31 ⟨rfl, hb⟩
 have hB31 := below_call hB30 hB30.size hb
 replace hg := hg.call hb
 replace ho1 := own_call ho1 hb
 clear hB30 hb
 go_wp2_with fail
 refine (kc_nP v31).mono ?_
 rintro e v32 ⟨⟨l2, rfl, ho2⟩, hb⟩
 have hB32 := below_call hB31 hB31.size hb
 replace hg := hg.call hb
 replace ho1 := own_call ho1 hb
 clear hB31 hb
 go_wp2_with fail
 refine (kc_KQ v32).mono ?_
 rintro e v33 ⟨rfl, hb⟩
 have hB33 := below_call hB32 hB32.size hb
 replace hg := hg.call hb
 replace ho1 := own_call ho1 hb
 replace ho2 := own_call ho2 hb
 clear hB32 hb
 go_wp2_with fail
 refine (kc_cl v33).mono ?_
 rintro e v34 ⟨⟨l3, rfl, ho3⟩, hb⟩
 have hB34 := below_call hB33 hB33.size hb
 replace hg := hg.call hb
 replace ho1 := own_call ho1 hb
 replace ho2 := own_call ho2 hb
 clear hB33 hb
 have hS := HasO.new v34 (.cells #[.string { data := #[51, 120, 51, 32, 75, 75] }] 9)
 have hbx := below_box v34 (.cells #[.string { data := #[51, 120, 51, 32, 75, 75] }] 9)
 have hB35 := below_call hB34 hB34.size hbx
 replace hg := hg.call hbx
 replace ho1 := own_call ho1 hbx
 replace ho2 := own_call ho2 hbx
 replace ho3 := own_call ho3 hbx
 clear hB34 hbx
 go_wp2_with fail
 refine (kc_s1 l1 _ v34.heap.size (v34.alloc (.cells #[.string { data := #[51, 120, 51, 32, 75, 75] }] 9)) ho1 hS).mono ?_
 rintro e v36 ⟨rfl, hb⟩
 have hB36 := below_call hB35 hB35.size hb
 replace hg := hg.call hb
 replace ho2 := own_call ho2 hb
 replace ho3 := own_call ho3 hb
 clear hB35 hb hS ho1
 have hS := HasO.new v36 (.cells #[.string { data := #[51, 120, 51, 32, 75, 66, 75] }, .string { data := #[51, 120, 51, 32, 75, 75] }, .string { data := #[51, 120, 51, 32, 75, 78, 75] }, .string { data := #[51, 120, 51, 32, 75, 81, 75] }, .string { data := #[51, 120, 51, 32, 75, 82, 75] }] 9)
 have hbx := below_box v36 (.cells #[.string { data := #[51, 120, 51, 32, 75, 66, 75] }, .string { data := #[51, 120, 51, 32, 75, 75] }, .string { data := #[51, 120, 51, 32, 75, 78, 75] }, .string { data := #[51, 120, 51, 32, 75, 81, 75] }, .string { data := #[51, 120, 51, 32, 75, 82, 75] }] 9)
 have hB37 := below_call hB36 hB36.size hbx
 replace hg := hg.call hbx
 replace ho2 := own_call ho2 hbx
 replace ho3 := own_call ho3 hbx
 clear hB36 hbx
 go_wp2_with fail
 refine (kc_s5 l2 _ v36.heap.size (v36.alloc (.cells #[.string { data := #[51, 120, 51, 32, 75, 66, 75] }, .string { data := #[51, 120, 51, 32, 75, 75] }, .string { data := #[51, 120, 51, 32, 75, 78, 75] }, .string { data := #[51, 120, 51, 32, 75, 81, 75] }, .string { data := #[51, 120, 51, 32, 75, 82, 75] }] 9)) ho2 hS).mono ?_
 rintro e v38 ⟨rfl, hb⟩
 have hB38 := below_call hB37 hB37.size hb
 replace hg := hg.call hb
 replace ho3 := own_call ho3 hb
 clear hB37 hb hS ho2
 have hS := HasO.new v38 (.cells #[.string { data := #[51, 120, 51, 32, 75, 75] }, .string { data := #[51, 120, 51, 32, 75, 81, 75] }] 9)
 have hbx := below_box v38 (.cells #[.string { data := #[51, 120, 51, 32, 75, 75] }, .string { data := #[51, 120, 51, 32, 75, 81, 75] }] 9)
 have hB39 := below_call hB38 hB38.size hbx
 replace hg := hg.call hbx
 replace ho3 := own_call ho3 hbx
 clear hB38 hbx
 go_wp2_with fail
 refine (kc_s2 l3 _ v38.heap.size (v38.alloc (.cells #[.string { data := #[51, 120, 51, 32, 75, 75] }, .string { data := #[51, 120, 51, 32, 75, 81, 75] }] 9)) ho3 hS).mono ?_
 rintro e v40 ⟨rfl, hb⟩
 have hB40 := below_call hB39 hB39.size hb
 replace hg := hg.call hb
 clear hB39 hb hS ho3
 go_wp2_with fail
 refine (men3x6_any v40).mono ?_
 rintro e v41 ⟨rfl, hb⟩
 have hB41 := below_call hB40 hB40.size hb
 replace hg := hg.call hb
 clear hB40 hb
 go_wp2_with fail
 refine (kc_v36 v41).mono ?_
 rintro e v42 ⟨rfl, hb⟩
 have hB42 := below_call hB41 hB41.size hb
 replace hg := hg.call hb
 clear hB41 hb
 go_wp2_with fail
 go_ret
 exact ⟨rfl, hB42⟩
end Go.Proofs.YtnpomigmeieofaaGreatDoor
