import Derived.Test.YtddkhnnpeonbgaaGreatDoorH42
namespace Go.Proofs.YtddkhnnpeonbgaaGreatDoor
open Go.RowKit
attribute [local go_sem] Oper.semAt_some

def firstLoop : Code → Option Code
 | .loop c => some (.loop c)
 | .seq a b => match firstLoop a with | some c => some c | none => firstLoop b
 | .block _ c => firstLoop c
 | .cond _ a b => match firstLoop a with | some c => some c | none => firstLoop b
 | .scope c => firstLoop c
 | _ => none
def firstRange : Code → Option (Code × Code)
 | .rangeFunc _ _ a b => some (a, b)
 | .loop c => firstRange c
 | .seq a b => match firstRange a with | some c => some c | none => firstRange b
 | .block _ c => firstRange c
 | .cond _ a b => match firstRange a with | some c => some c | none => firstRange b
 | .scope c => firstRange c
 | _ => none
def ofA (T : Array Value) : Nat → Value := fun i => T.getD i undef
theorem list_lit (l : List Value) : l = (List.range l.length).map (fun i => l.getD i undef) := by
 apply List.ext_getElem
 ·simp
 ·intro i h1 h2
  simp [h1]
theorem arr_lit (T : Array Value) : T = ((List.range T.size).map (ofA T)).toArray := by
 have h := list_lit T.toList
 apply Array.ext'
 simp only [Array.length_toList] at h
 conv => lhs; rw [h]
 simp only
 apply List.map_congr_left
 intro i _
 simp [ofA, Array.getD_eq_getD_getElem?]
theorem litB (T : Array Value) (h : T.size = 110) : T = #[ofA T 0, ofA T 1, ofA T 2, ofA T 3, ofA T 4, ofA T 5, ofA T 6, ofA T 7, ofA T 8, ofA T 9, ofA T 10, ofA T 11, ofA T 12, ofA T 13, ofA T 14, ofA T 15, ofA T 16, ofA T 17, ofA T 18, ofA T 19, ofA T 20, ofA T 21, ofA T 22, ofA T 23, ofA T 24, ofA T 25, ofA T 26, ofA T 27, ofA T 28, ofA T 29, ofA T 30, ofA T 31, ofA T 32, ofA T 33, ofA T 34, ofA T 35, ofA T 36, ofA T 37, ofA T 38, ofA T 39, ofA T 40, ofA T 41, ofA T 42, ofA T 43, ofA T 44, ofA T 45, ofA T 46, ofA T 47, ofA T 48, ofA T 49, ofA T 50, ofA T 51, ofA T 52, ofA T 53, ofA T 54, ofA T 55, ofA T 56, ofA T 57, ofA T 58, ofA T 59, ofA T 60, ofA T 61, ofA T 62, ofA T 63, ofA T 64, ofA T 65, ofA T 66, ofA T 67, ofA T 68, ofA T 69, ofA T 70, ofA T 71, ofA T 72, ofA T 73, ofA T 74, ofA T 75, ofA T 76, ofA T 77, ofA T 78, ofA T 79, ofA T 80, ofA T 81, ofA T 82, ofA T 83, ofA T 84, ofA T 85, ofA T 86, ofA T 87, ofA T 88, ofA T 89, ofA T 90, ofA T 91, ofA T 92, ofA T 93, ofA T 94, ofA T 95, ofA T 96, ofA T 97, ofA T 98, ofA T 99, ofA T 100, ofA T 101, ofA T 102, ofA T 103, ofA T 104, ofA T 105, ofA T 106, ofA T 107, ofA T 108, ofA T 109] := by
 have := arr_lit T
 rw [h] at this
 exact this
def fr28 (b0 ln q8 q9 gg cap k : Nat) (X : Nat → Value) : Array Value := #[X 0, .pointer (some ⟨b0, 0, none⟩), X 2, X 3, X 4, X 5, X 6, .int .i64 (ln : Int), .pointer (some ⟨q8, 0, none⟩), .pointer (some ⟨q9, 0, none⟩), X 10, X 11, X 12, X 13, X 14, X 15, X 16, X 17, X 18, X 19, X 20, X 21, X 22, X 23, X 24, X 25, X 26, X 27, X 28, X 29, X 30, X 31, X 32, X 33, X 34, X 35, X 36, X 37, X 38, X 39, X 40, X 41, X 42, X 43, X 44, X 45, X 46, X 47, X 48, X 49, X 50, X 51, X 52, X 53, X 54, X 55, X 56, X 57, X 58, X 59, X 60, X 61, X 62, X 63, X 64, X 65, X 66, X 67, X 68, X 69, X 70, X 71, X 72, X 73, X 74, X 75, .slice (some ⟨gg, 0, none⟩) 10 cap, .int .i64 10, .int .i64 (k : Nat), X 79, X 80, X 81, X 82, X 83, X 84, X 85, X 86, X 87, X 88, X 89, X 90, X 91, X 92, X 93, X 94, X 95, X 96, X 97, X 98, X 99, X 100, X 101, X 102, X 103, X 104, X 105, X 106, X 107, X 108, X 109]
def R28 (w : World) (cs : List Value) (ln q8 q9 g gg cap : Nat) (m : Men) (num : Nat → Nat) (k : Nat) (a : Act) (W : World) : Prop :=
 ∃ (E : List Nat) (X : Nat → Value), a = { tmps := fr28 w.heap.size ln q8 q9 gg cap k X, defers := cds E } ∧ E.Nodup ∧ NumW w cs q8 q9 g gg m E (num k) W
theorem R28.mk {w : World} {cs : List Value} {ln q8 q9 g gg cap : Nat} {m : Men} {num : Nat → Nat} {k : Nat} {W : World} (T : Array Value) (E : List Nat) (hs : T.size = 110)
  (h1 : ofA T 1 = .pointer (some ⟨w.heap.size, 0, none⟩)) (h7 : ofA T 7 = .int .i64 (ln : Int)) (h8 : ofA T 8 = .pointer (some ⟨q8, 0, none⟩)) (h9 : ofA T 9 = .pointer (some ⟨q9, 0, none⟩))
  (h76 : ofA T 76 = .slice (some ⟨gg, 0, none⟩) 10 cap) (h77 : ofA T 77 = .int .i64 10) (h78 : ofA T 78 = .int .i64 (k : Nat)) (hn : E.Nodup) (hI : NumW w cs q8 q9 g gg m E (num k) W) :
  R28 w cs ln q8 q9 g gg cap m num k { tmps := T, defers := cds E } W := by
 have h := litB T hs
 rw [h1, h7, h8, h9, h76, h77, h78] at h
 exact ⟨E, ofA T, by unfold fr28; rw [← h], hn, hI⟩
def I28 (w : World) (cs : List Value) (q8 q9 g gg : Nat) (m : Men) (E : List Nat) (n3 : Nat) (L : List Nat) (q1 : Nat) (gp : Int) (cc j : Nat) (W : World) : Prop :=
 NumW w cs q8 q9 g gg m E (n3 + smS L j) W ∧ HasO W q1 (.cells cs.toArray 27 (0, 0)) ∧ HasO W (q1 + 1) (.cells #[.int .i8 gp] 96 (0, 0)) ∧ cc ≤ W.heap.size
theorem smS_le {L : List Nat} : ∀ k, k ≤ 4 → (∀ i, i < k → L[i]?.getD 0 < 64) → smS L k ≤ k * 635376 := by
 intro k
 induction k with
 | zero => intro _ _; exact Nat.le_refl _
 | succ k ih =>
  intro hk h
  have h1 := ih (by omega) (fun i hi => h i (by omega))
  have h2 := h k (by omega)
  have h3 := ch_le (n := L[k]?.getD 0) (k := k + 1) (by omega) hk
  simp only [smS]
  omega
theorem ix170 (W : World) (g k : Nat) (hk : k < 65) : (Instr.indexAt 170 (.pointer (some ⟨g, 0, none⟩)) (.int .i64 k)).run Tryz.prog W = .ok (.pointer (some ⟨g, k * 5, none⟩)) W := by
 have h0 : (0 : Int) ≤ k := by omega
 simp [go_sem, Instr.indexAt, h0]
 intro h; omega
theorem ix39 (W : World) (g b k : Nat) (hk : k < 5) : (Instr.indexAt 39 (.pointer (some ⟨g, b, none⟩)) (.int .i64 k)).run Tryz.prog W = .ok (.pointer (some ⟨g, b + k, none⟩)) W := by
 have h0 : (0 : Int) ≤ k := by omega
 simp [go_sem, Instr.indexAt, h0]
 intro h; omega
set_option maxRecDepth 100000 in
set_option maxHeartbeats 6400000 in
theorem body28 (w : World) (cs : List Value) (q8 q9 g gg : Nat) (m : Men) (E : List Nat) (n3 : Nat) (L : List Nat) (q1 : Nat) (gp : Int) (D cc j : Nat) (W : World) (T : Array Value) (hT : T.size = 110)
  (h8 : ofA T 8 = .pointer (some ⟨q8, 0, none⟩)) (h9 : ofA T 9 = .pointer (some ⟨q9, 0, none⟩)) (h96 : ofA T 96 = .int .i64 (j : Nat)) (h97 : ofA T 97 = .int .i64 (L[j]?.getD 0 : Nat))
  (h09 : w.heap.size < q9) (h89 : q8 ≠ q9) (hg9 : gg ≠ q9) (hE9 : ∀ p ∈ E, p ≠ q9) (hlt : w.heap.size < D ∧ q8 < D ∧ q9 < D ∧ g < D ∧ gg < D ∧ q1 + 1 < D ∧ q9 < q1) (hltE : ∀ p ∈ E, p < D)
  (hn3 : n3 ≤ 100000000000000000) (hj : j + 1 ≤ 4) (hL : ∀ i, i < j + 1 → L[i]?.getD 0 < 64) (hI : I28 w cs q8 q9 g gg m E n3 L q1 gp cc j W) (_hcc : D + 2 ≤ cc)
  (ab : Code × Code) (hab : Tryz.f28.body.bind firstRange = some ab) :
  ab.1.wpIn (Fence.wide.inRound (D + 1)) 3 Tryz.prog (Exit.then (fun a₁ W₁ => (∀ q o, (D ≤ q ∧ q < cc) → HasO W q o → HasO W₁ q o) ∧
     ∀ W₂, Alt (D + 1) (D + 2) W₁ W₂ → W₂.heap.size = W₁.heap.size → (∃ r, HasO W₂ (D + 1) (.loop r)) →
      ab.2.wpIn (Fence.wide.inRound (D + 1)) 3 Tryz.prog (bodyI (D + 1) D (I28 w cs q8 q9 g gg m E n3 L q1 gp cc) (fun _ _ => False) j (fun D q => D + 2 ≤ q ∧ q < cc) W₂) a₁ W₂) (fun _ _ _ => False))
    { tmps := T, defers := [] } W := by
 obtain rfl := Option.some.inj ((show Tryz.f28.body.bind firstRange = some _ from rfl).symm.trans hab)
 obtain ⟨k0, k8, k9, kg, kgg, kq1, k91⟩ := hlt
 have hTl := litB T hT
 rw [h8, h9, h96, h97] at hTl
 rw [hTl]
 generalize ofA T = Y
 clear hTl h8 h9 h96 h97 hT hab
 obtain ⟨h1, h2, h3, h4⟩ := hI
 have hsmb := smS_le (L := L) j (by omega) (fun i hi => hL i (by omega))
 have hsqj := hL j (by omega)
 obtain ⟨at_, hat⟩ : ∃ x, x = L[j]?.getD 0 := ⟨_, rfl⟩
 have hsm1 : n3 + smS L (j + 1) = n3 + smS L j + ch at_ (j + 1) := by rw [hat, Nat.add_assoc]; rfl
 rw [← hat] at hsqj ⊢
 have hchj := ch_le (n := at_) (k := j + 1) (by omega) hj
 obtain ⟨n4, hn4⟩ : ∃ x, x = n3 + smS L j := ⟨_, rfl⟩
 have hn4b : n4 ≤ 100000000010000000 := by have := Nat.mul_le_mul_right 635376 (show j ≤ 4 by omega); omega
 rw [← hn4] at h1 hsm1
 have hjb : j + 1 ≤ 4 := hj
 have e4 : Hid (wrap64 ((n4 : Int) + ((ch at_ (j + 1) : Nat) : Int)) = ((n4 + ch at_ (j + 1) : Nat) : Int)) := Lib.hid (by rw [← Int.natCast_add]; exact IntWalk.wrap64_in _ (by omega))
 have e4' : Hid (IntKind.i64.wrap ((n4 : Int) + ((ch at_ (j + 1) : Nat) : Int)) = ((n4 + ch at_ (j + 1) : Nat) : Int)) := Lib.hid (by rw [← Int.natCast_add]; exact IntWalk.i64_in _ (by omega))
 have e5 : Hid (wrap64 ((j : Int) + 1) = ((j + 1 : Nat) : Int)) := Lib.hid (IntWalk.wrap64_in ((j : Int) + 1) (by omega))
 have e5' : Hid (IntKind.i64.wrap ((j : Int) + 1) = ((j + 1 : Nat) : Int)) := Lib.hid (IntWalk.i64_in ((j : Int) + 1) (by omega))
 obtain ⟨n5, hn5⟩ : ∃ x, x = n4 + ch at_ (j + 1) := ⟨_, rfl⟩
 rw [← hn5] at e4 e4' hsm1
 have ba : (at_ : Int) < 64 := by omega
 replace hsm1 := Lib.hid hsm1
 clear hn4 hn5 hat hsmb hL hchj hn4b hn3
 gi_wp2_with fail
 refine ⟨fun q o _ h => h, fun W2 ha hz hrec => ?_⟩
 have h1' := h1.alt ha (by omega) (by omega) (by omega) (by omega) (by omega) (fun p hp => by have := hltE p hp; omega)
 have h2' := ha.hasO h2 (by omega)
 have h3' := ha.hasO h3 (by omega)
 have h4' := Nat.le_trans h4 ha.size
 have d9 := h1'.2.2.2.1.cells 0
 have f9 := h1'.2.2.2.1.frozen 0
 have d8 := h1'.2.2.1.cells 0
 have dt := h1'.2.2.2.2.1.2 at_ (j + 1) (by omega) hj
 have l9 := h1'.2.2.2.1.lt
 have l8 := h1'.2.2.1.lt
 have lg := h1'.2.2.2.2.1.1
 have hS := h1'.set (n' := n5) h09 h89 hg9 hE9
 have hAl : Alt q9 (q9 + 1) W2 (W2.setCell ⟨q9, 0, none⟩ (.int .i64 (n5 : Nat))).drew := by
  have h0 : Alt q9 (q9 + 1) W2 (W2.setCell ⟨q9, 0, none⟩ (.int .i64 (n5 : Nat))) := Alt.setCell ⟨Nat.le_refl _, Nat.lt_succ_self _⟩
  exact h0.trans (Alt.drewN 1)
 have hS2' := hAl.hasO h2' (by omega)
 have hS3' := hAl.hasO h3' (by omega)
 have hS4' : NumW w cs q8 q9 g gg m E n5 (W2.setCell ⟨q9, 0, none⟩ (.int .i64 (n5 : Nat))).drew := hS.alt (Alt.drewN (lo := D) (hi := D) 1) k0 k8 k9 kg kgg hltE
 have hs9 := Nat.le_trans h4' hAl.size
 have hfin : bodyI (D + 1) D (I28 w cs q8 q9 g gg m E n3 L q1 gp cc) (fun _ _ => False) j (fun D q => D + 2 ≤ q ∧ q < cc) W2 .normal { tmps := #[], defers := [] } (W2.setCell ⟨q9, 0, none⟩ (.int .i64 (n5 : Nat))).drew := by
  refine ⟨fun q o hq ho => hAl.hasO ho (.inr (by rcases hq with h | h | h <;> omega)), ?_, hS2', hS3', hs9⟩
  rw [hsm1.out]
  exact hS4'
 obtain ⟨jj, hjj⟩ : ∃ jj, jj = j + 1 := ⟨_, rfl⟩
 rw [← hjj] at e5 e5' e4 e4' dt hjb
 have bj : (jj : Int) ≤ 4 := Int.ofNat_le.2 hjb
 have bj5 : (jj : Int) < 5 := Int.lt_of_le_of_lt bj (by decide)
 replace hjj := Lib.hid hjj
 replace hj := Lib.hid hj
 clear h1 h2 h3 h4 hS h1' h2' h3' hS2' hS3' hS4' hs9 hAl hltE hE9 hrec hz ha h4' k0 k8 k9 kg kgg kq1 k91 h09 h89 hg9
 replace hfin := Lib.hid hfin
 have hsq65 : at_ < 65 := by omega
 have hjb5 : jj < 5 := by omega
 replace e4' := e4'.out
 replace e5' := e5'.out
 clear e4 e5
 gi_wp2_with fail
 refine wpIn_region_last (by kernel_rfl) (by kernel_rfl) [some 98, some 99, some 100, some 101, some 102, some 103, some 104, some 105, some 106, some 107, none] (by rfl) (by rfl) 10 (by rfl) (by kernel_rfl) (fun i8 => match i8 with | 0 => .int .i64 (n4 : Nat) | 1 => .pointer (some ⟨g, 0, none⟩) | 2 => .int .i64 (at_ : Nat) | 3 => .int .i64 (j : Nat) | 4 => .int .i64 (jj : Nat) | 5 => .pointer (some ⟨g, 0, none⟩) | 6 => .pointer (some ⟨g, at_ * 5, none⟩) | 7 => .pointer (some ⟨g, at_ * 5 + jj, none⟩) | 8 => .int .i64 (ch at_ jj : Nat) | 9 => .int .i64 (n5 : Nat) | _ => undef) (fun W => W = W2.drew) (fun W => W = (W2.setCell ⟨q9, 0, none⟩ (.int .i64 (n5 : Nat))).drew) rfl ?hstep ?hturn ?hend
 case hstep =>
  intro i9 o9 fv W ho hi hne hC hf K hK
  have hi : i9 < 11 := hi
  subst hC
  rcases (by omega : i9 = 0 ∨ i9 = 1 ∨ i9 = 2 ∨ i9 = 3 ∨ i9 = 4 ∨ i9 = 5 ∨ i9 = 6 ∨ i9 = 7 ∨ i9 = 8 ∨ i9 = 9) with rfl | rfl | rfl | rfl | rfl | rfl | rfl | rfl | rfl | rfl
  ·exact st_in (X := False) (og ho rfl) (by injection ho with h; rw [← h]; rfl) (st_loadS (og ho rfl) 3 (.tmp 9) (oo ho rfl) (rd_out rfl rfl) (by kernel_rfl) d9 (hK _ rfl))
  ·exact st_in (X := False) (og ho rfl) (by injection ho with h; rw [← h]; rfl) (st_loadS (og ho rfl) 118 (.tmp 8) (oo ho rfl) (rd_out rfl rfl) (by kernel_rfl) d8 (hK _ rfl))
  ·exact st_in (X := False) (og ho rfl) (by injection ho with h; rw [← h]; rfl) (st_move (og ho rfl) (.tmp 13) (oo ho rfl) (rd_out rfl rfl) (hK _ rfl))
  ·exact st_in (X := False) (og ho rfl) (by injection ho with h; rw [← h]; rfl) (st_move (og ho rfl) (.tmp 12) (oo ho rfl) (rd_out rfl rfl) (hK _ rfl))
  ·exact st_in (X := False) (og ho rfl) (by injection ho with h; rw [← h]; rfl) (st_bin (og ho rfl) .add 3 3 (.tmp 101) (.const (.int .i64 1)) (oo ho rfl) (ri 3 (hf ⟨3, .data⟩ (oa ho rfl) rfl)) rfl (gu_i _ _ _ _ _ _ _ _) (bin_addE e5') (hK _ rfl))
  ·exact st_nilIn (og ho rfl) (.tmp 99) (oo ho rfl) (ri 1 (hf ⟨1, .data⟩ (oa ho rfl) rfl)) (hK _ rfl)
  ·exact st_in (X := False) (og ho rfl) (by injection ho with h; rw [← h]; rfl) (st_index (og ho rfl) 170 (.tmp 103) (.tmp 100) (oo ho rfl) (ri 5 (hf ⟨5, .data⟩ (oa ho rfl) rfl)) (ri 2 (hf ⟨2, .data⟩ (oa ho rfl) rfl)) (ix170 W2.drew g at_ hsq65) (hK _ rfl))
  ·exact st_in (X := False) (og ho rfl) (by injection ho with h; rw [← h]; rfl) (st_index (og ho rfl) 39 (.tmp 104) (.tmp 102) (oo ho rfl) (ri 6 (hf ⟨6, .data⟩ (oa ho rfl) rfl)) (ri 4 (hf ⟨4, .data⟩ (oa ho rfl) rfl)) (ix39 W2.drew g (at_ * 5) jj hjb5) (hK _ rfl))
  ·exact st_in (X := False) (og ho rfl) (by injection ho with h; rw [← h]; rfl) (st_loadS (og ho rfl) 3 (.tmp 105) (oo ho rfl) (ri 7 (hf ⟨7, .data⟩ (oa ho rfl) rfl)) (by kernel_rfl) dt (hK _ rfl))
  ·exact st_in (X := False) (og ho rfl) (by injection ho with h; rw [← h]; rfl) (st_bin (og ho rfl) .add 3 3 (.tmp 98) (.tmp 106) (oo ho rfl) (ri 0 (hf ⟨0, .data⟩ (oa ho rfl) rfl)) (ri 8 (hf ⟨8, .data⟩ (oa ho rfl) rfl)) (gu_i _ _ _ _ _ _ _ _) (bin_addE e4') (hK _ rfl))
 case hturn =>
  intro o9 fv W ho hC hf K hK
  subst hC
  exact st_in (X := False) (og ho rfl) (by injection ho with h; rw [← h]; rfl) (st_storeS (og ho rfl) 3 (.tmp 9) (.tmp 107) (oo ho rfl) (rd_out rfl rfl) (ri 9 (hf ⟨9, .data⟩ (oa ho rfl) rfl)) (by kernel_rfl) (by rfl) d9 (f9) (hK _ rfl))
 case hend =>
  rintro fv W rfl hfv
  exact hfin.out
end Go.Proofs.YtddkhnnpeonbgaaGreatDoor
namespace Go.Proofs.YtddkhnnpeonbgaaGreatDoor
open Go.RowKit
attribute [local go_sem] Oper.semAt_some

set_option maxRecDepth 100000 in
set_option maxHeartbeats 6400000 in
theorem loop28 (w : World) (f r ca pa ha fu : Int) (bl : Bool) (p : Option Addr) (c : Nat) (xs : List Int) (hx : Arr .i8 w p xs) (ln q8 q9 g gg cap n2 : Nat) (m : Men) (hln : Hid (ln = xs.length)) (hl64 : ln ≤ 64) (hvb : Hid (validB m = true))
  (hgrp : ∀ j, j < 10 → m.grp j = (ct xs (grpPiece j) ln : Nat)) (hfin : ∀ j, j ≤ 10 → gN xs ln n2 j < m.prod j)
  (h09 : w.heap.size < q9) (h89 : q8 ≠ q9) (hg9 : gg ≠ q9) {Q : Exit → Act → World → Prop} {a : Act} {W : World}
  (hQ : ∀ a W, R28 w (posCs f r p ln c bl ca pa ha fu) ln q8 q9 g gg cap m (gN xs ln n2) 10 a W → Q (.exit 0) { tmps := a.tmps.setIfInBounds 79 (.bool false), defers := a.defers } W)
  (h0 : R28 w (posCs f r p ln c bl ca pa ha fu) ln q8 q9 g gg cap m (gN xs ln n2) 0 a W) (cd : Code) (hcd : Tryz.f28.body.bind firstLoop = some cd) : cd.wpIn Fence.wide 3 Tryz.prog Q a W := by
 obtain rfl := Option.some.inj ((show Tryz.f28.body.bind firstLoop = some _ from rfl).symm.trans hcd)
 refine loop_ind 10 (R28 w (posCs f r p ln c bl ca pa ha fu) ln q8 q9 g gg cap m (gN xs ln n2)) h0 ?hr ?hl
 case hl =>
  rintro a W hR
  have hQ := hQ a W hR
  obtain ⟨E, X, rfl, hnd, hI⟩ := hR
  unfold fr28 at hQ ⊢
  rw [wpIn_wide]
  go_wp2_with fail
  exact hQ
 case hr =>
  rintro k a W hk ⟨E, X, rfl, hnd, hI⟩
  clear hQ h0
  unfold fr28
  rw [wpIn_wide]
  obtain ⟨gm, hgm⟩ : ∃ gm : Nat, gm = ct xs (grpPiece k) ln := ⟨_, rfl⟩
  have hgk : m.grp k = (gm : Int) := by rw [hgm, hgrp k hk]
  have hgb := grp_bd (validB_ok hvb.out) hk
  have hgb4 : gm ≤ 4 := by omega
  have hkk : (k : Int) < 10 := by omega
  obtain ⟨b, i0, i8, i9, it, ⟨ig, ic⟩, iE⟩ := hI
  have hc1 := (ic k hk).1
  have hc2 := (ic k hk).2
  rw [hgk] at hc2
  obtain ⟨gp, hgp⟩ : ∃ gp, gp = grpPiece k := ⟨_, rfl⟩
  rw [← hgp] at hc1
  have hI : NumW w (posCs f r p ln c bl ca pa ha fu) q8 q9 g gg m E (gN xs ln n2 k) W := ⟨b, i0, i8, i9, it, ⟨ig, ic⟩, iE⟩
  obtain ⟨n, hn⟩ : ∃ n, n = gN xs ln n2 k := ⟨_, rfl⟩
  rw [← hn] at hI
  have hnext : gN xs ln n2 (k + 1) = n * ch ln gm + cmb xs gp ln := by rw [hn, hgm, hgp]; rfl
  have hpb := prod_bd hvb.out (k := k) (by omega)
  have hnb2 : n < m.prod k := by rw [hn]; exact hfin k (by omega)
  have hcmb : cmb xs gp ln + 1 ≤ ch ln gm := by rw [hgm, hgp]; exact cmb_lt (by omega) (by rw [← hgm]; exact hgb4)
  replace hgm := Lib.hid hgm
  replace hgp := Lib.hid hgp
  replace hn := Lib.hid hn
  replace hnext := Lib.hid hnext
  clear hgk hgb b i0 i8 i9 it ic iE hfin hgrp
  go_wp2_with fail
  have hG := HasO.new W (.cells #[.int .i8 gp, .int .i64 (gm : Int)] 124)
  have hbg := below_box W (.cells #[.int .i8 gp, .int .i64 (gm : Int)] 124)
  have hI2 := hI.call hbg
  show Code.wp _ _ _ _ (W.alloc (.cells #[.int .i8 gp, .int .i64 (gm : Int)] 124))
  obtain ⟨q11, hq11⟩ : ∃ q, q = W.heap.size := ⟨_, rfl⟩
  have hlt0 := hI.2.1.lt
  have hlt8 := hI.2.2.1.lt
  have hlt9 := hI.2.2.2.1.lt
  have hltg := hI.2.2.2.2.1.1
  have hltgg := hI.2.2.2.2.2.1.1
  have hltE : ∀ p ∈ E, p < q11 := fun p hp => by rw [hq11]; exact ((hI.2.2.2.2.2.2 p hp).2).lt
  rw [← hq11] at hG hlt0 hlt8 hlt9 hltg hltgg ⊢
  generalize W.alloc (.cells #[.int .i8 gp, .int .i64 (gm : Int)] 124) = V2 at *
  clear hI hbg hc1 hc2 hq11
  have hlG := hG.lt
  have hG1 := hG.cells 1
  have d9 := hI2.2.2.2.1.cells 0
  have f9 := hI2.2.2.2.1.frozen 0
  have d8 := hI2.2.2.1.cells 0
  have dt := hI2.2.2.2.2.1.2 ln gm hl64 hgb4
  have bl1 : (ln : Int) ≤ 64 := by omega
  have bl2 : (gm : Int) ≤ 4 := by omega
  have hl9 := hI2.2.2.2.1.lt
  have hl8 := hI2.2.2.1.lt
  have hlg := hI2.2.2.2.2.1.1
  have hch := ch_le hl64 hgb4
  have hmu := Nat.mul_le_mul (show n ≤ 137438953472 by omega) hch
  have e3 : Hid (wrap64 ((n : Int) * ((ch ln gm : Nat) : Int)) = ((n * ch ln gm : Nat) : Int)) := Lib.hid (by rw [← Int.natCast_mul]; exact IntWalk.wrap64_in _ (by omega))
  obtain ⟨n3, hn3⟩ : ∃ n3, n3 = n * ch ln gm := ⟨_, rfl⟩
  rw [← hn3] at e3 hmu
  have hE9 : ∀ p ∈ E, p ≠ q9 := fun p hp e => by
   have h1 := (hI2.2.2.2.2.2.2 p hp).2
   have h2 := hI2.2.2.2.1
   unfold HasO at h1 h2
   rw [e, h2] at h1; cases h1
  have hI3 := hI2.set (n' := n3) h09 h89 hg9 hE9
  have hG3 := (Alt.setCell (lo := q9) (hi := q9 + 1) (w := V2) (p := ⟨q9, 0, none⟩) (u := .int .i64 (n3 : Nat)) ⟨Nat.le_refl _, Nat.lt_succ_self _⟩).hasO hG (by omega)
  replace hn3 := Lib.hid hn3
  replace e3 := e3.out
  go_region
  have hI4 := hI3.alt (Alt.drewN (lo := q11) (hi := q11) 1) hlt0 hlt8 hlt9 hltg hltgg hltE
  have hG4 := (Alt.drewN (lo := q11) (hi := q11) (w := V2.setCell ⟨q9, 0, none⟩ (.int .i64 (n3 : Nat))) 1).hasO hG3 (.inr (Nat.le_refl _))
  have hz4 : q11 < (V2.setCell ⟨q9, 0, none⟩ (.int .i64 (n3 : Nat))).drew.heap.size := hG4.lt
  change NumW _ _ _ _ _ _ _ _ _ (V2.setCell ⟨q9, 0, none⟩ (.int .i64 (n3 : Nat))).drew at hI4
  change HasO (V2.setCell ⟨q9, 0, none⟩ (.int .i64 (n3 : Nat))).drew _ _ at hG4
  generalize (V2.setCell ⟨q9, 0, none⟩ (.int .i64 (n3 : Nat))).drew = V3 at *
  clear hI3 hG3 hI2 hG hG1 d9 f9 d8 dt hl9 hl8 hlg hlG e3
  have hc := hI4.2.1.cells
  have hlc := hI4.2.1.lt
  have hg0 := hG4.cells 0
  have hlG := hG4.lt
  go_wp2_with fail
  refine (squares_any (posCs f r p ln c bl ca pa ha fu) gp V3).mono ?_
  rintro e V4 ⟨rfl, hS1, hS2, hb4, hs4⟩
  have hI5 := hI4.call hb4
  have hx5 : Arr .i8 V4 p xs := hx.call hI5.1
  obtain ⟨q1, hq1⟩ : ∃ q, q = V3.heap.size := ⟨_, rfl⟩
  rw [← hq1] at hS1 hS2 hz4 hs4 ⊢
  clear hI4 hG4 hc hlc hg0 hlG hb4
  replace hq1 := Lib.hid hq1
  replace hs4 := Lib.hid hs4
  have hcs : (posCs f r p ln c bl ca pa ha fu) = posCs f r p xs.length c bl ca pa ha fu := by rw [hln.out]
  have hseq := sq_seq q1 (q1 + 1) f r ca pa ha fu bl p c xs gp (by rw [← hln.out]; omega)
  rw [← hcs, ← hln.out] at hseq
  replace hcs := Lib.hid hcs
  have hctg : ct xs gp ln = gm := by rw [hgm.out, hgp.out]
  have hsm := smS_cmb xs gp ln
  have hsq := fun j => sqP_lt (xs := xs) (x := gp) (j := j) (K := ln)
  rw [hctg] at hseq hsm hsq
  generalize sqP xs gp ln = L at *
  replace hsm := Lib.hid hsm
  replace hctg := Lib.hid hctg
  go_wp2_with fail
  refine (wpIn_wide (n := 3)).1 ?_
  refine rangeFunc_law (gf := 107) (lb := #[.pointer (some ⟨q1, 0, none⟩), .pointer (some ⟨q1 + 1, 0, none⟩)]) rfl (enters_of Tryz.func107 (by kernel_rfl) rfl) hseq (fun _ _ => rfl)
   (I28 w (posCs f r p ln c bl ca pa ha fu) q8 q9 g gg m E n3 L q1 gp) (fun _ _ _ _ => False) ?hst ?hstx ?hRd ?hsz ?hszx ?h0 ?hbody ?hdone ?hstop ?hpanic
  case hstx => intro _ _ _ _ _ _ h; exact h.elim
  case hszx => intro _ _ _ _ _ h; exact h.elim
  case hstop => intro _ _ _ _ _ _ h; exact h.elim
  case hpanic => intro _ _ _ _ _ h; exact h.elim
  case hsz => intro cc k W _ h; exact h.2.2.2
  case hRd => intro cc k W _ h; exact ⟨h.2.1, h.2.2.1, hx.call h.1.1⟩
  case hst =>
   rintro cc j W W' hcc ⟨h1, h2, h3, h4⟩ hA
   have hz := hs4.out
   exact ⟨h1.alt hA (by omega) (by omega) (by omega) (by omega) (by omega) (fun p hp => by have := hltE p hp; omega), hA.hasO h2 (by omega), hA.hasO h3 (by omega), Nat.le_trans h4 hA.size⟩
  case h0 =>
   intro cc W hbW hcc hzW
   exact ⟨hI5.call hbW, hS1.call hbW, hS2.call hbW, by omega⟩
  case hbody =>
   rintro cc j W hcc hj hI hT
   have hzz := hs4.out
   refine body28 w (posCs f r p ln c bl ca pa ha fu) q8 q9 g gg m E n3 L q1 gp V4.heap.size cc j W _ ?_ ?_ ?_ ?_ ?_ h09 h89 hg9 hE9 ⟨by omega, by omega, by omega, by omega, by omega, by omega, by omega⟩ (fun p hp => by have := hltE p hp; omega) (by omega) (by omega) (fun i hi => by have := hsq i (by omega); omega) hI hcc (_, _) rfl
   all_goals first | rfl | (simp [ofA]; done) | kernel_rfl
  case hdone =>
   rintro cc W hcc ⟨h1, h2, h3, h4⟩ hD
   rw [hsm.out] at h1
   have hn1 : gN xs ln n2 (k + 1) = n3 + cmb xs gp ln := by rw [hnext.out, hn3.out]
   rw [← hn1] at h1
   have h1E : NumW w (posCs f r p ln c bl ca pa ha fu) q8 q9 g gg m (V4.heap.size :: E) (gN xs ln n2 (k + 1)) W := by
    obtain ⟨b, i0, i8, i9, it, ic, iE⟩ := h1
    refine ⟨b, i0, i8, i9, it, ic, fun p hp => ?_⟩
    rcases List.mem_cons.1 hp with rfl | hp
    ·exact ⟨by have := hs4.out; omega, hD⟩
    ·exact iE p hp
   have hndE : (V4.heap.size :: E).Nodup := List.nodup_cons.2 ⟨fun h => by have := hltE _ h; have := hs4.out; omega, hnd⟩
   replace hn1 := Lib.hid hn1
   clear h1 h2 h3 hS1 hS2 hI5 hseq hx5
   go_wp2_with fail
   exact R28.mk _ _ rfl rfl rfl rfl rfl rfl rfl (by go_num) hndE h1E
end Go.Proofs.YtddkhnnpeonbgaaGreatDoor
