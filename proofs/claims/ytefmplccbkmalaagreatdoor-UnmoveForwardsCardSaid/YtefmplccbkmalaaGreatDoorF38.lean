import Derived.Test.YtefmplccbkmalaaGreatDoorF37
set_option maxHeartbeats 12800000
namespace Go.Proofs.YtefmplccbkmalaaGreatDoor
open Go.RowKit Go.Sort Go.BigFrame
attribute [local go_sem] Oper.semAt_some

def firstRange : Code → Option (Code × Code)
 | .rangeFunc _ _ a b => some (a, b)
 | .loop c => firstRange c
 | .seq a b => match firstRange a with | some c => some c | none => firstRange b
 | .block _ c => firstRange c
 | .cond _ a b => match firstRange a with | some c => some c | none => firstRange b
 | .scope c => firstRange c
 | _ => none
theorem own_kept {w w' : World} {base : Nat} {e : TypeId} {size n : Nat} {v : Value} {xs : List Value} (h : w.ownsRow base e size v n xs) (hk : ∀ k o, v.ownBlock = some k → HasO w k o → HasO w' k o) : w'.ownsRow base e size v n xs := by
 refine ⟨h.1, ?_⟩
 rcases h.2 with h2 | ⟨g, cap, cur, rfl, hb, hh, r⟩
 ·exact .inl h2
 ·exact .inr ⟨g, cap, cur, rfl, hb, hk g _ rfl hh, r⟩
def SeaI (base qs : Nat) (F R : Nat) (xs : List Int) (bl : Bool) (can : Nat) (pa ha fu : Int) (pp : Option Addr) (cc occ : Nat) (v0 : Value) (w : World) (Bs : List (Nat × Obj)) (D c : Nat) (L' : List Ret) (W : World) : Prop :=
 ∃ v', Sea base qs F R xs bl can pa ha fu pp cc occ v' L' W ∧ Nib qs w W v0 v' ∧ (∀ k, v'.ownBlock = some k → k < D ∨ c ≤ k) ∧ (∀ x ∈ Bs, HasO W x.1 x.2) ∧ c ≤ W.heap.size
section
variable {base qs : Nat} {F R : Nat} {xs : List Int} {bl : Bool} {can : Nat} {pa ha fu : Int} {pp : Option Addr} {cc occ : Nat} {v0 : Value} {w : World} {Bs : List (Nat × Obj)} {D c : Nat} {L' : List Ret} {W W' : World}
theorem SeaI.alt (h : SeaI base qs F R xs bl can pa ha fu pp cc occ v0 w Bs D c L' W) {lo hi : Nat} (ha2 : Alt lo hi W W') (h1 : D ≤ lo) (h2 : hi ≤ c) (hbd : base ≤ D) (hq : qs < D) (hB : ∀ x ∈ Bs, x.1 < D) (hw : w.heap.size ≤ D) : SeaI base qs F R xs bl can pa ha fu pp cc occ v0 w Bs D c L' W' := by
 obtain ⟨v', hS, hN, hA, hBs, hc⟩ := h
 refine ⟨v', ⟨hS.st.below (ha2.below (Below.refl _ _) (by omega) hS.st.b), ha2.hasO hS.s (by omega), own_kept hS.o (fun k o e ho => ha2.hasO ho (by have := hA k e; omega)), hS.q⟩, ?_, hA, fun x hx => ha2.hasO (hBs x hx) (by have := hB x hx; omega), Nat.le_trans hc ha2.size⟩
 exact ⟨ha2.os.trans hN.os, ha2.tape.trans hN.tape, ha2.output.trans hN.output, Nat.le_trans hN.size ha2.size, fun k hk e1 e2 => (ha2.block k (Nat.lt_of_lt_of_le hk hN.size) (.inl (by omega))).trans (hN.block k hk e1 e2), hN.near⟩
theorem SeaI.call (h : SeaI base qs F R xs bl can pa ha fu pp cc occ v0 w Bs D c L' W) (hb : RowKit.Below W.heap.size W W') : SeaI base qs F R xs bl can pa ha fu pp cc occ v0 w Bs D c L' W' := by
 obtain ⟨v', hS, hN, hA, hBs, hc⟩ := h
 exact ⟨v', hS.call hb, hN.trans (Nib.of_below qs hb v'), hA, fun x hx => (hBs x hx).call hb, Nat.le_trans hc hb.size⟩
end
set_option maxRecDepth 100000 in
theorem pbL (T : Array Value) (h : T.size = 108) : T = #[ofA T 0, ofA T 1, ofA T 2, ofA T 3, ofA T 4, ofA T 5, ofA T 6, ofA T 7, ofA T 8, ofA T 9, ofA T 10, ofA T 11, ofA T 12, ofA T 13, ofA T 14, ofA T 15, ofA T 16, ofA T 17, ofA T 18, ofA T 19, ofA T 20, ofA T 21, ofA T 22, ofA T 23, ofA T 24, ofA T 25, ofA T 26, ofA T 27, ofA T 28, ofA T 29, ofA T 30, ofA T 31, ofA T 32, ofA T 33, ofA T 34, ofA T 35, ofA T 36, ofA T 37, ofA T 38, ofA T 39, ofA T 40, ofA T 41, ofA T 42, ofA T 43, ofA T 44, ofA T 45, ofA T 46, ofA T 47, ofA T 48, ofA T 49, ofA T 50, ofA T 51, ofA T 52, ofA T 53, ofA T 54, ofA T 55, ofA T 56, ofA T 57, ofA T 58, ofA T 59, ofA T 60, ofA T 61, ofA T 62, ofA T 63, ofA T 64, ofA T 65, ofA T 66, ofA T 67, ofA T 68, ofA T 69, ofA T 70, ofA T 71, ofA T 72, ofA T 73, ofA T 74, ofA T 75, ofA T 76, ofA T 77, ofA T 78, ofA T 79, ofA T 80, ofA T 81, ofA T 82, ofA T 83, ofA T 84, ofA T 85, ofA T 86, ofA T 87, ofA T 88, ofA T 89, ofA T 90, ofA T 91, ofA T 92, ofA T 93, ofA T 94, ofA T 95, ofA T 96, ofA T 97, ofA T 98, ofA T 99, ofA T 100, ofA T 101, ofA T 102, ofA T 103, ofA T 104, ofA T 105, ofA T 106, ofA T 107] := by
 have := arr_lit T
 rw [h] at this
 exact this
def pbF (q2 : Nat) (q3 : Nat) (x : Nat) (X : Nat → Value) : Array Value := #[X 0, X 1, .pointer (some ⟨q2, 0, none⟩), .pointer (some ⟨q3, 0, none⟩), X 4, X 5, X 6, X 7, X 8, X 9, X 10, X 11, X 12, X 13, X 14, X 15, X 16, X 17, X 18, X 19, X 20, X 21, X 22, X 23, X 24, X 25, X 26, X 27, X 28, X 29, X 30, X 31, X 32, X 33, X 34, X 35, X 36, X 37, X 38, X 39, X 40, X 41, .int .i64 x, X 43, X 44, X 45, X 46, X 47, X 48, X 49, X 50, X 51, X 52, X 53, X 54, X 55, X 56, X 57, X 58, X 59, X 60, X 61, X 62, X 63, X 64, X 65, X 66, X 67, X 68, X 69, X 70, X 71, X 72, X 73, X 74, X 75, X 76, X 77, X 78, X 79, X 80, X 81, X 82, X 83, X 84, X 85, X 86, X 87, X 88, X 89, X 90, X 91, X 92, X 93, X 94, X 95, X 96, X 97, X 98, X 99, X 100, X 101, X 102, X 103, X 104, X 105, X 106, X 107]
def pbT (T : Array Value) (q2 : Nat) (q3 : Nat) (x : Nat) : Prop := T.size = 108 ∧ ofA T 2 = .pointer (some ⟨q2, 0, none⟩) ∧ ofA T 3 = .pointer (some ⟨q3, 0, none⟩) ∧ ofA T 42 = .int .i64 x
set_option maxRecDepth 100000 in
theorem pbT.fr {T : Array Value} {q2 : Nat} {q3 : Nat} {x : Nat} (h : pbT T q2 q3 x) : ∃ X, T = pbF q2 q3 x X := by
 obtain ⟨hs, h2, h3, h42⟩ := h
 have h := pbL T hs
 rw [h2, h3, h42] at h
 exact ⟨ofA T, h⟩
set_option maxRecDepth 100000 in
theorem pieBody (F R : Nat) (xs : List Int) (bl : Bool) (can : Nat) (pa ha fu : Int) (pp : Option Addr) (cc occ : Nat) (hH : PosH F R xs can ha fu) (base qs q2 q3 : Nat) (v0 : Value) (w : World) (Bs : List (Nat × Obj)) (tg : Nat) (htg : tg < xs.length) (D c k x : Nat) (hx : x < xs.length) (LK : Nat → List Ret) (hnx : LK (k + 1) = LK k ++ pieC ⟨F, R, xs, bl, can, pa, ha, fu⟩ tg x) (hl : (LK k).length ≤ 899900000)
  (m2 : (q2, Obj.cells #[.pointer (some ⟨qs, 0, none⟩)] 69 (0, 0)) ∈ Bs) (m3 : (q3, Obj.cells #[.int .i64 tg] 3 (0, 0)) ∈ Bs) (hbd : base ≤ D) (hq : qs < D) (hB : ∀ x ∈ Bs, x.1 < D) (hw : w.heap.size ≤ D) (hc : D + 2 ≤ c) (hBq : ∀ x ∈ Bs, x.1 ≠ qs) (hBt : ∀ x ∈ Bs, ∀ cs, x.2 ≠ .cells cs 42 (0, 0))
  (T : Array Value) (hT : pbT T q2 q3 x) (W : World) (hI : SeaI base qs F R xs bl can pa ha fu pp cc occ v0 w Bs D c (LK k) W)
  (ab : Code × Code) (hab : Tryz.f32.body.bind firstRange = some ab) :
  ab.1.wpIn (Fence.wide.inRound (D + 1)) 3 Tryz.prog (Exit.then (fun a₁ W₁ => (∀ q o, (D ≤ q ∧ q < c) → HasO W q o → HasO W₁ q o) ∧
     ∀ W₂, Alt (D + 1) (D + 2) W₁ W₂ → W₂.heap.size = W₁.heap.size → (∃ r, HasO W₂ (D + 1) (.loop r)) →
      ab.2.wpIn (Fence.wide.inRound (D + 1)) 3 Tryz.prog (bodyI (D + 1) D (fun i => SeaI base qs F R xs bl can pa ha fu pp cc occ v0 w Bs D c (LK i)) (fun _ _ => False) k (fun D q => D + 2 ≤ q ∧ q < c) W₂) a₁ W₂) (fun _ _ _ => False))
    { tmps := T, defers := [] } W := by
 obtain rfl := Option.some.inj ((show Tryz.f32.body.bind firstRange = some _ from rfl).symm.trans hab)
 clear hab
 obtain ⟨X, rfl⟩ := hT.fr
 clear hT
 unfold pbF
 have hpc : pieC ⟨F, R, xs, bl, can, pa, ha, fu⟩ tg x = if 0 < ha then tryL ⟨F, R, xs, bl, can, pa, ha, fu⟩ ⟨x, tg, 0⟩ 0 (-1) else capL ⟨F, R, xs, bl, can, pa, ha, fu⟩ ⟨x, tg, 0⟩ 5 := rfl
 rw [hpc] at hnx
 clear hpc
 replace hnx := Lib.hid hnx
 gi_wp2_with fail
 refine ⟨fun q o _ h => h, fun W2 ha2 hz hrec => ?_⟩
 have hI2 := hI.alt ha2 (by omega) hc hbd hq hB hw
 clear hI ha2 hz hrec
 have hb3 := below_box W2 (.cells #[.int .i64 x, .int .i64 tg, .int .i8 0] 40)
 obtain ⟨v2, hS2, hN2, hA2, hBs2, hc2⟩ := hI2
 have b2 : HasO W2 q2 (.cells #[.pointer (some ⟨qs, 0, none⟩)] 69 (0, 0)) := hBs2 _ m2
 have b3 : HasO W2 q3 (.cells #[.int .i64 tg] 3 (0, 0)) := hBs2 _ m3
 have c2 := b2.cells 0
 have l2 := b2.lt
 have c3 := b3.cells 0
 have l3 := b3.lt
 have q0 : ∀ j, W2.cell? ⟨qs, j, none⟩ = (#[.int .i64 F, .int .i64 R, .slice pp xs.length cc, .bool bl, .int .u8 can, .int .i64 pa, .int .i64 ha, .int .i64 fu, .int .u64 occ, v2] : Array Value)[j]? := hS2.s.cells
 have l0 := hS2.s.lt
 have hS3 := hS2.call hb3
 have hN3 := hN2.trans (Nib.of_below qs hb3 v2)
 have hc3 : c ≤ (W2.alloc (.cells #[.int .i64 x, .int .i64 tg, .int .i8 0] 40)).heap.size := Nat.le_trans hc2 hb3.size
 clear b2 b3 hN2
 by_cases h0 : ha > 0
 ·have hca := try_any F R xs bl can pa ha fu pp cc occ hH base qs v2 (LK k) (by omega) ⟨x, tg, 0⟩ 0 (-1) x tg rfl rfl hx htg (W2.alloc (.cells #[.int .i64 x, .int .i64 tg, .int .i8 0] 40)) hS3
  have hLn : Hid (LK (k + 1) = LK k ++ tryL ⟨F, R, xs, bl, can, pa, ha, fu⟩ ⟨x, tg, 0⟩ 0 (-1)) := Lib.hid (by rw [hnx.out, if_pos h0])
  gi_wp2_with fail
  refine ⟨trivial, (CallsIn.inRound _ (callsIn_wide.2 hca)).mono ?_⟩
  rintro e W4 ⟨rfl, v4, hS4, hN4⟩
  have hA4 : ∀ j, v4.ownBlock = some j → j < D ∨ c ≤ j := fun j e => by
   rcases hN4.near j e with h | h
   ·exact hA2 j h
   ·right; omega
  have hKp : ∀ q o, (q = D + 1 ∨ q = D ∨ (D + 2 ≤ q ∧ q < c)) → HasO W2 q o → HasO W4 q o := fun q o h1 ho => hN4.hasO (ho.call hb3) (by omega) (fun e => by have := hA2 q e; omega)
  have hB4 : ∀ x ∈ Bs, HasO W4 x.1 x.2 := fun x hx => hN4.hasO ((hBs2 x hx).call hb3) (hBq x hx) (own_ne hS3.o ((hBs2 x hx).call hb3) (hBt x hx))
  have hc4 := Nat.le_trans hc3 hN4.size
  have hN5 := hN3.trans hN4
  clear hca c2 c3 l2 l3 q0 l0 hN4 hS3 hN3
  gi_wp2_with fail
  exact ⟨hKp, v4, by rw [hLn.out]; first | exact hS4 | (rw [← List.append_assoc]; exact hS4), hN5, hA4, hB4, hc4⟩
 ·have hca := captures_any F R xs bl can pa ha fu pp cc occ hH base qs v2 (LK k) (by omega) ⟨x, tg, 0⟩ x tg rfl rfl hx htg (W2.alloc (.cells #[.int .i64 x, .int .i64 tg, .int .i8 0] 40)) hS3
  have hLn : Hid (LK (k + 1) = LK k ++ capL ⟨F, R, xs, bl, can, pa, ha, fu⟩ ⟨x, tg, 0⟩ 5) := Lib.hid (by rw [hnx.out, if_neg h0])
  gi_wp2_with fail
  refine ⟨trivial, (CallsIn.inRound _ (callsIn_wide.2 hca)).mono ?_⟩
  rintro e W4 ⟨rfl, v4, hS4, hN4⟩
  have hA4 : ∀ j, v4.ownBlock = some j → j < D ∨ c ≤ j := fun j e => by
   rcases hN4.near j e with h | h
   ·exact hA2 j h
   ·right; omega
  have hKp : ∀ q o, (q = D + 1 ∨ q = D ∨ (D + 2 ≤ q ∧ q < c)) → HasO W2 q o → HasO W4 q o := fun q o h1 ho => hN4.hasO (ho.call hb3) (by omega) (fun e => by have := hA2 q e; omega)
  have hB4 : ∀ x ∈ Bs, HasO W4 x.1 x.2 := fun x hx => hN4.hasO ((hBs2 x hx).call hb3) (hBq x hx) (own_ne hS3.o ((hBs2 x hx).call hb3) (hBt x hx))
  have hc4 := Nat.le_trans hc3 hN4.size
  have hN5 := hN3.trans hN4
  clear hca c2 c3 l2 l3 q0 l0 hN4 hS3 hN3
  gi_wp2_with fail
  exact ⟨hKp, v4, by rw [hLn.out]; first | exact hS4 | (rw [← List.append_assoc]; exact hS4), hN5, hA4, hB4, hc4⟩
end Go.Proofs.YtefmplccbkmalaaGreatDoor
namespace Go.Proofs.YtefmplccbkmalaaGreatDoor
open Go.RowKit Go.Sort Go.BigFrame

theorem leaves_one {F : Fence} {n : Nat} {P : Program} {fn : Func} {tmps : Array Value} {R : Ending → World → Prop} {w : World} {D : Nat} (hx : HasO w D (.deferred (some []))) (h : LeavesIn F n P fn tmps R [] .returning (w.putObj D (.deferred none))) :
  LeavesInM F n P fn tmps R [{ target := .collected D, args := #[] }] .returning w := ⟨by simp, .inl ⟨_, _, rfl, run_takeDeferred hx, h⟩⟩
theorem putObj_alt (w : World) (D : Nat) (o : Obj) : Alt D (D + 1) w (w.putObj D o) := ⟨rfl, rfl, rfl, by simp, fun k hk hr => World.putObj_heap_other (by omega)⟩
section
variable {base qs : Nat} {F R : Nat} {xs : List Int} {bl : Bool} {can : Nat} {pa ha fu : Int} {pp : Option Addr} {cc occ : Nat} {v v0 : Value} {L : List Ret} {w W W' : World}
theorem Sea.alt (h : Sea base qs F R xs bl can pa ha fu pp cc occ v L W) {lo hi : Nat} (ha2 : Alt lo hi W W') (hbd : base ≤ lo) (hq : qs < lo) (hv : ∀ k, v.ownBlock = some k → k < lo ∨ hi ≤ k) : Sea base qs F R xs bl can pa ha fu pp cc occ v L W' :=
 ⟨h.st.below (ha2.below (Below.refl _ _) hbd h.st.b), ha2.hasO h.s (.inl hq), own_kept h.o (fun k _ e ho => ha2.hasO ho (hv k e)), h.q⟩
theorem Nib.alt (h : Nib qs w W v0 v) {lo hi : Nat} (ha2 : Alt lo hi W W') (hw : w.heap.size ≤ lo) : Nib qs w W' v0 v :=
 ⟨ha2.os.trans h.os, ha2.tape.trans h.tape, ha2.output.trans h.output, Nat.le_trans h.size ha2.size, fun k hk e1 e2 => (ha2.block k (Nat.lt_of_lt_of_le hk h.size) (.inl (by omega))).trans (h.block k hk e1 e2), h.near⟩
end
theorem casC_no {P : Pos} {tg : Nat} {c : Cas} (h : casB P tg c = false) : casC P tg c = [] := by unfold casC; rw [h]; rfl
theorem casC_ye {P : Pos} {tg : Nat} {c : Cas} (h : casB P tg c = true) : casC P tg c = tryL P ⟨c.fr, tg, 0⟩ 0 (-1) := by unfold casC; rw [h]; rfl

def pcF (q2 : Nat) (q3 : Nat) (kk : Int) (X : Nat → Value) : Array Value := #[X 0, X 1, .pointer (some ⟨q2, 0, none⟩), .pointer (some ⟨q3, 0, none⟩), .int .i8 kk, X 5, X 6, X 7, X 8, X 9, X 10, X 11, X 12, X 13, X 14, X 15, X 16, X 17, X 18, X 19, X 20, X 21, X 22, X 23, X 24, X 25, X 26, X 27, X 28, X 29, X 30, X 31, X 32, X 33, X 34, X 35, X 36, X 37, X 38, X 39, X 40, X 41, X 42, X 43, X 44, X 45, X 46, X 47, X 48, X 49, X 50, X 51, X 52, X 53, X 54, X 55, X 56, X 57, X 58, X 59, X 60, X 61, X 62, X 63, X 64, X 65, X 66, X 67, X 68, X 69, X 70, X 71, X 72, X 73, X 74, X 75, X 76, X 77, X 78, X 79, X 80, X 81, X 82, X 83, X 84, X 85, X 86, X 87, X 88, X 89, X 90, X 91, X 92, X 93, X 94, X 95, X 96, X 97, X 98, X 99, X 100, X 101, X 102, X 103, X 104, X 105, X 106, X 107]
def pcT (T : Array Value) (q2 : Nat) (q3 : Nat) (kk : Int) : Prop := T.size = 108 ∧ ofA T 2 = .pointer (some ⟨q2, 0, none⟩) ∧ ofA T 3 = .pointer (some ⟨q3, 0, none⟩) ∧ ofA T 4 = .int .i8 kk
set_option maxRecDepth 100000 in
theorem pcT.fr {T : Array Value} {q2 : Nat} {q3 : Nat} {kk : Int} (h : pcT T q2 q3 kk) : ∃ X, T = pcF q2 q3 kk X := by
 obtain ⟨hs, h2, h3, h4⟩ := h
 have h := pbL T hs
 rw [h2, h3, h4] at h
 exact ⟨ofA T, h⟩
set_option maxRecDepth 100000 in
theorem pieCas (F R : Nat) (xs : List Int) (bl : Bool) (can : Nat) (pa ha fu : Int) (pp : Option Addr) (cc occ : Nat) (hH : PosH F R xs can ha fu) (hocc : occ = (⟨F, R, xs, bl, can, pa, ha, fu⟩ : Pos).occ) (ho64 : occ < 2 ^ 64) (base qs q2 q3 : Nat) (v0 : Value) (w : World) (Bs : List (Nat × Obj)) (tg : Nat) (htg : tg < xs.length) (D : Nat) (kk : Int) (hkk : kk = kindI ((⟨F, R, xs, bl, can, pa, ha, fu⟩ : Pos).at_ tg)) (v : Value) (L : List Ret) (hl : L.length ≤ 899990000)
  (m2 : (q2, Obj.cells #[.pointer (some ⟨qs, 0, none⟩)] 69 (0, 0)) ∈ Bs) (m3 : (q3, Obj.cells #[.int .i64 tg] 3 (0, 0)) ∈ Bs) (mD : (D, Obj.deferred (some [])) ∈ Bs) (hbd : base ≤ D) (hq : qs < D) (hw : w.heap.size ≤ D) (hBq : ∀ x ∈ Bs, x.1 ≠ qs) (hBt : ∀ x ∈ Bs, ∀ cs, x.2 ≠ .cells cs 42 (0, 0))
  (T : Array Value) (hT : pcT T q2 q3 kk) (W : World) (hS : Sea base qs F R xs bl can pa ha fu pp cc occ v L W) (hN : Nib qs w W v0 v) (hB : ∀ x ∈ Bs, HasO W x.1 x.2) (Rs : Ending → World → Prop)
  (hok : ∀ v' w', Sea base qs F R xs bl can pa ha fu pp cc occ v' (L ++ casK ⟨F, R, xs, bl, can, pa, ha, fu⟩ tg 4) w' → Nib qs w w' v0 v' → Rs (.returned (.tuple #[])) w')
  (cd : Code) (hcd : Tryz.f32.body.map (sufC 4) = some cd) : cd.wp Tryz.prog (bodyPostM Fence.wide 3 Tryz.prog Tryz.f32 Rs) { tmps := T, defers := [{ target := .collected D, args := #[] }] } W := by
 obtain rfl := Option.some.inj ((show Tryz.f32.body.map (sufC 4) = some _ from rfl).symm.trans hcd)
 clear hcd
 simp only [sufC]
 obtain ⟨X, rfl⟩ := hT.fr
 clear hT
 unfold pcF
 obtain ⟨CK, hCK⟩ : ∃ CK, CK = casK ⟨F, R, xs, bl, can, pa, ha, fu⟩ tg := ⟨_, rfl⟩
 have hz0 : CK 0 = [] := by rw [hCK]; rfl
 have hnx0 : ∀ k c, casL[k]? = some c → CK (k + 1) = CK k ++ casC ⟨F, R, xs, bl, can, pa, ha, fu⟩ tg c := fun k c h => by rw [hCK]; simp only [casK, h, Option.getD_some]
 have hll : ∀ k, (CK k).length ≤ 144 * k := fun k => by rw [hCK]; exact casK_len _ _ hH.hF.2 k
 rw [← hCK] at hok
 replace hCK := True.intro
 have hcb : ∀ c, casB ⟨F, R, xs, bl, can, pa, ha, fu⟩ tg c = ((((F : Int) == 8) && ((R : Int) == 8)) && ((kk == 6) && (((tg : Int) == c.tg) && ((c.bl == !bl) && (bits .and .u64 ((occ : Int) / 2 ^ c.fr) 1 == 0))))) := fun c => by
  rw [bit_and0 ho64, hkk, hocc]
  unfold casB
  simp only [← Bool.beq_eq_decide_eq]
  congr 1
  ·congr 1 <;> (rw [Bool.eq_iff_iff]; simp; omega)
  ·congr 2
   rw [Bool.eq_iff_iff]; simp; omega
 replace hkk := Lib.hid hkk
 replace hocc := Lib.hid hocc
 have hld := ld0 W hS.st.g
 have hix := ix0
 generalize casV.toArray = cv at *
 have hlen64 : F = 8 → R = 8 → xs.length = 64 := fun h1 h2 => by rw [hH.len, h1, h2]
 go_wp2_with (with_reducible refine wpList_loadG rfl 132 (.global 0) rfl rfl hld ?_)
 go_loopg [59] 5 (fun q iv wr => ∃ (i : Nat) (v' : Value), q + i = 5 ∧ i ≤ 4 ∧ iv = .int .i64 i ∧ Sea base qs F R xs bl can pa ha fu pp cc occ v' (L ++ CK i) wr ∧ Nib qs w wr v0 v' ∧ (∀ x ∈ Bs, HasO wr x.1 x.2) ∧ True)
 case atStart => exact ⟨0, v, rfl, Nat.zero_le _, rfl, by rw [hz0, List.append_nil]; exact hS, hN, hB, trivial⟩
 case round =>
  clear hS hN hB hld
  obtain ⟨i, v', hq5, hi, rfl, hSr, hNr, hBr, hA2⟩ := hrel
  by_cases hlt : i < 4
  ·have hii : (i : Int) < 4 := by omega
   obtain ⟨c, hc, hcok, hix2⟩ := hix i hlt
   have hnx := hnx0 i c hc
   have hli := hll i
   have hcb := hcb c
   have hno : casB ⟨F, R, xs, bl, can, pa, ha, fu⟩ tg c = false → Hid (CK (i + 1) = CK i) := fun h => Lib.hid (by rw [hnx, casC_no h, List.append_nil])
   have hye : casB ⟨F, R, xs, bl, can, pa, ha, fu⟩ tg c = true → Hid (CK (i + 1) = CK i ++ tryL ⟨F, R, xs, bl, can, pa, ha, fu⟩ ⟨c.fr, tg, 0⟩ 0 (-1)) := fun h => Lib.hid (by rw [hnx, casC_ye h])
   rw [hcb] at hno hye
   clear hix hnx0 hll hnx hcb
   have hcfr : (c.fr : Int) ≤ 64 := by have := hcok.2.1; omega
   have hS3 := hSr.call (below_box wr (.cells c.cs.toArray 131))
   have hN3 := hNr.trans (Nib.of_below qs (below_box wr (.cells c.cs.toArray 131)) v')
   have hC3 := HasO.new wr (.cells c.cs.toArray 131)
   have hB3 : ∀ x ∈ Bs, HasO (wr.alloc (.cells c.cs.toArray 131)) x.1 x.2 := fun x hx => (hBr x hx).alloc _
   go_upto_region 12 with fail
   change Code.wp _ _ _ _ (wr.alloc (.cells c.cs.toArray 131))
   generalize wr.alloc (.cells c.cs.toArray 131) = w3 at *
   generalize wr.heap.size = q10 at *
   clear hSr hNr hBr
   have h8 := size8_eql F R
   have p0 : ∀ d os j, (grow (redrawn w3 d) os).cell? ⟨qs, j, none⟩ = (#[.int .i64 F, .int .i64 R, .slice pp xs.length cc, .bool bl, .int .u8 can, .int .i64 pa, .int .i64 ha, .int .i64 fu, .int .u64 occ, v'] : Array Value)[j]? := row_gr hS3.s
   have e2 : HasO w3 q2 (.cells #[.pointer (some ⟨qs, 0, none⟩)] 69 (0, 0)) := hB3 _ m2
   have e3 : HasO w3 q3 (.cells #[.int .i64 tg] 3 (0, 0)) := hB3 _ m3
   have b2 := cell_regrown ((e2.cells 0).trans (show _ = some (Value.pointer (some ⟨qs, 0, none⟩)) from rfl))
   have b3 := cell_regrown ((e3.cells 0).trans (show _ = some (Value.int .i64 tg) from rfl))
   have p1 : ∀ d os j, (grow (redrawn w3 d) os).cell? ⟨q10, j, none⟩ = (#[.int .u8 c.bit, .bool c.bl, .int .i64 c.fr, .int .i64 c.tg, .int .i64 c.co, .int .i64 c.cr] : Array Value)[j]? := row_gr hC3
   have g0 := cell_regrown hS3.st.g.2.2.2.1
   have g1 := cell_regrown hS3.st.g.2.2.2.2
   have h64 : (((F : Int) == 8) && ((R : Int) == 8)) = true → xs.length = 64 := fun h => by simp at h; exact hlen64 (by omega) (by omega)
   generalize (((F : Int) == 8) && ((R : Int) == 8)) = B8 at *
   rcases B8 with _ | _
   ·have hLn := hno (by simp)
    clear hno hye
    refine wp_region_all (by kernel_rfl) (by kernel_rfl) ?_
    repeat (go_big_quiet_step (fail))
    refine wpQuiet_nil ?_
    intro w4 hb4
    clear p0 b2 b3 p1 g0 g1 h8
    go_wp2_with fail
    go_roundg (gk - 1)
    case measure => omega
    case rel => exact ⟨i + 1, v', by omega, by omega, by go_num, by rw [hLn.out]; exact hS3.call hb4, hN3.trans (Nib.of_below qs hb4 v'), fun x hx => (hB3 x hx).call hb4, hA2⟩
   ·rcases z1 : (kk == 6) with _ | _
    ·have hLn := hno (by rw [z1]; rfl)
     clear hno hye
     refine wp_region_all (by kernel_rfl) (by kernel_rfl) ?_
     repeat (go_big_quiet_step (fail))
     refine wpQuiet_nil ?_
     intro w4 hb4
     clear p0 b2 b3 p1 g0 g1 h8
     go_wp2_with fail
     go_roundg (gk - 1)
     case measure => omega
     case rel => exact ⟨i + 1, v', by omega, by omega, by go_num, by rw [hLn.out]; exact hS3.call hb4, hN3.trans (Nib.of_below qs hb4 v'), fun x hx => (hB3 x hx).call hb4, hA2⟩
    ·rcases z2 : ((tg : Int) == c.tg) with _ | _
     ·have hLn := hno (by rw [z1, z2]; rfl)
      clear hno hye
      refine wp_region_all (by kernel_rfl) (by kernel_rfl) ?_
      repeat (go_big_quiet_step (fail))
      refine wpQuiet_nil ?_
      intro w4 hb4
      clear p0 b2 b3 p1 g0 g1 h8
      go_wp2_with fail
      go_roundg (gk - 1)
      case measure => omega
      case rel => exact ⟨i + 1, v', by omega, by omega, by go_num, by rw [hLn.out]; exact hS3.call hb4, hN3.trans (Nib.of_below qs hb4 v'), fun x hx => (hB3 x hx).call hb4, hA2⟩
     ·rcases z3 : (c.bl == !bl) with _ | _
      ·have hLn := hno (by rw [z1, z2, z3]; rfl)
       clear hno hye
       refine wp_region_all (by kernel_rfl) (by kernel_rfl) ?_
       repeat (go_big_quiet_step (fail))
       refine wpQuiet_nil ?_
       intro w4 hb4
       clear p0 b2 b3 p1 g0 g1 h8
       go_wp2_with fail
       go_roundg (gk - 1)
       case measure => omega
       case rel => exact ⟨i + 1, v', by omega, by omega, by go_num, by rw [hLn.out]; exact hS3.call hb4, hN3.trans (Nib.of_below qs hb4 v'), fun x hx => (hB3 x hx).call hb4, hA2⟩
      ·rcases z4 : (bits .and .u64 ((occ : Int) / 2 ^ c.fr) 1 == 0) with _ | _
       ·have hLn := hno (by rw [z1, z2, z3, z4]; rfl)
        clear hno hye
        refine wp_region_all (by kernel_rfl) (by kernel_rfl) ?_
        repeat (go_big_quiet_step (fail))
        refine wpQuiet_nil ?_
        intro w4 hb4
        clear p0 b2 b3 p1 g0 g1 h8
        go_wp2_with fail
        go_roundg (gk - 1)
        case measure => omega
        case rel => exact ⟨i + 1, v', by omega, by omega, by go_num, by rw [hLn.out]; exact hS3.call hb4, hN3.trans (Nib.of_below qs hb4 v'), fun x hx => (hB3 x hx).call hb4, hA2⟩
       ·have hLn := hye (by rw [z1, z2, z3, z4]; rfl)
        have h64 := h64 rfl
        clear hno hye
        have htr := fun W h => try_any F R xs bl can pa ha fu pp cc occ hH base qs v' (L ++ CK i) (by rw [List.length_append]; omega) ⟨c.fr, tg, 0⟩ 0 (-1) c.fr tg rfl rfl (by have := hcok.2.1; omega) htg W h
        refine wp_region_all (by kernel_rfl) (by kernel_rfl) ?_
        repeat (go_big_quiet_step (fail))
        refine wpQuiet_nil ?_
        intro w4 hb4
        have hS4 := hS3.call hb4
        have hB4 : ∀ x ∈ Bs, HasO w4 x.1 x.2 := fun x hx => (hB3 x hx).call hb4
        have hN4 := hN3.trans (Nib.of_below qs hb4 v')
        have hC4 := hC3.call hb4
        clear p0 b2 b3 p1 g0 g1 h8 hS3 hB3 hN3 hC3 e2 e3
        have e2 : HasO w4 q2 (.cells #[.pointer (some ⟨qs, 0, none⟩)] 69 (0, 0)) := hB4 _ m2
        have e3 : HasO w4 q3 (.cells #[.int .i64 tg] 3 (0, 0)) := hB4 _ m3
        have b2 := e2.cells 0
        have b3 := e3.cells 0
        have b10 := hC4.cells 2
        have l2 := e2.lt
        have l3 := e3.lt
        have l10 := hC4.lt
        clear e2 e3
        go_wp2_with fail
        refine (htr w4 hS4).mono ?_
        rintro e w5 ⟨rfl, v5, hS5, hN5⟩
        have hB5 : ∀ x ∈ Bs, HasO w5 x.1 x.2 := fun x hx => hN5.hasO (hB4 x hx) (hBq x hx) (own_ne hS4.o (hB4 x hx) (hBt x hx))
        have hN6 := hN4.trans hN5
        clear htr hS4 hN4 hB4 hN5 b2 b3 b10 l2 l3 l10
        go_wp2_with fail
        go_roundg (gk - 1)
        case measure => omega
        case rel => exact ⟨i + 1, v5, by omega, by omega, by go_num, by rw [hLn.out, ← List.append_assoc]; exact hS5, hN6, hB5, trivial⟩
  ·obtain rfl : i = 4 := by omega
   go_wp2_with fail
   have hD : HasO wr D (.deferred (some [])) := hBr _ mD
   have hne := own_ne hSr.o hD (by simp)
   refine leaves_one hD ⟨_, results_none rfl _ _ _, hok v' _ (hSr.alt (putObj_alt wr D _) hbd hq (fun k e => ?_)) (hNr.alt (putObj_alt wr D _) hw)⟩
   rcases Nat.lt_trichotomy k D with h | h | h
   ·exact .inl h
   ·subst h; exact absurd e hne
   ·exact .inr h
end Go.Proofs.YtefmplccbkmalaaGreatDoor
