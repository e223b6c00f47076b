import Derived.Test.YtefmplccbkmalaaGreatDoorF32
import Derived.Test.YtefmplccbkmalaaGreatDoorF35
set_option maxHeartbeats 12800000
namespace Go.Proofs.YtefmplccbkmalaaGreatDoor
open Go.RowKit Go.Sort Go.BigFrame

def blkC (n : Nat) : Code → Option Code
 | .block i b => if i = n then some (.block i b) else blkC n b
 | .seq a b => (blkC n a).or (blkC n b)
 | .cond _ a b => (blkC n a).or (blkC n b)
 | .loop b => blkC n b
 | .scope b => blkC n b
 | _ => none
theorem StepArr.below {B : Nat} {w w' : World} {g o : Nat} {st : List (Int × Int)} (h : StepArr w g o st) (hb : RowKit.Below B w w') (hg : g < B) : StepArr w' g o st :=
 ⟨Nat.lt_of_lt_of_le h.1 hb.size, fun j hj => ⟨(hb.cell (p := ⟨g, o + j * 2, none⟩) hg).trans (h.2 j hj).1, (hb.cell (p := ⟨g, o + j * 2 + 1, none⟩) hg).trans (h.2 j hj).2⟩⟩
structure Sta (base : Nat) (pp : Option Addr) (xs : List Int) (w : World) : Prop where
 g : GlobU w
 t : TzOk w
 x : Arr .i8 w pp xs
 b8 : 8 ≤ base
 b : base ≤ w.heap.size
 p : ∀ q, pp = some q → q.block < base
theorem Sta.below {base : Nat} {pp : Option Addr} {xs : List Int} {w w' : World} (h : Sta base pp xs w) (hb : RowKit.Below base w w') : Sta base pp xs w' := by
 obtain ⟨⟨⟨g1, g2, g3, g4, g5⟩, g6, g7, g8, g9⟩, t, x, b8, b, p⟩ := h
 have hk : ∀ {q j : Nat} {v : Value}, q < 8 → w.cell? ⟨q, j, none⟩ = some v → w'.cell? ⟨q, j, none⟩ = some v := fun {q j v} h8 h => by
  rw [hb.cell (p := ⟨q, j, none⟩) (by show q < base; omega)]; exact h
 refine ⟨⟨⟨g1.below hb (by omega), g2.below hb (by omega), g3.below hb (by omega), hk (by decide) g4, hk (by decide) g5⟩, fun j v e => hk (by decide) (g6 j v e), fun j v e => hk (by decide) (g7 j v e), hk (by decide) g8, hk (by decide) g9⟩, fun j hj => hk (by decide) (t j hj), ?_, b8, Nat.le_trans b hb.size, p⟩
 rcases x with x | ⟨b0, o0, e, hl, hc⟩
 ·exact .inl x
 ·exact .inr ⟨b0, o0, e, Nat.lt_of_lt_of_le hl hb.size, fun j hj => (hb.cell (p := ⟨b0, o0 + j, none⟩) (p ⟨b0, o0, none⟩ e)).trans (hc j hj)⟩
structure Sea (base qs : Nat) (F R : Nat) (xs : List Int) (bl : Bool) (can : Nat) (pa ha fu : Int) (pp : Option Addr) (cc occ : Nat) (v : Value) (L : List Ret) (w : World) : Prop where
 st : Sta base pp xs w
 s : HasO w qs (.cells (srCs F R pp xs.length cc bl can pa ha fu occ v).toArray 71 (0, 0))
 o : w.ownsRow base 42 7 v L.length (L.flatMap Ret.cs)
 q : base ≤ qs
structure PosH (F R : Nat) (xs : List Int) (can : Nat) (ha fu : Int) : Prop where
 hF : 3 ≤ F ∧ F ≤ 8
 hR : 3 ≤ R ∧ R ≤ 8
 len : xs.length = F * R
 h6 : ∀ x ∈ xs, -6 ≤ x ∧ x ≤ 6
 ca : can < 256
 ha : 0 ≤ ha ∧ ha ≤ 10000
 fu : -10000 ≤ fu ∧ fu ≤ 10000
theorem Nib.setNew {qs q i : Nat} {w w' : World} {v v' u : Value} (h : Nib qs w w' v v') (hq : w.heap.size ≤ q) : Nib qs w (w'.setCell ⟨q, i, none⟩ u) v v' := by
 obtain ⟨h1, h2, h3, h4, h5, h6⟩ := h
 have hs : Alt q (q + 1) w' (w'.setCell ⟨q, i, none⟩ u) := Alt.setCell ⟨Nat.le_refl _, Nat.lt_succ_self _⟩
 exact ⟨hs.os.trans h1, hs.tape.trans h2, hs.output.trans h3, Nat.le_trans h4 hs.size, fun k hk e1 e2 => (hs.block k (Nat.lt_of_lt_of_le hk h4) (by omega)).trans (h5 k hk e1 e2), h6⟩
section
variable {base qs : Nat} {F R : Nat} {xs : List Int} {bl : Bool} {can : Nat} {pa ha fu : Int} {pp : Option Addr} {cc occ : Nat} {v v' : Value} {L L' : List Ret} {w w' : World}
theorem Sea.call (h : Sea base qs F R xs bl can pa ha fu pp cc occ v L w) (hb : RowKit.Below w.heap.size w w') : Sea base qs F R xs bl can pa ha fu pp cc occ v L w' := by
 have hB : RowKit.Below base w w' := ⟨hb.os, hb.tape, hb.output, hb.size, fun k hk => hb.block k (Nat.lt_of_lt_of_le hk h.st.b)⟩
 exact ⟨h.st.below hB, h.s.call hb, own_call h.o hb, h.q⟩
theorem Sea.nib (h : Sea base qs F R xs bl can pa ha fu pp cc occ v L w) (hn : Nib qs w w' v v') (hs : HasO w' qs (.cells (srCs F R pp xs.length cc bl can pa ha fu occ v').toArray 71 (0, 0))) (ho : w'.ownsRow base 42 7 v' L'.length (L'.flatMap Ret.cs)) :
  Sea base qs F R xs bl can pa ha fu pp cc occ v' L' w' := ⟨h.st.below (hn.below h.q (fun k e => (h.o.lt k e).1) h.st.b), hs, ho, h.q⟩
theorem Sea.setNew (h : Sea base qs F R xs bl can pa ha fu pp cc occ v L w) {q i : Nat} {u : Value} (hq : base ≤ q) (hs : q ≠ qs) (hv : v.ownBlock ≠ some q) : Sea base qs F R xs bl can pa ha fu pp cc occ v L (w.setCell ⟨q, i, none⟩ u) := by
 refine ⟨h.st.below ((Below.refl _ _).setCell (by exact hq) _), h.s.far (fun e => hs e.symm) _, ?_, h.q⟩
 refine h.o.kept (row := some q) ⟨rfl, rfl, rfl, by simp [World.setCell], fun k hk hkq => ?_⟩ (.inr hv)
 rw [Below.heap_setCell _ _ _ _ (fun e => hkq (by rw [e]))]
structure TrJ (base qs : Nat) (F R : Nat) (xs : List Int) (bl : Bool) (can : Nat) (pa ha fu : Int) (pp : Option Addr) (cc occ : Nat) (v0 : Value) (w : World) (q8 : Nat) (r : Ret) (v : Value) (L : List Ret) (wr : World) : Prop where
 s : Sea base qs F R xs bl can pa ha fu pp cc occ v L wr
 n : Nib qs w wr v0 v
 e : v.ownBlock ≠ some q8
 b : HasO wr q8 (.cells r.cs.toArray 42 (0, 0))
 q : w.heap.size ≤ q8
 qb : base ≤ q8
 qs : q8 ≠ qs
variable {v0 : Value} {q8 : Nat} {r : Ret} {wr : World}
theorem TrJ.call (h : TrJ base qs F R xs bl can pa ha fu pp cc occ v0 w q8 r v L wr) (hb : RowKit.Below wr.heap.size wr w') : TrJ base qs F R xs bl can pa ha fu pp cc occ v0 w q8 r v L w' :=
 ⟨h.s.call hb, h.n.trans (Nib.of_below qs hb v), h.e, h.b.call hb, h.q, h.qb, h.qs⟩
theorem TrJ.set5 (h : TrJ base qs F R xs bl can pa ha fu pp cc occ v0 w q8 r v L wr) (c : Int) : TrJ base qs F R xs bl can pa ha fu pp cc occ v0 w q8 { r with ca := c } v L (wr.setCell ⟨q8, 5, none⟩ (.int .u8 c)) := by
 have hb := h.b.set_ 5 (.int .u8 c)
 rw [List.setIfInBounds_toArray] at hb
 exact ⟨h.s.setNew h.qb h.qs h.e, h.n.setNew h.q, h.e, hb, h.q, h.qb, h.qs⟩
theorem TrJ.set6 (h : TrJ base qs F R xs bl can pa ha fu pp cc occ v0 w q8 r v L wr) (c : Int) : TrJ base qs F R xs bl can pa ha fu pp cc occ v0 w q8 { r with pa := c } v L (wr.setCell ⟨q8, 6, none⟩ (.int .i64 c)) := by
 have hb := h.b.set_ 6 (.int .i64 c)
 rw [List.setIfInBounds_toArray] at hb
 exact ⟨h.s.setNew h.qb h.qs h.e, h.n.setNew h.q, h.e, hb, h.q, h.qb, h.qs⟩
theorem TrJ.nib (h : TrJ base qs F R xs bl can pa ha fu pp cc occ v0 w q8 r v L wr) (hn : Nib qs wr w' v v') (hs : HasO w' qs (.cells (srCs F R pp xs.length cc bl can pa ha fu occ v').toArray 71 (0, 0))) (ho : w'.ownsRow base 42 7 v' L'.length (L'.flatMap Ret.cs)) (hb : HasO w' q8 (.cells r.cs.toArray 42 (0, 0))) :
  TrJ base qs F R xs bl can pa ha fu pp cc occ v0 w q8 r v' L' w' := by
 refine ⟨h.s.nib hn hs ho, h.n.trans hn, fun e => ?_, hb, h.q, h.qb, h.qs⟩
 rcases hn.near _ e with e2 | e2
 ·exact h.e e2
 ·have := h.b.lt; omega
end
theorem own_row1 {w : World} {base n : Nat} {e : TypeId} {v : Value} {xs : List Value} (h : w.ownsRow base e 1 v n xs) (hn : n = xs.length) (h0 : 0 < n) : ∃ g cap cur, v = .slice (some ⟨g, 0, none⟩) n cap ∧ HasO w g (.cells cur e (0, 0)) ∧ ∀ j, j < n → cur[j]? = xs[j]? := by
 rcases h.2 with ⟨rfl, h1⟩ | ⟨g, cap, cur, rfl, hb, hh, h1, h2, h3, h4⟩
 ·omega
 ·refine ⟨g, cap, cur, rfl, hh, fun j hj => ?_⟩
  rw [← h4, Nat.mul_one, List.getElem?_take_of_lt hj]
  simp
set_option maxRecDepth 100000 in
theorem tnL (T : Array Value) (h : T.size = 88) : T = #[ofA T 0, ofA T 1, ofA T 2, ofA T 3, ofA T 4, ofA T 5, ofA T 6, ofA T 7, ofA T 8, ofA T 9, ofA T 10, ofA T 11, ofA T 12, ofA T 13, ofA T 14, ofA T 15, ofA T 16, ofA T 17, ofA T 18, ofA T 19, ofA T 20, ofA T 21, ofA T 22, ofA T 23, ofA T 24, ofA T 25, ofA T 26, ofA T 27, ofA T 28, ofA T 29, ofA T 30, ofA T 31, ofA T 32, ofA T 33, ofA T 34, ofA T 35, ofA T 36, ofA T 37, ofA T 38, ofA T 39, ofA T 40, ofA T 41, ofA T 42, ofA T 43, ofA T 44, ofA T 45, ofA T 46, ofA T 47, ofA T 48, ofA T 49, ofA T 50, ofA T 51, ofA T 52, ofA T 53, ofA T 54, ofA T 55, ofA T 56, ofA T 57, ofA T 58, ofA T 59, ofA T 60, ofA T 61, ofA T 62, ofA T 63, ofA T 64, ofA T 65, ofA T 66, ofA T 67, ofA T 68, ofA T 69, ofA T 70, ofA T 71, ofA T 72, ofA T 73, ofA T 74, ofA T 75, ofA T 76, ofA T 77, ofA T 78, ofA T 79, ofA T 80, ofA T 81, ofA T 82, ofA T 83, ofA T 84, ofA T 85, ofA T 86, ofA T 87] := by
 have := arr_lit T
 rw [h] at this
 exact this
def tnF (q0 : Nat) (q8 : Nat) (gn : Nat) (k : Nat) (vB : Value) (nB : Nat) (X : Nat → Value) : Array Value := #[.pointer (some ⟨q0, 0, none⟩), X 1, X 2, X 3, X 4, X 5, X 6, X 7, .pointer (some ⟨q8, 0, none⟩), .int .u8 gn, X 10, X 11, X 12, X 13, X 14, X 15, X 16, X 17, X 18, X 19, X 20, X 21, X 22, X 23, X 24, X 25, .int .u8 k, X 27, X 28, X 29, X 30, X 31, X 32, X 33, X 34, X 35, X 36, X 37, X 38, X 39, X 40, X 41, X 42, X 43, X 44, X 45, X 46, X 47, X 48, X 49, X 50, X 51, X 52, X 53, X 54, X 55, X 56, X 57, X 58, vB, .int .i64 nB, .int .i64 0, X 62, X 63, X 64, X 65, X 66, X 67, X 68, X 69, X 70, X 71, X 72, X 73, X 74, X 75, X 76, X 77, X 78, X 79, X 80, X 81, X 82, X 83, X 84, X 85, X 86, X 87]
def tnT (T : Array Value) (q0 : Nat) (q8 : Nat) (gn : Nat) (k : Nat) (vB : Value) (nB : Nat) : Prop := T.size = 88 ∧ ofA T 0 = .pointer (some ⟨q0, 0, none⟩) ∧ ofA T 8 = .pointer (some ⟨q8, 0, none⟩) ∧ ofA T 9 = .int .u8 gn ∧ ofA T 26 = .int .u8 k ∧ ofA T 59 = vB ∧ ofA T 60 = .int .i64 nB ∧ ofA T 61 = .int .i64 0
set_option maxRecDepth 100000 in
theorem tnT.fr {T : Array Value} {q0 : Nat} {q8 : Nat} {gn : Nat} {k : Nat} {vB : Value} {nB : Nat} (h : tnT T q0 q8 gn k vB nB) : ∃ X, T = tnF q0 q8 gn k vB nB X := by
 obtain ⟨hs, h0, h8, h9, h26, h59, h60, h61⟩ := h
 have h := tnL T hs
 rw [h0, h8, h9, h26, h59, h60, h61] at h
 exact ⟨ofA T, h⟩

def toF (q0 : Nat) (q8 : Nat) (gn : Nat) (k : Nat) (X : Nat → Value) : Array Value := #[.pointer (some ⟨q0, 0, none⟩), X 1, X 2, X 3, X 4, X 5, X 6, X 7, .pointer (some ⟨q8, 0, none⟩), .int .u8 gn, X 10, X 11, X 12, X 13, X 14, X 15, X 16, X 17, X 18, X 19, X 20, X 21, X 22, X 23, X 24, X 25, .int .u8 k, X 27, X 28, X 29, X 30, X 31, X 32, X 33, X 34, X 35, X 36, X 37, X 38, X 39, X 40, X 41, X 42, X 43, X 44, X 45, X 46, X 47, X 48, X 49, X 50, X 51, X 52, X 53, X 54, X 55, X 56, X 57, X 58, X 59, X 60, X 61, X 62, X 63, X 64, X 65, X 66, X 67, X 68, X 69, X 70, X 71, X 72, X 73, X 74, X 75, X 76, X 77, X 78, X 79, X 80, X 81, X 82, X 83, X 84, X 85, X 86, X 87]
def toT (T : Array Value) (q0 : Nat) (q8 : Nat) (gn : Nat) (k : Nat) : Prop := T.size = 88 ∧ ofA T 0 = .pointer (some ⟨q0, 0, none⟩) ∧ ofA T 8 = .pointer (some ⟨q8, 0, none⟩) ∧ ofA T 9 = .int .u8 gn ∧ ofA T 26 = .int .u8 k
set_option maxRecDepth 100000 in
theorem toT.fr {T : Array Value} {q0 : Nat} {q8 : Nat} {gn : Nat} {k : Nat} (h : toT T q0 q8 gn k) : ∃ X, T = toF q0 q8 gn k X := by
 obtain ⟨hs, h0, h8, h9, h26⟩ := h
 have h := tnL T hs
 rw [h0, h8, h9, h26] at h
 exact ⟨ofA T, h⟩

def tinL (P : Pos) (r : Ret) (BL : List Int) : Nat → List Ret
 | 0 => []
 | j + 1 => if mayW P { r with pa := BL[j]?.getD 0 } then tinL P r BL j ++ [{ r with pa := BL[j]?.getD 0 }] else tinL P r BL j
theorem tinL_len (P : Pos) (r : Ret) (BL : List Int) : ∀ j, (tinL P r BL j).length ≤ j := by
 intro j
 induction j with
 | zero => simp [tinL]
 | succ j ih =>
  simp only [tinL]
  split
  ·simp; omega
  ·omega
set_option maxRecDepth 100000 in
theorem tryIn (F R : Nat) (xs : List Int) (bl : Bool) (can : Nat) (pa ha fu : Int) (pp : Option Addr) (cc occ : Nat) (hH : PosH F R xs can ha fu) (base qs q8 gn k : Nat) (v0 : Value) (w : World) (r : Ret) (a b : Nat) (hra : r.mv.fr = a) (hrb : r.mv.tg = b) (hla : a < xs.length) (hlb : b < xs.length) (hrc : 0 ≤ r.ca ∧ r.ca < 256)
  (BL : List Int) (hBL : BL.length ≤ 9) (hB0 : 0 < BL.length) (vB : Value) (T : Array Value) (hT : tnT T qs q8 gn k vB BL.length) (v : Value) (L : List Ret) (hl : L.length ≤ 900001000) (W : World) (n0 : Nat) (hvB : W.ownsRow n0 3 1 vB BL.length (BL.map (.int .i64)))
  (hJ : TrJ base qs F R xs bl can pa ha fu pp cc occ v0 w q8 r v L W) (Q : Exit → Act → World → Prop)
  (hok : ∀ T' p v' w', toT T' qs q8 gn k → (∀ i, (1 ≤ i ∧ i ≤ 7) ∨ (13 ≤ i ∧ i ≤ 25) → ofA T' i = ofA T i) → TrJ base qs F R xs bl can pa ha fu pp cc occ v0 w q8 { r with pa := p } v' (L ++ tinL ⟨F, R, xs, bl, can, pa, ha, fu⟩ r BL BL.length) w' → Q .normal { tmps := T', defers := [] } w')
  (cd : Code) (hcd : Tryz.f90.body.bind (blkC 2) = some cd) : cd.wp Tryz.prog Q { tmps := T, defers := [] } W := by
 obtain rfl := Option.some.inj ((show Tryz.f90.body.bind (blkC 2) = some _ from rfl).symm.trans hcd)
 clear hcd
 obtain ⟨X, rfl⟩ := hT.fr
 clear hT
 unfold tnF
 obtain ⟨g, cap, cur, rfl, hB, hcur⟩ := own_row1 hvB (by simp) hB0
 have hcu : ∀ j, j < BL.length → cur[j]? = some (.int .i64 (BL[j]?.getD 0)) := fun j hj => by
  rw [hcur j hj, List.getElem?_map, List.getElem?_eq_getElem hj]; rfl
 clear hcur hvB
 have hnx0 : ∀ j, tinL ⟨F, R, xs, bl, can, pa, ha, fu⟩ r BL (j + 1) = if mayW ⟨F, R, xs, bl, can, pa, ha, fu⟩ { r with pa := BL[j]?.getD 0 } then tinL ⟨F, R, xs, bl, can, pa, ha, fu⟩ r BL j ++ [{ r with pa := BL[j]?.getD 0 }] else tinL ⟨F, R, xs, bl, can, pa, ha, fu⟩ r BL j := fun _ => rfl
 have hz0 : tinL ⟨F, R, xs, bl, can, pa, ha, fu⟩ r BL 0 = [] := rfl
 have hll := tinL_len ⟨F, R, xs, bl, can, pa, ha, fu⟩ r BL
 generalize tinL ⟨F, R, xs, bl, can, pa, ha, fu⟩ r BL = TL at *
 go_wp2_with fail
 go_loopg [61] 11 (fun q iv wr => ∃ (j : Nat) (p : Int) (v' : Value), q + j = 11 ∧ j ≤ BL.length ∧ iv = .int .i64 j ∧ TrJ base qs F R xs bl can pa ha fu pp cc occ v0 w q8 { r with pa := p } v' (L ++ TL j) wr ∧ HasO wr g (.cells cur 3 (0, 0)))
 case atStart => exact ⟨0, r.pa, v, by omega, Nat.zero_le _, rfl, by rw [hz0, List.append_nil]; exact hJ, hB⟩
 case round =>
  obtain ⟨j, p, v', hq, hj, rfl, hJr, hBr⟩ := hrel
  by_cases hlt : j < BL.length
  ·have cj : wr.cell? ⟨g, j, none⟩ = some (.int .i64 (BL[j]?.getD 0)) := by rw [hBr.cells j, hcu j hlt]
   have hnx := hnx0 j
   have hlj := hll j
   generalize BL[j]?.getD 0 = y at *
   have c6 := hJr.b.cells 6
   have f6 := hJr.b.frozen 6
   have l8 := hJr.b.lt
   have lB := hBr.lt
   have hji : (j : Int) < BL.length := by omega
   have hgq : g ≠ q8 := fun e => by
    subst e
    have := Option.some.inj (hBr.symm.trans hJr.b)
    simp at this
   have hgs : g ≠ qs := fun e => by
    subst e
    have := Option.some.inj (hBr.symm.trans hJr.s.s)
    simp at this
   clear hcu hnx0 hll hJ hB
   replace hnx := Lib.hid hnx
   replace hra := Lib.hid hra
   replace hrb := Lib.hid hrb
   go_upto_region 13 with fail
   have hJ2 := hJr.set6 y
   have hB2 := hBr.far (p := ⟨q8, 6, none⟩) hgq (.int .i64 y)
   generalize wr.setCell ⟨q8, 6, none⟩ (.int .i64 y) = w2 at *
   clear cj c6 f6 l8 lB hJr hBr
   refine try13 (r := { r with pa := y }) a b hra.out hrb.out hla hlb hH.hF hH.hR hH.len hH.h6 hH.ha hH.fu hrc w2 hJ2.s.st.g hJ2.s.st.x hJ2.s.s hJ2.b _ _ rfl rfl (by simp) ?_ _ rfl
   intro f w3 hb3 h11
   have hJ3 := hJ2.call hb3
   have hB3 := hB2.call hb3
   clear hJ2 hB2 hb3
   simp only [putL, h11]
   go_simp
   rcases zm : mayW ⟨F, R, xs, bl, can, pa, ha, fu⟩ { r with pa := y } with _ | _
   ·have hLn : Hid (TL (j + 1) = TL j) := Lib.hid (by rw [hnx.out, zm]; rfl)
    clear h11
    go_wp2_with fail
    go_roundg (gk - 1)
    case measure => omega
    case rel => exact ⟨j + 1, y, v', by omega, by omega, by go_num, by rw [hLn.out]; exact hJ3, hB3⟩
   ·have hLn : Hid (TL (j + 1) = TL j ++ [{ r with pa := y }]) := Lib.hid (by rw [hnx.out, zm]; rfl)
    clear h11
    go_upto_region 15 with fail
    refine try15 base qs q8 v' { r with pa := y } (L ++ TL j) (srCs F R pp xs.length cc bl can pa ha fu occ v') w3 _ _ rfl rfl rfl hJ3.s.s hJ3.b hJ3.s.o hJ3.e hJ3.qs (by simp) (by rw [List.length_append]; omega) hJ3.s.st.b ?_ _ rfl
    intro f4 w4 v4 ho4 hs4 hn4 hb4
    have hB4 := hn4.hasO hB3 hgs (own_ne hJ3.s.o hB3 (by simp))
    have hJ4 := hJ3.nib hn4 hs4 ho4 hb4
    clear hJ3 hB3 ho4 hs4 hn4 hb4
    simp only [putL]
    go_simp
    go_wp2_with fail
    go_roundg (gk - 1)
    case measure => omega
    case rel => exact ⟨j + 1, y, v4, by omega, by omega, by go_num, by rw [hLn.out, ← List.append_assoc]; exact hJ4, hB4⟩
  ·obtain rfl : j = BL.length := by omega
   go_wp2_with fail
   refine hok _ p v' wr ⟨rfl, rfl, rfl, rfl, rfl⟩ (fun i hi => ?_) hJr
   rcases (by omega : i = 1 ∨ i = 2 ∨ i = 3 ∨ i = 4 ∨ i = 5 ∨ i = 6 ∨ i = 7 ∨ i = 13 ∨ i = 14 ∨ i = 15 ∨ i = 16 ∨ i = 17 ∨ i = 18 ∨ i = 19 ∨ i = 20 ∨ i = 21 ∨ i = 22 ∨ i = 23 ∨ i = 24 ∨ i = 25) with rfl | rfl | rfl | rfl | rfl | rfl | rfl | rfl | rfl | rfl | rfl | rfl | rfl | rfl | rfl | rfl | rfl | rfl | rfl | rfl <;> rfl
def tpF (q0 : Nat) (q8 : Nat) (gn : Nat) (X : Nat → Value) : Array Value := #[.pointer (some ⟨q0, 0, none⟩), X 1, X 2, X 3, X 4, X 5, X 6, X 7, .pointer (some ⟨q8, 0, none⟩), .int .u8 gn, X 10, X 11, X 12, X 13, X 14, X 15, X 16, X 17, X 18, X 19, X 20, X 21, X 22, X 23, X 24, X 25, X 26, X 27, X 28, X 29, X 30, X 31, X 32, X 33, X 34, X 35, X 36, X 37, X 38, X 39, X 40, X 41, X 42, X 43, X 44, X 45, X 46, X 47, X 48, X 49, X 50, X 51, X 52, X 53, X 54, X 55, X 56, X 57, X 58, X 59, X 60, X 61, X 62, X 63, X 64, X 65, X 66, X 67, X 68, X 69, X 70, X 71, X 72, X 73, X 74, X 75, X 76, X 77, X 78, X 79, X 80, X 81, X 82, X 83, X 84, X 85, X 86, X 87]
def tpT (T : Array Value) (q0 : Nat) (q8 : Nat) (gn : Nat) : Prop := T.size = 88 ∧ ofA T 0 = .pointer (some ⟨q0, 0, none⟩) ∧ ofA T 8 = .pointer (some ⟨q8, 0, none⟩) ∧ ofA T 9 = .int .u8 gn
set_option maxRecDepth 100000 in
theorem tpT.fr {T : Array Value} {q0 : Nat} {q8 : Nat} {gn : Nat} (h : tpT T q0 q8 gn) : ∃ X, T = tpF q0 q8 gn X := by
 obtain ⟨hs, h0, h8, h9⟩ := h
 have h := tnL T hs
 rw [h0, h8, h9] at h
 exact ⟨ofA T, h⟩

theorem tinL_eq (P : Pos) (r : Ret) (BL : List Int) : ∀ j, j ≤ BL.length → tinL P r BL j = ((BL.take j).map (fun pa => ({ r with pa := pa } : Ret))).filter (mayW P) := by
 intro j
 induction j with
 | zero => intro _; simp [tinL]
 | succ j ih =>
  intro hj
  have hj2 : j < BL.length := by omega
  rw [List.take_succ_eq_append_getElem hj2, List.map_append, List.filter_append, ← ih (by omega)]
  simp only [tinL, List.map_cons, List.map_nil, List.filter_cons, List.filter_nil, List.getElem?_eq_getElem hj2, Option.getD_some]
  split
  ·rfl
  ·simp
theorem tryC_eq (P : Pos) (m : Mv) (cp at_ : Int) (k : Nat) (r : Ret) (hr : r.mv = m ∧ r.cp = cp ∧ r.at_ = at_ ∧ r.ca = k) (BL : List Int) (hBL : BL = behL P.F P.R (befW P r).xs (!P.bl) (befW P r).ha) (z1 : clrN k (goneW P m) = clrN P.ca.toNat (goneW P m)) (z2 : clrN P.ca.toNat k = 0) :
  tryC P m cp at_ k = tinL P r BL BL.length := by
 obtain ⟨mv, c1, a1, k1, p1⟩ := r
 obtain ⟨h1, h2, h3, h4⟩ := hr
 simp only at h1 h2 h3 h4
 subst h1 h2 h3 h4
 rw [tinL_eq _ _ _ _ (Nat.le_refl _), List.take_length, hBL]
 unfold tryC
 rw [if_neg (by rw [z1, z2]; simp)]
 rfl
theorem tryC_no (P : Pos) (m : Mv) (cp at_ : Int) (k : Nat) (h : clrN k (goneW P m) ≠ clrN P.ca.toNat (goneW P m) ∨ clrN P.ca.toNat k ≠ 0) : tryC P m cp at_ k = [] := if_pos h
theorem behL_len (F R : Nat) (xs : List Int) (bl : Bool) (ha : Int) (hF : F ≤ 8) : (behL F R xs bl ha).length ≤ 9 ∧ 0 < (behL F R xs bl ha).length := by
 have hp : ∀ (K : Nat) (u : Int) (k : Nat), 0 < (bhL F K u xs bl k).length := by
  intro K u k
  induction k with
  | zero => simp [bhL]
  | succ k ih =>
   simp only [bhL]
   split
   ·simp
   ·exact ih
 unfold behL
 split
 ·simp
 ·exact ⟨Nat.le_trans (bhL_len _ _ _ _ _ _) (by omega), hp _ _ _⟩
theorem goneW_lt (P : Pos) (m : Mv) : goneW P m < 256 := by
 unfold goneW
 split
 ·exact orK_lt _ _
 ·decide
set_option maxRecDepth 100000 in
theorem tryOut (F R : Nat) (xs : List Int) (bl : Bool) (can : Nat) (pa ha fu : Int) (pp : Option Addr) (cc occ : Nat) (hH : PosH F R xs can ha fu) (base qs q8 gn : Nat) (v0 : Value) (w : World) (m : Mv) (cp at_ : Int) (a b : Nat) (hra : m.fr = a) (hrb : m.tg = b) (hla : a < xs.length) (hlb : b < xs.length) (hgn : gn = goneW ⟨F, R, xs, bl, can, pa, ha, fu⟩ m)
  (T : Array Value) (hT : tpT T qs q8 gn) (v : Value) (L : List Ret) (hl : L.length ≤ 900000000) (W : World)
  (hJ : TrJ base qs F R xs bl can pa ha fu pp cc occ v0 w q8 ⟨m, cp, at_, 0, 0⟩ v L W) (Rs : Ending → World → Prop)
  (hok : ∀ r v' w', TrJ base qs F R xs bl can pa ha fu pp cc occ v0 w q8 r v' (L ++ tryL ⟨F, R, xs, bl, can, pa, ha, fu⟩ m cp at_) w' → Rs (.returned (.tuple #[])) w')
  (cd : Code) (hcd : Tryz.f90.body.map (sufC 4) = some cd) : cd.wp Tryz.prog (bodyPost Tryz.prog Tryz.f90 Rs) { tmps := T, defers := [] } W := by
 obtain rfl := Option.some.inj ((show Tryz.f90.body.map (sufC 4) = some _ from rfl).symm.trans hcd)
 clear hcd
 simp only [sufC]
 obtain ⟨X, rfl⟩ := hT.fr
 clear hT
 unfold tpF
 obtain ⟨TL, hTL⟩ : ∃ TL, TL = tryK ⟨F, R, xs, bl, can, pa, ha, fu⟩ m cp at_ := ⟨_, rfl⟩
 have hz0 : TL 0 = [] := by rw [hTL]; rfl
 have hz16 : TL 16 = tryL ⟨F, R, xs, bl, can, pa, ha, fu⟩ m cp at_ := by rw [hTL]; rfl
 have hnx0 : ∀ k, TL (k + 1) = TL k ++ tryC ⟨F, R, xs, bl, can, pa, ha, fu⟩ m cp at_ k := fun k => by rw [hTL]; rfl
 have hll : ∀ k, (TL k).length ≤ 9 * k := fun k => by rw [hTL]; exact tryK_len _ _ _ _ hH.hF.2 k
 rw [← hz16] at hok
 clear hz16
 replace hTL := True.intro
 have hgl : gn < 256 := by rw [hgn]; exact goneW_lt _ _
 replace hgn := Lib.hid hgn
 go_wp2_with fail
 go_loopg [26] 17 (fun q iv wr => ∃ (k : Nat) (r : Ret) (v' : Value), q + k = 17 ∧ k ≤ 16 ∧ iv = .int .u8 k ∧ (r.mv = m ∧ r.cp = cp ∧ r.at_ = at_) ∧ TrJ base qs F R xs bl can pa ha fu pp cc occ v0 w q8 r v' (L ++ TL k) wr)
 case atStart => exact ⟨0, ⟨m, cp, at_, 0, 0⟩, v, by omega, Nat.zero_le _, rfl, ⟨rfl, rfl, rfl⟩, by rw [hz0, List.append_nil]; exact hJ⟩
 case round =>
  obtain ⟨k, r, v', hq, hk16, rfl, hr, hJr⟩ := hrel
  by_cases hlt : k < 16
  ·have hnx := hnx0 k
   have hlk := hll k
   have e1 := u8_andNot_nat k gn (by omega) (by omega)
   have e2 := u8_andNot_nat can gn hH.ca (by omega)
   have e3 := u8_andNot_nat can k hH.ca (by omega)
   have hno := tryC_no ⟨F, R, xs, bl, can, pa, ha, fu⟩ m cp at_ k
   have hye := fun BL z1 z2 h => tryC_eq ⟨F, R, xs, bl, can, pa, ha, fu⟩ m cp at_ k { r with ca := k } ⟨hr.1, hr.2.1, hr.2.2, rfl⟩ BL h z1 z2
   rw [← hgn.out] at hno hye
   have ec : (⟨F, R, xs, bl, can, pa, ha, fu⟩ : Pos).ca.toNat = can := Int.toNat_natCast can
   rw [ec] at hno hye
   change bits .andNot .u8 (k : Int) (gn : Int) = ((clrN k gn : Nat) : Int) at e1
   change bits .andNot .u8 (can : Int) (gn : Int) = ((clrN can gn : Nat) : Int) at e2
   change bits .andNot .u8 (can : Int) (k : Int) = ((clrN can k : Nat) : Int) at e3
   generalize clrN k gn = A1 at *
   generalize clrN can gn = A2 at *
   generalize clrN can k = A3 at *
   have p0 : ∀ j, wr.cell? ⟨qs, j, none⟩ = (#[.int .i64 F, .int .i64 R, .slice pp xs.length cc, .bool bl, .int .u8 can, .int .i64 pa, .int .i64 ha, .int .i64 fu, .int .u64 occ, v'] : Array Value)[j]? := hJr.s.s.cells
   have l0 := hJr.s.s.lt
   have c5 := hJr.b.cells 5
   have f5 := hJr.b.frozen 5
   have l8 := hJr.b.lt
   clear hnx0 hll hJ
   replace hnx := Lib.hid hnx
   replace hra := Lib.hid hra
   replace hrb := Lib.hid hrb
   replace hr := Lib.hid hr
   rcases z1 : ((A1 : Int) != A2) with _ | _
   ·rcases z2 : ((A3 : Int) != 0) with _ | _
    ·have hye := fun BL h => hye BL (by simp at z1; omega) (by simp at z2; omega) h
     clear hno
     go_upto_region 10 with fail
     rename_i k1 hk1 k0 hk0
     replace hk0 := Lib.hid hk0
     have hJ2 := hJr.set5 (k : Int)
     generalize wr.setCell ⟨q8, 5, none⟩ (.int .u8 (k : Int)) = w2 at *
     clear p0 l0 c5 f5 l8 e1 e2 e3 hJr
     have hra2 : ({ r with ca := (k : Int) } : Ret).mv.fr = a := (congrArg Mv.fr hr.out.1).trans hra.out
     have hrb2 : ({ r with ca := (k : Int) } : Ret).mv.tg = b := (congrArg Mv.tg hr.out.1).trans hrb.out
     refine try10 (r := { r with ca := (k : Int) }) a b hra2 hrb2 hla hlb hH.hF hH.hR hH.len hH.h6 hH.ha hH.fu w2 hJ2.s.st.g hJ2.s.st.x hJ2.s.s hJ2.b _ _ rfl rfl (by simp) ?_ _ rfl
     intro f w3 BL hBLe hb3 hown3 h8 h9
     have hJ3 := hJ2.call hb3
     have hte := hye BL hBLe
     obtain ⟨hb9, hb0⟩ := behL_len F R (befW ⟨F, R, xs, bl, can, pa, ha, fu⟩ { r with ca := (k : Int) }).xs (!bl) (befW ⟨F, R, xs, bl, can, pa, ha, fu⟩ { r with ca := (k : Int) }).ha hH.hF.2
     rw [← hBLe] at hb9 hb0
     replace hBLe := True.intro
     have hLn : Hid (TL (k + 1) = TL k ++ tinL ⟨F, R, xs, bl, can, pa, ha, fu⟩ { r with ca := (k : Int) } BL BL.length) := Lib.hid (by rw [hnx.out, hte])
     clear hye hte hb3 hJ2
     simp only [putL, h8, h9]
     go_simp
     refine hk0.out _ _ ?_
     refine tryIn F R xs bl can pa ha fu pp cc occ hH base qs q8 gn k v0 w { r with ca := (k : Int) } a b hra2 hrb2 hla hlb ⟨by show (0 : Int) ≤ (k : Int); omega, by show (k : Int) < 256; omega⟩ BL hb9 hb0 (f 7) _ ?_ v' (L ++ TL k) (by rw [List.length_append]; omega) w3 _ hown3 hJ3 _ ?_ _ rfl
     ·exact ⟨rfl, rfl, rfl, rfl, rfl, rfl, rfl, rfl⟩
     ·intro T' p v4 w4 hT4 hX4 hJ4
      obtain ⟨X4, rfl⟩ := hT4.fr
      have x1 : X4 1 = X 1 := hX4 1 (by omega)
      have x2 : X4 2 = X 2 := hX4 2 (by omega)
      have x3 : X4 3 = X 3 := hX4 3 (by omega)
      have x4 : X4 4 = X 4 := hX4 4 (by omega)
      have x5 : X4 5 = X 5 := hX4 5 (by omega)
      have x6 : X4 6 = X 6 := hX4 6 (by omega)
      have x7 : X4 7 = X 7 := hX4 7 (by omega)
      have x13 : X4 13 = X 13 := hX4 13 (by omega)
      have x14 : X4 14 = X 14 := hX4 14 (by omega)
      have x15 : X4 15 = X 15 := hX4 15 (by omega)
      have x16 : X4 16 = X 16 := hX4 16 (by omega)
      have x17 : X4 17 = X 17 := hX4 17 (by omega)
      have x18 : X4 18 = X 18 := hX4 18 (by omega)
      have x19 : X4 19 = X 19 := hX4 19 (by omega)
      have x20 : X4 20 = X 20 := hX4 20 (by omega)
      have x21 : X4 21 = X 21 := hX4 21 (by omega)
      have x22 : X4 22 = X 22 := hX4 22 (by omega)
      have x23 : X4 23 = X 23 := hX4 23 (by omega)
      have x24 : X4 24 = X 24 := hX4 24 (by omega)
      have x25 : X4 25 = X 25 := hX4 25 (by omega)
      clear hT4 hk0 hown3 hJ3 h8 h9 hb9 hb0
      unfold toF
      simp only [x1, x2, x3, x4, x5, x6, x7, x13, x14, x15, x16, x17, x18, x19, x20, x21, x22, x23, x24, x25]
      clear hX4 x1 x2 x3 x4 x5 x6 x7 x13 x14 x15 x16 x17 x18 x19 x20 x21 x22 x23 x24 x25
      go_simp
      go_wp2_with fail
      go_roundg (gk - 1)
      case measure => omega
      case rel => exact ⟨k + 1, { r with ca := (k : Int), pa := p }, v4, by omega, by omega, by go_num, hr.out, by rw [hLn.out, ← List.append_assoc]; exact hJ4⟩
    ·have hLn : Hid (TL (k + 1) = TL k) := Lib.hid (by rw [hnx.out, hno (.inr (by simp at z2; omega)), List.append_nil])
     clear hno hye
     go_wp2_with fail
     go_roundg (gk - 1)
     case measure => omega
     case rel => exact ⟨k + 1, r, v', by omega, by omega, by go_num, hr.out, by rw [hLn.out]; exact hJr⟩
   ·have hLn : Hid (TL (k + 1) = TL k) := Lib.hid (by rw [hnx.out, hno (.inl (by simp at z1; omega)), List.append_nil])
    clear hno hye
    go_wp2_with fail
    go_roundg (gk - 1)
    case measure => omega
    case rel => exact ⟨k + 1, r, v', by omega, by omega, by go_num, hr.out, by rw [hLn.out]; exact hJr⟩
  ·obtain rfl : k = 16 := by omega
   go_wp2_with fail
   go_end0
   exact hok r v' wr hJr
theorem size8_neq (F R : Nat) (w : World) : (binOp .neq 23 (.agg #[.int .i64 F, .int .i64 R]) (.agg #[.int .i64 8, .int .i64 8])).run Tryz.prog w = .ok (.bool (!(((F : Int) == 8) && ((R : Int) == 8)))) w := by
 simp [go_sem]
 by_cases h1 : (F : Int) = 8 <;> by_cases h2 : (R : Int) = 8 <;> simp [h1, h2]
set_option maxRecDepth 100000 in
theorem try_any (F R : Nat) (xs : List Int) (bl : Bool) (can : Nat) (pa ha fu : Int) (pp : Option Addr) (cc occ : Nat) (hH : PosH F R xs can ha fu) (base qs : Nat) (v : Value) (L : List Ret) (hl : L.length ≤ 900000000) (m : Mv) (cp at_ : Int) (a b : Nat) (hra : m.fr = a) (hrb : m.tg = b) (hla : a < xs.length) (hlb : b < xs.length) (w : World) (hS : Sea base qs F R xs bl can pa ha fu pp cc occ v L w) :
  Calls Tryz.prog 90 #[.pointer (some ⟨qs, 0, none⟩), .agg m.cs.toArray, .int .i8 cp, .int .i64 at_] w fun e w' => e = .returned (.tuple #[]) ∧ ∃ v', Sea base qs F R xs bl can pa ha fu pp cc occ v' (L ++ tryL ⟨F, R, xs, bl, can, pa, ha, fu⟩ m cp at_) w' ∧ Nib qs w w' v v' := by
 obtain ⟨W1, hW1⟩ : ∃ W1, W1 = (w.alloc (.cells m.cs.toArray 40)).alloc (.cells (⟨m, cp, at_, 0, 0⟩ : Ret).cs.toArray 42) := ⟨_, rfl⟩
 have hB : RowKit.Below w.heap.size w W1 := by
  subst hW1
  exact (below_box w _).alloc (by simp) _
 have hM : HasO W1 w.heap.size (.cells m.cs.toArray 40 (0, 0)) := by
  subst hW1
  exact (HasO.new w _).alloc _
 have hR8 : HasO W1 (w.heap.size + 1) (.cells (⟨m, cp, at_, 0, 0⟩ : Ret).cs.toArray 42 (0, 0)) := by
  subst hW1
  exact HasO.new' _ _ (by simp)
 have hqs := hS.s.lt
 have hJ : TrJ base qs F R xs bl can pa ha fu pp cc occ v w (w.heap.size + 1) ⟨m, cp, at_, 0, 0⟩ v L W1 := ⟨hS.call hB, Nib.of_below qs hB v, fun e => by have := (hS.o.lt _ e).2; omega, hR8, by omega, Nat.le_trans hS.st.b (by omega), by omega⟩
 have hlo := fun W h => lost142_any m W h
 have hgn : goneW ⟨F, R, xs, bl, can, pa, ha, fu⟩ m = if F = 8 ∧ R = 8 then lostM m else 0 := rfl
 have hlt := goneW_lt ⟨F, R, xs, bl, can, pa, ha, fu⟩ m
 obtain ⟨gn, hg⟩ : ∃ gn, gn = goneW ⟨F, R, xs, bl, can, pa, ha, fu⟩ m := ⟨_, rfl⟩
 rw [← hg] at hgn hlt
 replace hg := Lib.hid hg
 generalize lostM m = LM at *
 replace hra := Lib.hid hra
 replace hrb := Lib.hid hrb
 replace hW1 := Lib.hid hW1
 replace hgn := Lib.hid hgn
 go_enter Tryz.func90, Tryz.ntmps90
 go_upto_region 2 with fail
 change Code.wp Tryz.prog _ _ _ ((w.alloc (.cells m.cs.toArray 40)).alloc (.cells (⟨m, cp, at_, 0, 0⟩ : Ret).cs.toArray 42))
 rw [← hW1.out]
 have c0 := hM.cells
 have l0 := hM.lt
 go_wp2_with fail
 refine (hlo W1 hJ.s.st.g).mono ?_
 rintro e W2 ⟨rfl, hb2⟩
 have hJ2 := hJ.call hb2
 clear hJ c0 l0 hM hR8 hlo hb2
 go_upto_region 3 with fail
 rename_i k0 hk0 k1 hk1
 have g0 := cell_regrown hJ2.s.st.g.2.2.2.1
 have g1 := cell_regrown hJ2.s.st.g.2.2.2.2
 have h8 := size8_neq F R
 obtain ⟨B8, hB8⟩ : ∃ B8, B8 = (!(((F : Int) == 8) && ((R : Int) == 8))) := ⟨_, rfl⟩
 rw [← hB8] at h8
 replace hB8 := Lib.hid hB8
 have p0 : ∀ d os j, (grow (redrawn W2 d) os).cell? ⟨qs, j, none⟩ = (#[.int .i64 F, .int .i64 R, .slice pp xs.length cc, .bool bl, .int .u8 can, .int .i64 pa, .int .i64 ha, .int .i64 fu, .int .u64 occ, v] : Array Value)[j]? := row_gr hJ2.s.s
 refine wp_region_all (by kernel_rfl) (by kernel_rfl) ?_
 repeat (go_big_quiet_step (fail))
 refine wpQuiet_nil ?_
 intro W3 hb3
 have hJ3 := hJ2.call hb3
 clear g0 g1 p0 hb3 h8 hJ2
 have hfin : ∀ T, tpT T qs (w.heap.size + 1) gn → ∀ cd, Tryz.f90.body.map (sufC 4) = some cd → cd.wp Tryz.prog (bodyPost Tryz.prog Tryz.f90 fun e w' => e = .returned (.tuple #[]) ∧ ∃ v', Sea base qs F R xs bl can pa ha fu pp cc occ v' (L ++ tryL ⟨F, R, xs, bl, can, pa, ha, fu⟩ m cp at_) w' ∧ Nib qs w w' v v') { tmps := T, defers := [] } W3 := fun T hT cd hcd =>
  tryOut F R xs bl can pa ha fu pp cc occ hH base qs (w.heap.size + 1) gn v w m cp at_ a b hra.out hrb.out hla hlb hg.out T hT v L hl W3 hJ3 _ (fun r v' w' h => ⟨rfl, v', h.s, h.n⟩) cd hcd
 cases B8
 ·have e : gn = LM := by
   have h1 := hB8.out
   have h2 := hgn.out
   simp at h1
   rw [if_pos (by omega)] at h2
   exact h2
  subst e
  replace hk0 := Lib.hid hk0
  go_wp2_with fail
  refine hk0.out _ _ ?_
  refine hfin _ ⟨rfl, rfl, rfl, rfl⟩ _ rfl
 ·have e : gn = 0 := by
   have h1 := hB8.out
   have h2 := hgn.out
   simp at h1
   rw [if_neg (by omega)] at h2
   exact h2
  subst e
  replace hk0 := Lib.hid hk0
  go_wp2_with fail
  refine hk0.out _ _ ?_
  refine hfin _ ⟨rfl, rfl, rfl, rfl⟩ _ rfl
end Go.Proofs.YtefmplccbkmalaaGreatDoor
