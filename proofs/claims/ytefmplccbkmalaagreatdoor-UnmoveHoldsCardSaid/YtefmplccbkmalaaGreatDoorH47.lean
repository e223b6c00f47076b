import Derived.Test.YtefmplccbkmalaaGreatDoorH21
import Derived.Test.YtefmplccbkmalaaGreatDoorH40
import Derived.Test.YtefmplccbkmalaaGreatDoorH46
set_option maxHeartbeats 12800000
namespace Go.Proofs.YtefmplccbkmalaaGreatDoor
open Go.RowKit Go.Sort Go.BigFrame

set_option maxRecDepth 100000 in
theorem small_any (f r : Int) (pp : Option Addr) (n cc : Nat) (bl : Bool) (ca pa ha fu : Int) (w : World) :
  Calls Tryz.prog 8 #[.agg (posCs f r pp n cc bl ca pa ha fu).toArray] w fun e w' => e = .returned (.bool (decide ((n : Int) ≤ 64))) ∧ RowKit.Below w.heap.size w w' := by
 have hB := below_box w (.cells (posCs f r pp n cc bl ca pa ha fu).toArray 26)
 have hA := HasO.new w (.cells (posCs f r pp n cc bl ca pa ha fu).toArray 26)
 have c0 := hA.cells
 have l0 := hA.lt
 go_enter Tryz.func8, Tryz.ntmps8
 go_wp2_with fail
 go_ret
 exact ⟨rfl, hB⟩
def bxR (n0 : Nat) (x : Ret) (w : World) : Bool → Bool → Value → Prop
 | _, true, u => ∃ q, u = .pointer (some ⟨q, 0, none⟩) ∧ n0 ≤ q ∧ HasO w q (.cells x.cs.toArray 42 (0, 0))
 | true, false, u => ∃ q, u = .pointer (some ⟨q, 0, none⟩) ∧ n0 ≤ q ∧ HasO w q (.cells zeroRet.cs.toArray 42 (0, 0))
 | false, false, _ => True
theorem bxR.call {n0 : Nat} {x : Ret} {w w' : World} {a b : Bool} {u : Value} (h : bxR n0 x w a b u) (hb : RowKit.Below w.heap.size w w') : bxR n0 x w' a b u := by
 rcases b with _ | _
 ·rcases a with _ | _
  ·trivial
  ·obtain ⟨q, e1, e2, e3⟩ := h; exact ⟨q, e1, e2, e3.call hb⟩
 ·obtain ⟨q, e1, e2, e3⟩ := h; exact ⟨q, e1, e2, e3.call hb⟩
theorem bxR.far {n0 : Nat} {x : Ret} {w : World} {a b : Bool} {u : Value} {q : Nat} (h : bxR n0 x w a b u) (cs : Array Value) (hq : a = true → u ≠ .pointer (some ⟨q, 0, none⟩)) (hab : b = true → a = true) : bxR n0 x (w.setRow q cs) a b u := by
 rcases b with _ | _
 ·rcases a with _ | _
  ·trivial
  ·obtain ⟨q', e1, e2, e3⟩ := h; exact ⟨q', e1, e2, e3.setRow_far (fun e => hq rfl (by rw [e1, e]))⟩
 ·obtain ⟨q', e1, e2, e3⟩ := h; exact ⟨q', e1, e2, e3.setRow_far (fun e => hq (hab rfl) (by rw [e1, e]))⟩
theorem bxR.made {n0 : Nat} {x : Ret} {w : World} {a b : Bool} {u : Value} (h : bxR n0 x w a b u) (hab : a = true ∨ b = true) : ∃ q, u = .pointer (some ⟨q, 0, none⟩) ∧ q < w.heap.size := by
 rcases b with _ | _
 ·rcases a with _ | _
  ·simp at hab
  ·obtain ⟨q', e1, e2, e3⟩ := h; exact ⟨q', e1, e3.lt⟩
 ·obtain ⟨q', e1, e2, e3⟩ := h; exact ⟨q', e1, e3.lt⟩
theorem al42 (W : World) : (Instr.alloc 42 true (.tuple #[])).run Tryz.prog W = .ok (.pointer (some ⟨W.heap.size, 0, none⟩)) (W.alloc (.cells zeroRet.cs.toArray 42)) := by kernel_rfl
theorem conv58 (n : Nat) (h : n < 65536) (W : World) : (convert 58 3 (.int .u16 n)).run Tryz.prog W = .ok (.int .i64 n) W := by
 have h1 : IntKind.i64.wrap ((n : Nat) : Int) = n := IntWalk.i64_in _ (by omega)
 simp [go_sem, h1]
theorem rem_nat (a n : Nat) (hn : 1 ≤ n) (W : World) : (binOp .rem 3 (.int .i64 (a : Nat)) (.int .i64 (n : Nat))).run Tryz.prog W = .ok (.int .i64 ((a % n : Nat) : Int)) W := by
 have h3 : (a : Int).tmod (n : Int) = ((a % n : Nat) : Int) := rfl
 have h4 : ¬ n = 0 := by omega
 simp only [go_sem, h3]
 simp [h4]
def pv7 (g n c one two k1 k2 : Nat) (x y : Ret) : Nat → Value
 | 0 => .slice (some ⟨g, 0, none⟩) n c | 1 => .int .u16 one | 2 => .int .i64 one | 3 => .slice (some ⟨g, 0, none⟩) n c | 4 => .int .i64 n | 5 => .int .i64 k1 | 6 => .pointer (some ⟨g, k1 * 7, none⟩) | 7 => .agg x.cs.toArray
 | 8 => .slice (some ⟨g, 0, none⟩) n c | 9 => .int .u16 two | 10 => .int .i64 two | 11 => .slice (some ⟨g, 0, none⟩) n c | 12 => .int .i64 n | 13 => .int .i64 k2 | 14 => .pointer (some ⟨g, k2 * 7, none⟩) | 15 => .agg y.cs.toArray | _ => undef
def R7 (W : World) (pv : Nat → Value) (x y : Ret) (S : Nat → Bool) (f : Nat → Value) (w : World) : Prop :=
 (∀ i, i < 16 → S i = true → f i = pv i) ∧ RowKit.Below W.heap.size W w ∧ bxR W.heap.size x w (S 16) (S 18) (f 16) ∧ bxR W.heap.size y w (S 17) (S 19) (f 17) ∧ (S 16 = true → S 17 = true → f 16 ≠ f 17)
set_option maxRecDepth 100000 in
theorem hold7r (W : World) (g n c one two k1 k2 : Nat) (x y : Ret) (hgl : g < W.heap.size) (hn1 : 1 ≤ n) (hone : one < 65536) (htwo : two < 65536) (k1e : k1 = one % n) (k2e : k2 = two % n) (hx : ∀ i v, x.cs[i]? = some v → W.cell? ⟨g, k1 * 7 + i, none⟩ = some v) (hy : ∀ i v, y.cs[i]? = some v → W.cell? ⟨g, k2 * 7 + i, none⟩ = some v)
  (A : Act) (Q : Exit → Act → World → Prop) (ha7 : A.tmps.getD 7 undef = .slice (some ⟨g, 0, none⟩) n c) (ha1 : A.tmps.getD 1 undef = .int .u16 one) (ha2 : A.tmps.getD 2 undef = .int .u16 two) (hsz : 140 ≤ A.tmps.size)
  (hok : ∀ f w' q1 q2, f 16 = .pointer (some ⟨q1, 0, none⟩) → f 17 = .pointer (some ⟨q2, 0, none⟩) → W.heap.size ≤ q1 → W.heap.size ≤ q2 → HasO w' q1 (.cells x.cs.toArray 42 (0, 0)) → HasO w' q2 (.cells y.cs.toArray 42 (0, 0)) → RowKit.Below W.heap.size W w' → Q .normal (putL [some 38, some 39, some 40, some 41, some 42, some 43, some 44, some 45, some 46, some 47, some 48, some 49, some 50, some 51, some 52, some 53, some 9, some 10, none, none] f 0 A) w')
  (cd : Code) (hcd : Tryz.f7.body.bind (regC 8) = some cd) : cd.wp Tryz.prog Q A W := by
 obtain rfl := Option.some.inj ((show Tryz.f7.body.bind (regC 8) = some _ from rfl).symm.trans hcd)
 clear hcd
 have k1l : k1 < n := by rw [k1e]; exact Nat.mod_lt _ hn1
 have k2l : k2 < n := by rw [k2e]; exact Nat.mod_lt _ hn1
 obtain ⟨pv, hpv⟩ : ∃ pv, pv = pv7 g n c one two k1 k2 x y := ⟨_, rfl⟩
 refine wp_region_relL (by kernel_rfl) (by kernel_rfl) [some 38, some 39, some 40, some 41, some 42, some 43, some 44, some 45, some 46, some 47, some 48, some 49, some 50, some 51, some 52, some 53, some 9, some 10, none, none] (by rfl) (by rfl) (R7 W (pv7 g n c one two k1 k2 x y) x y) ?hcong ?h0 ?hstep ?hend
 case hcong =>
  rintro S S' f wv hSS ⟨h1, h2, h3, h4, h5⟩
  refine ⟨fun i hi h => h1 i hi (by rw [hSS i (Nat.lt_of_lt_of_le hi (by decide))]; exact h), h2, ?_, ?_, ?_⟩
  ·rw [← hSS 16 (by decide), ← hSS 18 (by decide)]; exact h3
  ·rw [← hSS 17 (by decide), ← hSS 19 (by decide)]; exact h4
  ·rw [← hSS 16 (by decide), ← hSS 17 (by decide)]; exact h5
 case h0 => exact fun f => ⟨fun i _ h => (by cases h), (Below.refl _ _).drew, trivial, trivial, fun h => by cases h⟩
 case hstep =>
  rintro S i o f wv ho hi hSi hpre hcl ⟨hf, hB, hX, hY, hne⟩ K hK
  have hi : i < 20 := hi
  have keep : ∀ u w', i < 16 → u = pv7 g n c one two k1 k2 x y i → RowKit.Below wv.heap.size wv w' → R7 W (pv7 g n c one two k1 k2 x y) x y (upd S i) (fun j => if j = i then u else f j) w' := by
   intro u w' h9 hu hb
   refine ⟨fun j hj hSj => ?_, below_call hB hB.size hb, ?_, ?_, ?_⟩
   ·by_cases e : j = i
    ·subst e; simpa using hu
    ·simp only [e, if_false]; exact hf j hj (by simpa [upd, e] using hSj)
   ·simp only [upd, show ¬ 16 = i by omega, show ¬ 18 = i by omega, if_false]; exact hX.call hb
   ·simp only [upd, show ¬ 17 = i by omega, show ¬ 19 = i by omega, if_false]; exact hY.call hb
   ·simp only [upd, show ¬ 16 = i by omega, show ¬ 17 = i by omega, if_false]; exact hne
  have hv : ∀ j, o.after.toList.any (fun e => Region.binds .any e && (e.on == j)) = true → j < 16 → f j = pv7 g n c one two k1 k2 x y j := fun j hj h9 => by
   rw [List.any_eq_true] at hj
   obtain ⟨e, he, h⟩ := hj
   simp only [Bool.and_eq_true, beq_iff_eq] at h
   have := hpre e (by simpa using he) h.1
   rw [h.2] at this
   exact hf j h9 this
  have hR0 := Below.refl wv.heap.size wv
  rcases (by omega : i = 0 ∨ i = 1 ∨ i = 2 ∨ i = 3 ∨ i = 4 ∨ i = 5 ∨ i = 6 ∨ i = 7 ∨ i = 8 ∨ i = 9 ∨ i = 10 ∨ i = 11 ∨ i = 12 ∨ i = 13 ∨ i = 14 ∨ i = 15 ∨ i = 16 ∨ i = 17 ∨ i = 18 ∨ i = 19) with rfl | rfl | rfl | rfl | rfl | rfl | rfl | rfl | rfl | rfl | rfl | rfl | rfl | rfl | rfl | rfl | rfl | rfl | rfl | rfl
  ·exact st_move (og ho) (.tmp 7) (oo ho) (rd_out rfl ha7) (hK _ wv (keep _ _ (by decide) rfl hR0))
  ·exact st_move (og ho) (.tmp 1) (oo ho) (rd_out rfl ha1) (hK _ wv (keep _ _ (by decide) rfl hR0))
  ·exact st_convert (og ho) 58 3 (.tmp 39) (oo ho) (rd_in rfl 1 rfl (Nat.lt_of_lt_of_le (by decide) hsz) (hv 1 (ov ho) (by decide))) (conv58 one hone wv) (hK _ wv (keep _ _ (by decide) rfl hR0))
  ·exact st_move (og ho) (.tmp 7) (oo ho) (rd_out rfl ha7) (hK _ wv (keep _ _ (by decide) rfl hR0))
  ·exact st_len (og ho) (.tmp 41) 30 (oo ho) Tryz.underlying30 (rd_in rfl 3 rfl (Nat.lt_of_lt_of_le (by decide) hsz) (hv 3 (ov ho) (by decide))) (hK _ wv (keep _ _ (by decide) rfl hR0))
  ·exact st_bin (og ho) .rem 3 3 (.tmp 40) (.tmp 42) (oo ho) (rd_in rfl 2 rfl (Nat.lt_of_lt_of_le (by decide) hsz) (hv 2 (ov ho) (by decide))) (rd_in rfl 4 rfl (Nat.lt_of_lt_of_le (by decide) hsz) (hv 4 (ov ho) (by decide))) (gu_i _ _ _ _ _ _ _ _) (by rw [k1e]; exact rem_nat one n hn1 wv) (hK _ wv (keep _ _ (by decide) rfl hR0))
  ·exact st_index (og ho) 30 (.tmp 38) (.tmp 43) (oo ho) (rd_in rfl 0 rfl (Nat.lt_of_lt_of_le (by decide) hsz) (hv 0 (ov ho) (by decide))) (rd_in rfl 5 rfl (Nat.lt_of_lt_of_le (by decide) hsz) (hv 5 (ov ho) (by decide))) (index30 wv g n c k1 k1l) (hK _ wv (keep _ _ (by decide) rfl hR0))
  ·exact st_loadA (og ho) 42 (.tmp 44) (oo ho) (rd_in rfl 6 rfl (Nat.lt_of_lt_of_le (by decide) hsz) (hv 6 (ov ho) (by decide))) x.cs (by kernel_rfl) (fun i v hv => (hB.cell (p := ⟨g, k1 * 7 + i, none⟩) hgl).trans (hx i v hv)) (hK _ wv (keep _ _ (by decide) rfl hR0))
  ·exact st_move (og ho) (.tmp 7) (oo ho) (rd_out rfl ha7) (hK _ wv (keep _ _ (by decide) rfl hR0))
  ·exact st_move (og ho) (.tmp 2) (oo ho) (rd_out rfl ha2) (hK _ wv (keep _ _ (by decide) rfl hR0))
  ·exact st_convert (og ho) 58 3 (.tmp 47) (oo ho) (rd_in rfl 9 rfl (Nat.lt_of_lt_of_le (by decide) hsz) (hv 9 (ov ho) (by decide))) (conv58 two htwo wv) (hK _ wv (keep _ _ (by decide) rfl hR0))
  ·exact st_move (og ho) (.tmp 7) (oo ho) (rd_out rfl ha7) (hK _ wv (keep _ _ (by decide) rfl hR0))
  ·exact st_len (og ho) (.tmp 49) 30 (oo ho) Tryz.underlying30 (rd_in rfl 11 rfl (Nat.lt_of_lt_of_le (by decide) hsz) (hv 11 (ov ho) (by decide))) (hK _ wv (keep _ _ (by decide) rfl hR0))
  ·exact st_bin (og ho) .rem 3 3 (.tmp 48) (.tmp 50) (oo ho) (rd_in rfl 10 rfl (Nat.lt_of_lt_of_le (by decide) hsz) (hv 10 (ov ho) (by decide))) (rd_in rfl 12 rfl (Nat.lt_of_lt_of_le (by decide) hsz) (hv 12 (ov ho) (by decide))) (gu_i _ _ _ _ _ _ _ _) (by rw [k2e]; exact rem_nat two n hn1 wv) (hK _ wv (keep _ _ (by decide) rfl hR0))
  ·exact st_index (og ho) 30 (.tmp 46) (.tmp 51) (oo ho) (rd_in rfl 8 rfl (Nat.lt_of_lt_of_le (by decide) hsz) (hv 8 (ov ho) (by decide))) (rd_in rfl 13 rfl (Nat.lt_of_lt_of_le (by decide) hsz) (hv 13 (ov ho) (by decide))) (index30 wv g n c k2 k2l) (hK _ wv (keep _ _ (by decide) rfl hR0))
  ·exact st_loadA (og ho) 42 (.tmp 52) (oo ho) (rd_in rfl 14 rfl (Nat.lt_of_lt_of_le (by decide) hsz) (hv 14 (ov ho) (by decide))) y.cs (by kernel_rfl) (fun i v hv => (hB.cell (p := ⟨g, k2 * 7 + i, none⟩) hgl).trans (hy i v hv)) (hK _ wv (keep _ _ (by decide) rfl hR0))
  ·have hst : S 18 = false := by
    rcases hs : S 18 with _ | _
    ·rfl
    ·have h4 := hcl 18 _ hs rfl ⟨16, .data⟩ (by simp) rfl
     rw [hSi] at h4; cases h4
   have hlt := hY.made
   refine st_alloc (og ho) 42 (oo ho) (al42 wv) (hK _ _ ⟨fun j hj h3 => by show (if j = 16 then _ else f j) = _; rw [if_neg (by omega)]; exact hf j hj (by simpa [upd, show ¬ j = 16 by omega] using h3), hB.alloc hB.size _, ?_, ?_, ?_⟩)
   ·rw [show upd S 16 16 = true by simp [upd], show upd S 16 18 = false by simp [upd, hst]]
    exact ⟨_, rfl, hB.size, HasO.new wv (.cells zeroRet.cs.toArray 42)⟩
   ·rw [show upd S 16 17 = S 17 by simp [upd], show upd S 16 19 = S 19 by simp [upd]]
    exact hY.call (below_box wv _)
   ·intro _ h17
    have h17 : S 17 = true := by simpa [upd] using h17
    obtain ⟨q, e1, e2⟩ := hlt (.inl h17)
    show Value.pointer (some ⟨wv.heap.size, 0, none⟩) ≠ f 17
    rw [e1]
    simp <;> omega
  ·have hst : S 19 = false := by
    rcases hs : S 19 with _ | _
    ·rfl
    ·have h4 := hcl 19 _ hs rfl ⟨17, .data⟩ (by simp) rfl
     rw [hSi] at h4; cases h4
   have hlt := hX.made
   refine st_alloc (og ho) 42 (oo ho) (al42 wv) (hK _ _ ⟨fun j hj h3 => by show (if j = 17 then _ else f j) = _; rw [if_neg (by omega)]; exact hf j hj (by simpa [upd, show ¬ j = 17 by omega] using h3), hB.alloc hB.size _, ?_, ?_, ?_⟩)
   ·rw [show upd S 17 16 = S 16 by simp [upd], show upd S 17 18 = S 18 by simp [upd]]
    exact hX.call (below_box wv _)
   ·rw [show upd S 17 17 = true by simp [upd], show upd S 17 19 = false by simp [upd, hst]]
    exact ⟨_, rfl, hB.size, HasO.new wv (.cells zeroRet.cs.toArray 42)⟩
   ·intro h16 _
    have h16 : S 16 = true := by simpa [upd] using h16
    obtain ⟨q, e1, e2⟩ := hlt (.inl h16)
    show f 16 ≠ Value.pointer (some ⟨wv.heap.size, 0, none⟩)
    rw [e1]
    simp <;> omega
  ·have h16 : S 16 = true := hpre ⟨16, .data⟩ (oa ho) rfl
   have h17 : S 17 = true := hpre ⟨17, .phase⟩ (oa ho) rfl
   have h19 : S 19 = false := by
    rcases hs : S 19 with _ | _
    ·rfl
    ·have h4 := hcl 19 _ hs rfl ⟨18, .chain⟩ (by simp) rfl
     rw [hSi] at h4; cases h4
   have hX' := hX
   rw [h16, hSi] at hX'
   obtain ⟨q, e1, e2, e3⟩ := hX'
   have hne2 := hne h16 h17
   rw [e1] at hne2
   refine st_storeO (og ho) 42 (.tmp 9) (.tmp 45) (oo ho) (rd_in rfl 16 rfl (Nat.lt_of_lt_of_le (by decide) hsz) e1) x.cs.toArray zeroRet.cs.toArray 42 (rd_in rfl 7 rfl (Nat.lt_of_lt_of_le (by decide) hsz) (hv 7 (ov ho) (by decide))) e3 (by kernel_rfl) rfl (by simp [Value.oneCell']) (hK _ _ ⟨fun j hj h3 => by show (if j = 18 then _ else f j) = _; rw [if_neg (by omega)]; exact hf j hj (by simpa [upd, show ¬ j = 18 by omega] using h3), setRow_below hB e2 hB.size, ?_, ?_, ?_⟩)
   ·rw [show upd S 18 16 = true by simp [upd, h16], show upd S 18 18 = true by simp [upd]]
    exact ⟨q, e1, e2, setRow_hasO e3⟩
   ·rw [show upd S 18 17 = S 17 by simp [upd], show upd S 18 19 = S 19 by simp [upd]]
    exact hY.far _ (fun _ e => hne2 e.symm) (fun _ => h17)
   ·intro _ _
    show f 16 ≠ f 17
    rw [e1]; exact hne2
  ·have h16 : S 16 = true := hpre ⟨16, .phase⟩ (oa ho) rfl
   have h17 : S 17 = true := hpre ⟨17, .data⟩ (oa ho) rfl
   have hY' := hY
   rw [h17, hSi] at hY'
   obtain ⟨q, e1, e2, e3⟩ := hY'
   have hne2 := hne h16 h17
   rw [e1] at hne2
   refine st_storeO (og ho) 42 (.tmp 10) (.tmp 53) (oo ho) (rd_in rfl 17 rfl (Nat.lt_of_lt_of_le (by decide) hsz) e1) y.cs.toArray zeroRet.cs.toArray 42 (rd_in rfl 15 rfl (Nat.lt_of_lt_of_le (by decide) hsz) (hv 15 (ov ho) (by decide))) e3 (by kernel_rfl) rfl (by simp [Value.oneCell']) (hK _ _ ⟨fun j hj h3 => by show (if j = 19 then _ else f j) = _; rw [if_neg (by omega)]; exact hf j hj (by simpa [upd, show ¬ j = 19 by omega] using h3), setRow_below hB e2 hB.size, ?_, ?_, ?_⟩)
   ·rw [show upd S 19 16 = S 16 by simp [upd], show upd S 19 18 = S 18 by simp [upd]]
    exact hX.far _ (fun _ e => hne2 e) (fun _ => h16)
   ·rw [show upd S 19 17 = true by simp [upd, h17], show upd S 19 19 = true by simp [upd]]
    exact ⟨q, e1, e2, setRow_hasO e3⟩
   ·intro _ _
    show f 16 ≠ f 17
    rw [e1]; exact hne2
 case hend =>
  rintro S f wv hSS ⟨hf, hB, hX, hY, hne⟩
  rw [hSS 16 (by decide), hSS 18 (by decide)] at hX
  rw [hSS 17 (by decide), hSS 19 (by decide)] at hY
  obtain ⟨q1, h1, h2, h3⟩ := hX
  obtain ⟨q2, k1, k2, k3⟩ := hY
  exact hok f wv q1 q2 h1 k1 h2 k2 h3 k3 hB
end Go.Proofs.YtefmplccbkmalaaGreatDoor
