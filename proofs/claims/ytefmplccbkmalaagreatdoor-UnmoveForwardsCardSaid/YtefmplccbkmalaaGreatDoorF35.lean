import Derived.Test.YtefmplccbkmalaaGreatDoorF34
set_option maxHeartbeats 12800000
namespace Go.Proofs.YtefmplccbkmalaaGreatDoor
open Go.RowKit Go.Sort Go.BigFrame

def pv15 (qs : Nat) (v : Value) (r : Ret) : Nat → Value
 | 0 => .pointer (some ⟨qs, 0, none⟩) | 1 => .pointer (some ⟨qs, 0, none⟩) | 2 => .pointer (some ⟨qs, 0, none⟩) | 3 => .pointer (some ⟨qs, 9, none⟩) | 4 => v | 5 => .agg r.cs.toArray | 8 => .pointer (some ⟨qs, 0, none⟩) | 9 => .pointer (some ⟨qs, 9, none⟩) | _ => undef
def pw15 (base qs q8 : Nat) (v : Value) (r : Ret) (L : List Ret) (row : List Value) (W : World) : Bool → Bool → Bool → Value → Value → World → Prop
 | _, _, true, _, _, wv => ∃ v', wv.ownsRow base 42 7 v' (L ++ [r]).length ((L ++ [r]).flatMap Ret.cs) ∧ HasO wv qs (.cells (row.set 9 v').toArray 71 (0, 0)) ∧ Nib qs W wv v v' ∧ HasO wv q8 (.cells r.cs.toArray 42 (0, 0))
 | _, true, false, _, u7, wv => wv.ownsRow base 42 7 u7 (L ++ [r]).length ((L ++ [r]).flatMap Ret.cs) ∧ HasO wv qs (.cells row.toArray 71 (0, 0)) ∧ Nib qs W wv v u7 ∧ HasO wv q8 (.cells r.cs.toArray 42 (0, 0))
 | true, false, false, u6, _, wv => u6 = .slice (some ⟨W.heap.size, 0, none⟩) 1 1 ∧ wv = W.drew.alloc (.cells r.cs.toArray 42)
 | false, false, false, _, _, wv => wv = W.drew
theorem own_slice {w : World} {base : Nat} {e : TypeId} {size n : Nat} {v : Value} {xs : List Value} (h : w.ownsRow base e size v n xs) : ∃ p n c, v = .slice p n c := by
 rcases h.2 with ⟨rfl, _⟩ | ⟨g, cap, cur, rfl, _⟩
 iterate 2 exact ⟨_, _, _, rfl⟩
theorem pw15_has {base qs q8 : Nat} {v : Value} {r : Ret} {L : List Ret} {row : List Value} {W wv : World} {s6 s7 : Bool} {u6 u7 : Value} (h : pw15 base qs q8 v r L row W s6 s7 false u6 u7 wv) (hS : HasO W qs (.cells row.toArray 71 (0, 0))) : HasO wv qs (.cells row.toArray 71 (0, 0)) := by
 rcases s7 with _ | _
 ·rcases s6 with _ | _
  ·obtain rfl : wv = W.drew := h
   exact hS.drew
  ·obtain ⟨_, rfl⟩ : _ ∧ wv = W.drew.alloc _ := h
   exact hS.drew.alloc _
 ·exact h.2.1
theorem pw15_8 {base qs q8 : Nat} {v : Value} {r : Ret} {L : List Ret} {row : List Value} {W wv : World} {s6 s7 : Bool} {u6 u7 : Value} (h : pw15 base qs q8 v r L row W s6 s7 false u6 u7 wv) (hS : HasO W q8 (.cells r.cs.toArray 42 (0, 0))) : HasO wv q8 (.cells r.cs.toArray 42 (0, 0)) := by
 rcases s7 with _ | _
 ·rcases s6 with _ | _
  ·obtain rfl : wv = W.drew := h
   exact hS.drew
  ·obtain ⟨_, rfl⟩ : _ ∧ wv = W.drew.alloc _ := h
   exact hS.drew.alloc _
 ·exact h.2.2.2
theorem mkRt (r : Ret) (W : World) : (Instr.buildSlice 30 1 #[(0, .agg r.cs.toArray)]).run Tryz.prog W = .ok (.slice (some ⟨W.heap.size, 0, none⟩) 1 1) (W.alloc (.cells r.cs.toArray 42)) := by kernel_rfl
section
variable {P : Program} {o : Oper} {a : Act} {w : World} {K : Act → World → Prop} {Q : Exit → Act → World → Prop}
theorem st_nil {t : Nat → Option Bool} {X : Prop} (hg : o.guard = none) (x : Operand) (ho : o.op = .nilCheck x) {p : Addr} (hx : a.eval x = .pointer (some p)) (h : K (a.put o.dst (.pointer (some p))) w) : if Region.wanted o t = true then o.wp P a w K Q else X := by
 refine st_wp hg ?_
 unfold Oper.wp execOp
 simp only [ho, hx, Sem.run_pure]
 exact h
end
set_option maxRecDepth 100000 in
theorem try15 (base qs q8 : Nat) (v : Value) (r : Ret) (L : List Ret) (row : List Value) (W : World) (a : Act) (Q : Exit → Act → World → Prop)
  (ha0 : a.tmps.getD 0 undef = .pointer (some ⟨qs, 0, none⟩)) (ha8 : a.tmps.getD 8 undef = .pointer (some ⟨q8, 0, none⟩)) (hr9 : row[9]? = some v) (hS : HasO W qs (.cells row.toArray 71 (0, 0))) (h8 : HasO W q8 (.cells r.cs.toArray 42 (0, 0)))
  (hown : W.ownsRow base 42 7 v L.length (L.flatMap Ret.cs)) (hv8 : v.ownBlock ≠ some q8) (hqq : q8 ≠ qs) (hsz : 88 ≤ a.tmps.size) (hl : L.length + 1 ≤ 1000000000) (hb : base ≤ W.heap.size)
  (hok : ∀ f w' v', w'.ownsRow base 42 7 v' (L ++ [r]).length ((L ++ [r]).flatMap Ret.cs) → HasO w' qs (.cells (row.set 9 v').toArray 71 (0, 0)) → Nib qs W w' v v' → HasO w' q8 (.cells r.cs.toArray 42 (0, 0)) →
   Q .normal (putL [some 76, some 77, some 78, some 79, some 80, some 81, some 82, some 83, some 84, some 85, none] f 0 a) w')
  (cd : Code) (hcd : Tryz.f90.body.bind (regC 15) = some cd) : cd.wp Tryz.prog Q a W := by
 obtain rfl := Option.some.inj ((show Tryz.f90.body.bind (regC 15) = some _ from rfl).symm.trans hcd)
 clear hcd
 refine wp_region_relL (by kernel_rfl) (by kernel_rfl) [some 76, some 77, some 78, some 79, some 80, some 81, some 82, some 83, some 84, some 85, none] (by rfl) (by rfl)
  (fun S f wv => (∀ i, i < 10 → i ≠ 6 → i ≠ 7 → S i = true → f i = pv15 qs v r i) ∧ pw15 base qs q8 v r L row W (S 6) (S 7) (S 10) (f 6) (f 7) wv) ?hcong ?h0 ?hstep ?hend
 case hcong =>
  rintro S S' f wv hSS ⟨h1, h2⟩
  refine ⟨fun i hi h15 h16 h => h1 i hi h15 h16 (by rw [hSS i (Nat.lt_of_lt_of_le hi (by decide))]; exact h), ?_⟩
  rw [← hSS 6 (by decide), ← hSS 7 (by decide), ← hSS 10 (by decide)]; exact h2
 case h0 => exact fun f => ⟨fun i _ _ _ h => (by cases h), rfl⟩
 case hstep =>
  rintro S i o f wv ho hi hSi hpre hcl ⟨hf, hR⟩ K hK
  have hi : i < 11 := hi
  have keep : ∀ u, i ≠ 6 → i ≠ 7 → i < 10 → u = pv15 qs v r i → (∀ j, j < 10 → j ≠ 6 → j ≠ 7 → upd S i j = true → (if j = i then u else f j) = pv15 qs v r j) ∧ pw15 base qs q8 v r L row W (upd S i 6) (upd S i 7) (upd S i 10) (if 6 = i then u else f 6) (if 7 = i then u else f 7) wv := by
   intro u h15 h16 h19 hu
   refine ⟨fun j hj hj15 hj16 hSj => ?_, ?_⟩
   ·by_cases e : j = i
    ·subst e; simpa using hu
    ·simp only [e, if_false]; exact hf j hj hj15 hj16 (by simpa [upd, e] using hSj)
   ·simp only [upd, show ¬ 6 = i from fun h => h15 h.symm, show ¬ 7 = i from fun h => h16 h.symm, show ¬ 10 = i by omega, if_false]; exact hR
  have hv : ∀ e ∈ o.after, Region.binds .any e = true → e.on ≠ 6 → e.on ≠ 7 → e.on < 10 → f e.on = pv15 qs v r e.on := fun e he hb h1 h2 h3 => hf _ h3 h1 h2 (hpre e he hb)
  have h10 : i < 8 → S 10 = false := by
   intro h
   rcases hs : S 10 with _ | _
   ·rfl
   ·have h4 := hcl 10 _ hs rfl ⟨i, .phase⟩ (by
     rcases (by omega : i = 0 ∨ i = 1 ∨ i = 2 ∨ i = 3 ∨ i = 4 ∨ i = 5 ∨ i = 6 ∨ i = 7) with rfl | rfl | rfl | rfl | rfl | rfl | rfl | rfl <;> simp) rfl
    rw [hSi] at h4; cases h4
  have hpv : ∀ j, o.after.toList.any (fun e => Region.binds .any e && (e.on == j)) = true → j ≠ 6 → j ≠ 7 → j < 10 → f j = pv15 qs v r j := fun j hj h1 h2 h3 => by
   rw [List.any_eq_true] at hj
   obtain ⟨e, he, h⟩ := hj
   simp only [Bool.and_eq_true, beq_iff_eq] at h
   have := hv e (by simpa using he) h.1 (by omega) (by omega) (by omega)
   rwa [h.2] at this
  rcases (by omega : i = 0 ∨ i = 1 ∨ i = 2 ∨ i = 3 ∨ i = 4 ∨ i = 5 ∨ i = 6 ∨ i = 7 ∨ i = 8 ∨ i = 9 ∨ i = 10) with rfl | rfl | rfl | rfl | rfl | rfl | rfl | rfl | rfl | rfl | rfl
  iterate 2 exact st_move (og ho) (.tmp 0) (oo ho) (rd_out rfl ha0) (hK _ wv (keep _ (by decide) (by decide) (by decide) rfl))
  ·exact st_nil (og ho) (.tmp 77) (oo ho) (rd_in rfl 1 rfl (Nat.lt_of_lt_of_le (by decide) hsz) (hpv 1 (ov ho) (by decide) (by decide) (by decide))) (hK _ wv (keep _ (by decide) (by decide) (by decide) rfl))
  ·exact st_field (og ho) 71 (.tmp 78) 2 (oo ho) (rd_in rfl 2 rfl (Nat.lt_of_lt_of_le (by decide) hsz) (hpv 2 (ov ho) (by decide) (by decide) (by decide))) (n := 9) (by kernel_rfl) (hK _ wv (keep _ (by decide) (by decide) (by decide) rfl))
  ·have h19' := h10 (by omega)
   have hR2 := hR
   rw [h19'] at hR2
   have c9 := (pw15_has hR2 hS).cells 9
   have c9' : wv.cell? ⟨qs, 9, none⟩ = some v := by rw [c9]; simpa using hr9
   exact st_loadS (og ho) 30 (.tmp 79) (oo ho) (rd_in rfl 3 rfl (Nat.lt_of_lt_of_le (by decide) hsz) (hpv 3 (ov ho) (by decide) (by decide) (by decide))) (by kernel_rfl) c9' (hK _ wv (keep _ (by decide) (by decide) (by decide) rfl))
  ·have h19' := h10 (by omega)
   have hR2 := hR
   rw [h19'] at hR2
   have c8 := pw15_8 hR2 h8
   exact st_loadA (og ho) 42 (.tmp 8) (oo ho) (rd_out rfl ha8) r.cs (by kernel_rfl) (fun j u hu => by rw [Nat.zero_add, c8.cells j]; simpa using hu) (hK _ wv (keep _ (by decide) (by decide) (by decide) rfl))
  ·have h19' := h10 (by omega)
   have h7 : S 7 = false := by
    rcases hs : S 7 with _ | _
    ·rfl
    ·have h4 := hcl 7 _ hs rfl ⟨6, .data⟩ (by simp) rfl
     rw [hSi] at h4; cases h4
   rw [hSi, h7, h19'] at hR
   obtain rfl : wv = W.drew := hR
   refine st_buildSlice1 (og ho) 30 (.tmp 81) (oo ho) (rd_in rfl 5 rfl (Nat.lt_of_lt_of_le (by decide) hsz) (hpv 5 (ov ho) (by decide) (by decide) (by decide))) (mkRt r W.drew) (hK _ _ ⟨fun j hj h1 h2 h3 => by show (if j = 6 then _ else f j) = _; rw [if_neg h1]; exact hf j hj h1 h2 (by simpa [upd, h1] using h3), ?_⟩)
   rw [show upd S 6 6 = true by simp [upd], show upd S 6 7 = false by simp [upd, h7], show upd S 6 10 = false by simp [upd, h19']]
   exact ⟨rfl, rfl⟩
  ·have h19' := h10 (by omega)
   have h6 : S 6 = true := hpre ⟨6, .data⟩ (oa ho) rfl
   have h4 := hpv 4 (ov ho) (by decide) (by decide) (by decide)
   rw [h6, hSi, h19'] at hR
   obtain ⟨hu6, rfl⟩ : f 6 = .slice (some ⟨W.heap.size, 0, none⟩) 1 1 ∧ wv = W.drew.alloc (.cells r.cs.toArray 42) := hR
   have hN0 : Nib qs W (W.drew.alloc (.cells r.cs.toArray 42)) v v := Nib.of_below qs (by have := below_box W.drew (.cells r.cs.toArray 42); exact ⟨this.os, this.tape, this.output, this.size, this.block⟩) v
   have hS0 := hS.drew.alloc (.cells r.cs.toArray 42)
   have h80 := h8.drew.alloc (.cells r.cs.toArray 42)
   have hown0 := hown.drew.alloc (.cells r.cs.toArray 42)
   have hne := own_ne hown0 hS0 (by simp)
   refine st_wp (og ho) ?_
   refine wp_pushR (.tmp 80) (.tmp 82) (oo ho) base v L (rd_in rfl 4 rfl (Nat.lt_of_lt_of_le (by decide) hsz) h4) hown0 r W.heap.size (by simp) (HasO.new W.drew (.cells r.cs.toArray 42)) (rd_in rfl 6 rfl (Nat.lt_of_lt_of_le (by decide) hsz) hu6) (by omega) (by simp; omega) ?_
   intro v' w' h1 h2 h3
   refine hK v' w' ⟨fun j hj e1 e2 e3 => by show (if j = 7 then _ else f j) = _; rw [if_neg e2]; exact hf j hj e1 e2 (by simpa [upd, e2] using e3), ?_⟩
   rw [show upd S 7 6 = true by simp [upd, h6], show upd S 7 7 = true by simp [upd], show upd S 7 10 = false by simp [upd, h19']]
   exact ⟨h1, hS0.grown h2 hne, hN0.trans ⟨h2.os, h2.tape, h2.output, h2.size, fun k hk _ e => h2.block k hk e, h3⟩, h80.grown h2 hv8⟩
  ·exact st_nil (og ho) (.tmp 76) (oo ho) (rd_in rfl 0 rfl (Nat.lt_of_lt_of_le (by decide) hsz) (hpv 0 (ov ho) (by decide) (by decide) (by decide))) (hK _ wv (keep _ (by decide) (by decide) (by decide) rfl))
  ·exact st_field (og ho) 71 (.tmp 84) 2 (oo ho) (rd_in rfl 8 rfl (Nat.lt_of_lt_of_le (by decide) hsz) (hpv 8 (ov ho) (by decide) (by decide) (by decide))) (n := 9) (by kernel_rfl) (hK _ wv (keep _ (by decide) (by decide) (by decide) rfl))
  ·have h7 : S 7 = true := hpre ⟨7, .data⟩ (oa ho) rfl
   rw [h7, hSi] at hR
   have hR2 : wv.ownsRow base 42 7 (f 7) (L ++ [r]).length ((L ++ [r]).flatMap Ret.cs) ∧ HasO wv qs (.cells row.toArray 71 (0, 0)) ∧ Nib qs W wv v (f 7) ∧ HasO wv q8 (.cells r.cs.toArray 42 (0, 0)) := by
    rcases S 6 with _ | _ <;> exact hR
   obtain ⟨e1, e2, e3, e4⟩ := hR2
   have hne := own_ne e1 e2 (by simp)
   obtain ⟨up, un, uc, hu⟩ := own_slice e1
   refine st_storeS (og ho) 30 (.tmp 85) (.tmp 83) (oo ho) (rd_in rfl 9 rfl (Nat.lt_of_lt_of_le (by decide) hsz) (hpv 9 (ov ho) (by decide) (by decide) (by decide))) (rd_in rfl 7 rfl (Nat.lt_of_lt_of_le (by decide) hsz) rfl) (by kernel_rfl) (by rw [hu]; rfl) (by rw [e2.cells 9]; simpa using hr9) (e2.frozen 9) (hK _ _ ⟨fun j hj h1 h2 h3 => by show (if j = 10 then _ else f j) = _; rw [if_neg (by omega)]; exact hf j hj h1 h2 (by simpa [upd, show ¬ j = 10 by omega] using h3), ?_⟩)
   have hfin : ∃ v', (wv.setCell ⟨qs, 9, none⟩ (f 7)).ownsRow base 42 7 v' (L ++ [r]).length ((L ++ [r]).flatMap Ret.cs) ∧ HasO (wv.setCell ⟨qs, 9, none⟩ (f 7)) qs (.cells (row.set 9 v').toArray 71 (0, 0)) ∧ Nib qs W (wv.setCell ⟨qs, 9, none⟩ (f 7)) v v' ∧ HasO (wv.setCell ⟨qs, 9, none⟩ (f 7)) q8 (.cells r.cs.toArray 42 (0, 0)) := by
    refine ⟨f 7, ?_, ?_, e3.set 9 _, e4.far hqq _⟩
    ·refine e1.kept (row := some qs) ⟨rfl, rfl, rfl, by simp [World.setCell], fun k hk hkq => ?_⟩ (.inr hne)
     rw [Below.heap_setCell _ _ _ _ (fun e => hkq (by rw [e]))]
    ·have := e2.set_ 9 (f 7)
     rw [List.setIfInBounds_toArray] at this
     exact this
   rw [show upd S 10 10 = true by simp [upd]]
   rcases upd S 10 6 with _ | _ <;> rcases upd S 10 7 with _ | _ <;> exact hfin
 case hend =>
  rintro S f wv hSS ⟨hf, hR⟩
  rw [hSS 10 (by decide)] at hR
  have hR2 : ∃ v', wv.ownsRow base 42 7 v' (L ++ [r]).length ((L ++ [r]).flatMap Ret.cs) ∧ HasO wv qs (.cells (row.set 9 v').toArray 71 (0, 0)) ∧ Nib qs W wv v v' ∧ HasO wv q8 (.cells r.cs.toArray 42 (0, 0)) := by
   rcases S 6 with _ | _ <;> rcases S 7 with _ | _ <;> exact hR
  obtain ⟨v', h1, h2, h3, h4⟩ := hR2
  exact hok f wv v' h1 h2 h3 h4
theorem own_sl {w : World} {base : Nat} {e : TypeId} {size n : Nat} {v : Value} {xs : List Value} (h : w.ownsRow base e size v n xs) : ∃ p c, v = .slice p n c := by
 rcases h.2 with ⟨rfl, h0⟩ | ⟨g, cap, cur, rfl, _⟩
 ·subst h0
  exact ⟨_, _, rfl⟩
 ·exact ⟨_, _, rfl⟩
theorem ite_len3 (c : Prop) [Decidable c] {a b : List Int} {n : Nat} (ha : a.length = n) (hb : b.length = n) : (if c then a else b).length = n := by
 split
 ·exact ha
 ·exact hb
theorem befW_len (P : Pos) (r : Ret) : (befW P r).xs.length = P.xs.length := by
 have h : ∀ (l : List Cas) (f : List Int → Cas → List Int) (hf : ∀ x c, (f x c).length = x.length) (xs : List Int), (l.foldl f xs).length = xs.length := by
  intro l f hf
  induction l with
  | nil => intro xs; rfl
  | cons c l ih => intro xs; rw [List.foldl_cons, ih, hf]
 unfold befW
 simp only
 rw [ite_len, h]
 ·simp
 ·exact fun x c => ite_len3 _ (by simp) rfl
section
variable {P : Program} {o : Oper} {a : Act} {w : World} {K : Act → World → Prop} {Q : Exit → Act → World → Prop}
theorem st_ext {t : Nat → Option Bool} {X : Prop} (hg : o.guard = none) (x : Operand) (i : Nat) (ho : o.op = .extract x i) {cs : Array Value} {v : Value} (hx : a.eval x = .tuple cs) (hi : cs[i]? = some v) (h : K (a.put o.dst v) w) : if Region.wanted o t = true then o.wp P a w K Q else X := by
 refine st_wp hg ?_
 unfold Oper.wp execOp
 simp only [ho, hx, Instr.extract, hi, Sem.run_bind, Sem.run_pure, Result.andThen_ok]
 exact h
end
theorem al26 (W : World) : (Instr.alloc 26 true (.tuple #[])).run Tryz.prog W = .ok (.pointer (some ⟨W.heap.size, 0, none⟩)) (W.alloc (.cells zeroPos.toArray 26)) := by kernel_rfl
section
variable {F R : Nat} {xs : List Int} {bl : Bool} {can : Nat} {pa ha fu : Int} {pp : Option Addr} {cc occ : Nat} {v : Value} {r : Ret} {qs q8 : Nat}
def cl10 (P : Pos) (pp : Option Addr) (cc : Nat) (r : Ret) (qs n0 : Nat) : Nat → Value → World → Prop
 | 4, v, _ => v = .agg (posCs P.F P.R pp P.xs.length cc P.bl P.ca P.pa P.ha P.fu).toArray
 | 5, v, _ => v = .agg r.cs.toArray
 | 6, v, w => ∃ q cap, v = .agg (posCs (befW P r).F (befW P r).R (some ⟨q, 0, none⟩) (befW P r).xs.length cap (befW P r).bl (befW P r).ca (befW P r).pa (befW P r).ha (befW P r).fu).toArray ∧ OArr w q cap (befW P r).xs
 | 7, v, w => w.ownsRow n0 3 1 v (behL (befW P r).F (befW P r).R (befW P r).xs (befW P r).bl (befW P r).ha).length ((behL (befW P r).F (befW P r).R (befW P r).xs (befW P r).bl (befW P r).ha).map (.int .i64))
 | 8, v, _ => v = .int .i64 (behL (befW P r).F (befW P r).R (befW P r).xs (befW P r).bl (befW P r).ha).length
 | 9, v, _ => v = .int .i64 0
 | _, v, _ => v = .pointer (some ⟨qs, 0, none⟩)
theorem cl10_stab {P : Pos} {n0 i : Nat} {v : Value} {w w' : World} (hb : RowKit.Below w.heap.size w w') (h : cl10 P pp cc r qs n0 i v w) : cl10 P pp cc r qs n0 i v w' := by
 rcases (by omega : i = 4 ∨ i = 5 ∨ i = 6 ∨ i = 7 ∨ i = 8 ∨ i = 9 ∨ (i ≠ 4 ∧ i ≠ 5 ∧ i ≠ 6 ∧ i ≠ 7 ∧ i ≠ 8 ∧ i ≠ 9)) with rfl | rfl | rfl | rfl | rfl | rfl | ⟨h4, h5, h6, h7, h8, h9⟩
 iterate 2 exact h
 ·obtain ⟨q, cap, h1, h2⟩ := h
  exact ⟨q, cap, h1, h2.call hb⟩
 ·exact own_call h hb
 iterate 2 exact h
 ·unfold cl10 at h ⊢
  split at h <;> first | contradiction | skip
  all_goals first | exact h | (split <;> first | contradiction | exact h)
set_option maxRecDepth 100000 in
theorem try10 (a b : Nat) (hra : r.mv.fr = a) (hrb : r.mv.tg = b) (hla : a < xs.length) (hlb : b < xs.length) (hF : 3 ≤ F ∧ F ≤ 8) (hR : 3 ≤ R ∧ R ≤ 8) (hlen : xs.length = F * R) (h6 : ∀ x ∈ xs, -6 ≤ x ∧ x ≤ 6) (hha : 0 ≤ ha ∧ ha ≤ 10000) (hfu : -10000 ≤ fu ∧ fu ≤ 10000)
  (W : World) (hg : GlobU W) (hx : Arr .i8 W pp xs) (hS : HasO W qs (.cells (srCs F R pp xs.length cc bl can pa ha fu occ v).toArray 71 (0, 0))) (h8 : HasO W q8 (.cells r.cs.toArray 42 (0, 0))) (A : Act) (Q : Exit → Act → World → Prop)
  (ha0 : A.tmps.getD 0 undef = .pointer (some ⟨qs, 0, none⟩)) (ha8 : A.tmps.getD 8 undef = .pointer (some ⟨q8, 0, none⟩)) (hsz : 88 ≤ A.tmps.size)
  (hok : ∀ f w' BL, BL = behL F R (befW ⟨F, R, xs, bl, can, pa, ha, fu⟩ r).xs (!bl) (befW ⟨F, R, xs, bl, can, pa, ha, fu⟩ r).ha → RowKit.Below W.heap.size W w' → w'.ownsRow W.heap.size 3 1 (f 7) BL.length (BL.map (.int .i64)) → f 8 = .int .i64 BL.length → f 9 = .int .i64 0 →
   Q .normal (putL [some 52, some 53, some 54, some 55, some 56, some 57, some 58, some 59, some 60, some 61] f 0 A) w')
  (cd : Code) (hcd : Tryz.f90.body.bind (regC 10) = some cd) : cd.wp Tryz.prog Q A W := by
 obtain rfl := Option.some.inj ((show Tryz.f90.body.bind (regC 10) = some _ from rfl).symm.trans hcd)
 clear hcd
 have h9 : F * R ≤ 64 := Nat.mul_le_mul hF.2 hR.2
 have hl64 : xs.length ≤ 64 := by omega
 obtain ⟨P, hP⟩ : ∃ P : Pos, P = ⟨F, R, xs, bl, can, pa, ha, fu⟩ := ⟨_, rfl⟩
 have hbf : (befW P r).F = F ∧ (befW P r).R = R ∧ (befW P r).bl = !bl ∧ (befW P r).xs.length = F * R := ⟨by rw [hP]; rfl, by rw [hP]; rfl, by rw [hP]; rfl, by rw [befW_len, hP]; exact hlen⟩
 refine wp_region_agL (by kernel_rfl) (by kernel_rfl) [some 52, some 53, some 54, some 55, some 56, some 57, some 58, some 59, some 60, some 61] (by rfl) (by rfl) (fun w => RowKit.Below W.heap.size W w) (fun w w' => RowKit.Below w.heap.size w w') (cl10 P pp cc r qs W.heap.size)
  (fun i v w w' _ h h2 => cl10_stab h h2) (Below.refl _ _).drew ?_ ?_
 ·intro i o f w ho hi hC hf K hK
  have hi : i < 10 := hi
  replace hK : ∀ u w', RowKit.Below w.heap.size w w' → cl10 P pp cc r qs W.heap.size i u w' → K ((putL _ f 0 A).put o.dst u) w' := fun u w' h1 h2 => hK u w' (below_call hC hC.size h1) h1 h2
  have hv : ∀ j, o.after.toList.any (fun e => Region.binds .any e && (e.on == j)) = true → cl10 P pp cc r qs W.heap.size j (f j) w := fun j hj => by
   rw [List.any_eq_true] at hj
   obtain ⟨e, he, h⟩ := hj
   simp only [Bool.and_eq_true, beq_iff_eq] at h
   have := hf e (by simpa using he) h.1
   rwa [h.2] at this
  have hR0 := Below.refl w.heap.size w
  rcases (by omega : i = 0 ∨ i = 1 ∨ i = 2 ∨ i = 3 ∨ i = 4 ∨ i = 5 ∨ i = 6 ∨ i = 7 ∨ i = 8 ∨ i = 9) with rfl | rfl | rfl | rfl | rfl | rfl | rfl | rfl | rfl | rfl
  iterate 2 exact st_move (og ho) (.tmp 0) (oo ho) (rd_out rfl ha0) (hK _ w hR0 rfl)
  ·exact st_nil (og ho) (.tmp 53) (oo ho) (rd_in rfl 1 rfl (Nat.lt_of_lt_of_le (by decide) hsz) (hv 1 (ov ho))) (hK _ w hR0 rfl)
  ·exact st_field (og ho) 71 (.tmp 54) 0 (oo ho) (rd_in rfl 2 rfl (Nat.lt_of_lt_of_le (by decide) hsz) (hv 2 (ov ho))) (n := 0) (by kernel_rfl) (hK _ w hR0 rfl)
  ·have hSw := (hS.call hC).cells
   exact st_loadA (og ho) 26 (.tmp 55) (oo ho) (rd_in rfl 3 rfl (Nat.lt_of_lt_of_le (by decide) hsz) (hv 3 (ov ho))) (posCs F R pp xs.length cc bl can pa ha fu) (by kernel_rfl) (fun j u hu => by
    rw [Nat.zero_add, hSw j, List.getElem?_toArray]
    unfold srCs
    rw [List.getElem?_append_left (List.getElem?_eq_some_iff.1 hu).1]
    exact hu) (hK _ w hR0 (by subst hP; rfl))
  ·have h8w := (h8.call hC).cells
   exact st_loadA (og ho) 42 (.tmp 8) (oo ho) (rd_out rfl ha8) r.cs (by kernel_rfl) (fun j u hu => by rw [Nat.zero_add, h8w j]; simpa using hu) (hK _ w hR0 rfl)
  ·have h4 := hv 4 (ov ho)
   have h5 := hv 5 (ov ho)
   have h4' : f 4 = .agg (posCs F R pp xs.length cc bl can pa ha fu).toArray := by subst hP; exact h4
   exact st_call2 (og ho) 110 (.tmp 56) (.tmp 57) #[26, 42] (oo ho) (rd_in rfl 4 rfl (Nat.lt_of_lt_of_le (by decide) hsz) h4') (rd_in rfl 5 rfl (Nat.lt_of_lt_of_le (by decide) hsz) h5) (fun _ _ => rfl)
    (before_any F R xs bl can pa ha fu r pp cc a b hra hrb hla hlb hl64 h6 (fun e1 e2 => by subst e1 e2; omega) hha hfu w (hg.call hC) (hx.call hC))
    (by rintro u w9 ⟨q, cap, h9, hb9, _, hy⟩; injection h9 with h9; subst h9; subst hP; exact hK _ w9 hb9 ⟨q, cap, rfl, hy⟩) (by rintro ch w9 ⟨q, cap, h9, _⟩; cases h9) (by rintro w9 ⟨q, cap, h9, _⟩; cases h9)
  ·have h0 := hv 0 (ov ho)
   obtain ⟨q, cap, h6v, hy⟩ := hv 6 (ov ho)
   obtain ⟨e1, e2, e3, e4⟩ := hbf
   have hbh := behind_any F R (befW P r).xs (!bl) (befW P r).ca (befW P r).pa (befW P r).ha (befW P r).fu (.pointer (some ⟨qs, 0, none⟩)) (some ⟨q, 0, none⟩) cap hF hR e4 w hy.arr
   refine st_call2 (og ho) 143 (.tmp 52) (.tmp 58) #[69, 26] (oo ho) (rd_in rfl 0 rfl (Nat.lt_of_lt_of_le (by decide) hsz) h0) (rd_in rfl 6 rfl (Nat.lt_of_lt_of_le (by decide) hsz) (h6v.trans (by rw [e1, e2, e3]))) (fun _ _ => rfl)
    hbh (by
     rintro u w9 ⟨⟨v9, h9, ho9⟩, hb9⟩
     injection h9 with h9; subst h9
     refine hK _ w9 hb9 ?_
     show w9.ownsRow _ 3 1 _ _ _
     rw [e1, e2, e3]
     exact own_mono ho9 hC.size) (by rintro ch w9 ⟨⟨v9, h9, _⟩, _⟩; cases h9) (by rintro w9 ⟨⟨v9, h9, _⟩, _⟩; cases h9)
  ·have h7 := hv 7 (ov ho)
   obtain ⟨p, c, e⟩ := own_sl h7
   exact st_len (og ho) (.tmp 59) 136 (oo ho) Tryz.underlying136 (rd_in rfl 7 rfl (Nat.lt_of_lt_of_le (by decide) hsz) e) (hK _ w hR0 rfl)
  ·exact st_move (og ho) (.const (.int .i64 0)) (oo ho) rfl (hK _ w hR0 rfl)
 ·intro f w hC hf
  obtain ⟨e1, e2, e3, e4⟩ := hbf
  have h7 := hf 7 (by decide)
  have h8 := hf 8 (by decide)
  have h9 := hf 9 (by decide)
  have h7' : w.ownsRow W.heap.size 3 1 (f 7) (behL (befW P r).F (befW P r).R (befW P r).xs (befW P r).bl (befW P r).ha).length ((behL (befW P r).F (befW P r).R (befW P r).xs (befW P r).bl (befW P r).ha).map (.int .i64)) := h7
  have h8' : f 8 = .int .i64 (behL (befW P r).F (befW P r).R (befW P r).xs (befW P r).bl (befW P r).ha).length := h8
  rw [e1, e2, e3] at h7' h8'
  subst hP
  exact hok f w _ rfl hC h7' h8' h9
def cl13 (P : Pos) (pp : Option Addr) (cc : Nat) (r : Ret) (qs n0 : Nat) : Nat → Value → World → Prop
 | 3, v, _ => v = .agg (posCs P.F P.R pp P.xs.length cc P.bl P.ca P.pa P.ha P.fu).toArray
 | 4, v, _ => v = .agg r.cs.toArray
 | 5, v, _ => ∃ cs : Array Value, v = .tuple #[.agg cs, .bool (mayW P r)] ∧ cs.size = 8 ∧ cs.all (·.oneCell') = true
 | 6, v, _ => ∃ cs : Array Value, v = .tuple #[.agg cs, .bool (mayW P r)] ∧ cs.size = 8 ∧ cs.all (·.oneCell') = true
 | 7, v, _ => ∃ cs : Array Value, v = .agg cs ∧ cs.size = 8 ∧ cs.all (·.oneCell') = true
 | 8, v, _ => v = .bool (mayW P r)
 | 9, v, w => ∃ q cs, v = .pointer (some ⟨q, 0, none⟩) ∧ n0 ≤ q ∧ cs.size = 8 ∧ HasO w q (.cells cs 26 (0, 0))
 | 10, _, _ => True
 | 11, v, _ => v = .bool (mayW P r)
 | _, v, _ => v = .pointer (some ⟨qs, 0, none⟩)
def le13 (n0 : Nat) (w w' : World) : Prop := RowKit.Below n0 w w' ∧ ∀ q cs, n0 ≤ q → cs.size = 8 → HasO w q (.cells cs 26 (0, 0)) → ∃ cs' : Array Value, cs'.size = 8 ∧ HasO w' q (.cells cs' 26 (0, 0))
theorem le13.of {n0 : Nat} {w w' : World} (h : RowKit.Below w.heap.size w w') (hn : n0 ≤ w.heap.size) : le13 n0 w w' := ⟨⟨h.os, h.tape, h.output, h.size, fun k hk => h.block k (Nat.lt_of_lt_of_le hk hn)⟩, fun _ cs _ h2 h3 => ⟨cs, h2, h3.call h⟩⟩
theorem cl13_stab {P : Pos} {n0 i : Nat} {v : Value} {w w' : World} (hb : le13 n0 w w') (h : cl13 P pp cc r qs n0 i v w) : cl13 P pp cc r qs n0 i v w' := by
 by_cases h9 : i = 9
 ·subst h9
  obtain ⟨q, cs, h1, h2, h3, h4⟩ := h
  obtain ⟨cs', h5, h6⟩ := hb.2 q cs h2 h3 h4
  exact ⟨q, cs', h1, h2, h5, h6⟩
 ·unfold cl13 at h ⊢
  split at h <;> first | contradiction | skip
  all_goals first | exact h | (split <;> first | contradiction | exact h)
set_option maxRecDepth 100000 in
theorem try13 (a b : Nat) (hra : r.mv.fr = a) (hrb : r.mv.tg = b) (hla : a < xs.length) (hlb : b < xs.length) (hF : 3 ≤ F ∧ F ≤ 8) (hR : 3 ≤ R ∧ R ≤ 8) (hlen : xs.length = F * R) (h6 : ∀ x ∈ xs, -6 ≤ x ∧ x ≤ 6) (hha : 0 ≤ ha ∧ ha ≤ 10000) (hfu : -10000 ≤ fu ∧ fu ≤ 10000) (hrc : 0 ≤ r.ca ∧ r.ca < 256)
  (W : World) (hg : GlobU W) (hx : Arr .i8 W pp xs) (hS : HasO W qs (.cells (srCs F R pp xs.length cc bl can pa ha fu occ v).toArray 71 (0, 0))) (h8 : HasO W q8 (.cells r.cs.toArray 42 (0, 0))) (A : Act) (Q : Exit → Act → World → Prop)
  (ha0 : A.tmps.getD 0 undef = .pointer (some ⟨qs, 0, none⟩)) (ha8 : A.tmps.getD 8 undef = .pointer (some ⟨q8, 0, none⟩)) (hsz : 88 ≤ A.tmps.size)
  (hok : ∀ f w', RowKit.Below W.heap.size W w' → f 11 = .bool (mayW ⟨F, R, xs, bl, can, pa, ha, fu⟩ r) →
   Q .normal (putL [some 67, some 68, some 69, some 70, some 71, some 72, some 66, some 73, some 74, some 11, none, some 12] f 0 A) w')
  (cd : Code) (hcd : Tryz.f90.body.bind (regC 13) = some cd) : cd.wp Tryz.prog Q A W := by
 obtain rfl := Option.some.inj ((show Tryz.f90.body.bind (regC 13) = some _ from rfl).symm.trans hcd)
 clear hcd
 have h9 : F * R ≤ 64 := Nat.mul_le_mul hF.2 hR.2
 have hl64 : xs.length ≤ 64 := by omega
 obtain ⟨P, hP⟩ : ∃ P : Pos, P = ⟨F, R, xs, bl, can, pa, ha, fu⟩ := ⟨_, rfl⟩
 refine wp_region_agL (by kernel_rfl) (by kernel_rfl) [some 67, some 68, some 69, some 70, some 71, some 72, some 66, some 73, some 74, some 11, none, some 12] (by rfl) (by rfl) (fun w => RowKit.Below W.heap.size W w) (fun w w' => le13 W.heap.size w w') (cl13 P pp cc r qs W.heap.size)
  (fun i v w w' _ h h2 => cl13_stab h h2) (Below.refl _ _).drew ?_ ?_
 ·intro i o f w ho hi hC hf K hK
  have hi : i < 12 := hi
  replace hK : ∀ u w', le13 W.heap.size w w' → cl13 P pp cc r qs W.heap.size i u w' → K ((putL _ f 0 A).put o.dst u) w' := fun u w' h1 h2 => hK u w' (hC.trans h1.1) h1 h2
  have hv : ∀ j, o.after.toList.any (fun e => Region.binds .any e && (e.on == j)) = true → cl13 P pp cc r qs W.heap.size j (f j) w := fun j hj => by
   rw [List.any_eq_true] at hj
   obtain ⟨e, he, h⟩ := hj
   simp only [Bool.and_eq_true, beq_iff_eq] at h
   have := hf e (by simpa using he) h.1
   rwa [h.2] at this
  have hR0 : le13 W.heap.size w w := le13.of (Below.refl _ _) hC.size
  rcases (by omega : i = 0 ∨ i = 1 ∨ i = 2 ∨ i = 3 ∨ i = 4 ∨ i = 5 ∨ i = 6 ∨ i = 7 ∨ i = 8 ∨ i = 9 ∨ i = 10 ∨ i = 11) with rfl | rfl | rfl | rfl | rfl | rfl | rfl | rfl | rfl | rfl | rfl | rfl
  ·exact st_move (og ho) (.tmp 0) (oo ho) (rd_out rfl ha0) (hK _ w hR0 rfl)
  ·exact st_nil (og ho) (.tmp 67) (oo ho) (rd_in rfl 0 rfl (Nat.lt_of_lt_of_le (by decide) hsz) (hv 0 (ov ho))) (hK _ w hR0 rfl)
  ·exact st_field (og ho) 71 (.tmp 68) 0 (oo ho) (rd_in rfl 1 rfl (Nat.lt_of_lt_of_le (by decide) hsz) (hv 1 (ov ho))) (n := 0) (by kernel_rfl) (hK _ w hR0 rfl)
  ·have hSw := (hS.call hC).cells
   exact st_loadA (og ho) 26 (.tmp 69) (oo ho) (rd_in rfl 2 rfl (Nat.lt_of_lt_of_le (by decide) hsz) (hv 2 (ov ho))) (posCs F R pp xs.length cc bl can pa ha fu) (by kernel_rfl) (fun j u hu => by
    rw [Nat.zero_add, hSw j, List.getElem?_toArray]
    unfold srCs
    rw [List.getElem?_append_left (List.getElem?_eq_some_iff.1 hu).1]
    exact hu) (hK _ w hR0 (by subst hP; rfl))
  ·have h8w := (h8.call hC).cells
   exact st_loadA (og ho) 42 (.tmp 8) (oo ho) (rd_out rfl ha8) r.cs (by kernel_rfl) (fun j u hu => by rw [Nat.zero_add, h8w j]; simpa using hu) (hK _ w hR0 rfl)
  ·have h4 := hv 3 (ov ho)
   have h5 := hv 4 (ov ho)
   have h4' : f 3 = .agg (posCs F R pp xs.length cc bl can pa ha fu).toArray := by subst hP; exact h4
   exact st_call2 (og ho) 55 (.tmp 70) (.tmp 71) #[26, 42] (oo ho) (rd_in rfl 3 rfl (Nat.lt_of_lt_of_le (by decide) hsz) h4') (rd_in rfl 4 rfl (Nat.lt_of_lt_of_le (by decide) hsz) h5) (fun _ _ => rfl)
    (may_any F R xs bl can pa ha fu r pp cc a b hra hrb hla hlb hl64 h6 (fun e1 e2 => by subst e1 e2; omega) hha hfu hrc w (hg.call hC) (hx.call hC))
    (by rintro u w9 ⟨q, cap, h9, hb9, _, hy⟩; injection h9 with h9; subst h9; subst hP; exact hK _ w9 (le13.of hb9 hC.size) ⟨_, rfl, rfl, by simp [Value.oneCell']⟩) (by rintro ch w9 ⟨q, cap, h9, _⟩; cases h9) (by rintro w9 ⟨q, cap, h9, _⟩; cases h9)
  ·obtain ⟨cs, h1, h2⟩ := hv 5 (ov ho)
   exact st_move (og ho) (.tmp 72) (oo ho) (rd_in rfl 5 rfl (Nat.lt_of_lt_of_le (by decide) hsz) h1) (hK _ w hR0 ⟨cs, rfl, h2⟩)
  ·obtain ⟨cs, h1, h2⟩ := hv 6 (ov ho)
   exact st_ext (og ho) (.tmp 66) 0 (oo ho) (rd_in rfl 6 rfl (Nat.lt_of_lt_of_le (by decide) hsz) h1) rfl (hK _ w hR0 ⟨cs, rfl, h2⟩)
  ·obtain ⟨cs, h1, h2⟩ := hv 6 (ov ho)
   exact st_ext (og ho) (.tmp 66) 1 (oo ho) (rd_in rfl 6 rfl (Nat.lt_of_lt_of_le (by decide) hsz) h1) rfl (hK _ w hR0 rfl)
  ·exact st_alloc (og ho) 26 (oo ho) (al26 w) (hK _ _ (le13.of (below_box w _) hC.size) ⟨_, _, rfl, hC.size, rfl, HasO.new w (.cells zeroPos.toArray 26)⟩)
  ·obtain ⟨cs, h1, h2, h3⟩ := hv 7 (ov ho)
   obtain ⟨q, old, h4, h5, h6v, h7⟩ := hv 9 (ov ho)
   exact st_storeO (og ho) 26 (.tmp 11) (.tmp 73) (oo ho) (rd_in rfl 9 rfl (Nat.lt_of_lt_of_le (by decide) hsz) h4) cs old 26 (rd_in rfl 7 rfl (Nat.lt_of_lt_of_le (by decide) hsz) h1) h7 (by rw [h2]; kernel_rfl) (by rw [h6v, h2]) h3
    (hK _ _ ⟨setRow_below (Below.refl _ _) h5 hC.size, fun q' cs' e1 e2 e3 => by
     by_cases e : q' = q
     ·subst e; exact ⟨cs, h2, setRow_hasO h7⟩
     ·exact ⟨cs', e2, e3.setRow_far e⟩⟩ trivial)
  ·have h8v := hv 8 (ov ho)
   exact st_assign (og ho) (.tmp 74) (oo ho) (rd_in rfl 8 rfl (Nat.lt_of_lt_of_le (by decide) hsz) h8v) (hK _ w hR0 rfl)
 ·intro f w hC hf
  have h11 := hf 11 (by decide)
  subst hP
  exact hok f w hC h11
end
end Go.Proofs.YtefmplccbkmalaaGreatDoor
