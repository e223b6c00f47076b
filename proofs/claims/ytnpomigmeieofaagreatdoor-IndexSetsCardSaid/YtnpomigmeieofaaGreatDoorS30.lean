import Derived.Test.YtnpomigmeieofaaGreatDoorS29
set_option maxHeartbeats 12800000
namespace Go.Proofs.YtnpomigmeieofaaGreatDoor
open Go.RowKit

def ofE (f r : Int) (xs : List Int) (bl : Bool) (ca pa ha fu : Int) : Men × Int :=
 if pvB f r xs bl ca pa ha fu then (if validB (ofM f r xs xs.length) then (ofM f r xs xs.length, 0) else (zeroMen, 7)) else (zeroMen, 2)
def ofV (f r : Int) (xs : List Int) (bl : Bool) (ca pa ha fu : Int) : Value := .tuple #[.agg (ofE f r xs bl ca pa ha fu).1.cs.toArray, .int .i64 (ofE f r xs bl ca pa ha fu).2]
set_option maxRecDepth 100000 in
theorem idxOfP_any (f r ca pa ha fu : Int) (bl : Bool) (p : Option Addr) (c : Nat) (xs : List Int) (hca : 0 ≤ ca ∧ ca < 256) (hl : xs.length ≤ 1000) (hcap : xs.length ≤ c) (h8 : ∀ x ∈ xs, -128 ≤ x ∧ x ≤ 127) (w : World) (hg : GlobOk w) (hx : Arr .i8 w p xs) :
  Calls Tryz.prog 14 #[.agg (posCs f r p xs.length c bl ca pa ha fu).toArray] w fun e w' => e = .returned (ofV f r xs bl ca pa ha fu) ∧ Below w.heap.size w w' := by
 have hA := HasO.new w (.cells (posCs f r p xs.length c bl ca pa ha fu).toArray 40)
 have hA1 := hA.alloc (.cells zeroMen.cs.toArray 26)
 have hR1 := HasO.new' (w.alloc (.cells (posCs f r p xs.length c bl ca pa ha fu).toArray 40)) (.cells zeroMen.cs.toArray 26) (q := w.heap.size + 1) (by simp)
 have hB1 := (below_box w (.cells (posCs f r p xs.length c bl ca pa ha fu).toArray 40)).alloc (by simp) (.cells zeroMen.cs.toArray 26)
 have hx1 := hx.call hB1
 have hg1 := hg.call hB1
 have hpv := fun W hg hx => posValid_any f r ca pa ha fu bl p c xs hca hl hcap W hg hx
 rw [pv_eq] at hpv
 have hof := fun W hx => idxOf_any f r ca pa ha fu bl p c xs hl h8 W hx
 have hva := fun W => valid_any (ofM f r xs xs.length) W
 obtain ⟨V, hV⟩ : ∃ V, V = ofE f r xs bl ca pa ha fu := ⟨_, rfl⟩
 have hVd : V = if pvB f r xs bl ca pa ha fu then (if validB (ofM f r xs xs.length) then (ofM f r xs xs.length, 0) else (zeroMen, 7)) else (zeroMen, 2) := hV
 have hVV : ofV f r xs bl ca pa ha fu = .tuple #[.agg V.1.cs.toArray, .int .i64 V.2] := by rw [hV]; rfl
 rw [hVV]
 clear hV hVV
 generalize ofM f r xs xs.length = m at *
 generalize pvB f r xs bl ca pa ha fu = D at *
 replace hVd := Lib.hid hVd
 have hc := hA1.cells
 have hlc := hA1.lt
 clear hA hx hg
 go_enter Tryz.func14, Tryz.ntmps14
 go_wp2_with fail
 refine (hpv _ hg1 hx1).mono ?_
 rintro e w2 ⟨rfl, hb2⟩
 have hA2 := hA1.call hb2
 have hR2 := hR1.call hb2
 have hB2 := below_call hB1 (Nat.le_trans hB1.size (Nat.le_refl _)) hb2
 have hx2 := hx1.call hb2
 clear hA1 hR1 hB1 hx1 hg1 hb2 hpv hc hlc
 have hc := hA2.cells
 have hlc := hA2.lt
 have hlr := hR2.lt
 cases D
 ·have e0 : Hid (V = (zeroMen, 2)) := Lib.hid (by rw [hVd.out]; rfl)
  go_wp2_with (first | (refine wpList_storeAgg rfl 26 (.tmp 2) (.tmp 8) rfl (w.heap.size + 1) _ rfl rfl 26 _ hR2 (by kernel_rfl) rfl (men_one zeroMen) ?_; rintro w' rfl) | fail)
  refine bodyPost_ret (results_ct (fn := Tryz.f14) Tryz.results14 rfl (setRow_hasO hR2) (by kernel_rfl) (by kernel_rfl) rfl) rfl ?_
  exact ⟨by rw [e0.out]; rfl, setRow_below hB2 (by omega) hB2.size⟩
 ·go_wp2_with fail
  refine (hof _ hx2).mono ?_
  rintro e w3 ⟨rfl, hb3⟩
  have hA3 := hA2.call hb3
  have hR3 := hR2.call hb3
  have hB3 := below_call hB2 hB2.size hb3
  clear hA2 hR2 hB2 hx2 hb3 hc hlc hlr hof
  have hM4 := HasO.new w3 (.cells m.cs.toArray 26)
  have hb4 := below_box w3 (.cells m.cs.toArray 26)
  have hR4 := hR3.call hb4
  have hB4 := below_call hB3 hB3.size hb4
  have hlr := hR4.lt
  clear hA3
  go_wp2_with fail
  show Calls _ _ _ (w3.alloc (.cells m.cs.toArray 26)) _
  obtain ⟨q, hq⟩ : ∃ q, q = w3.heap.size := ⟨_, rfl⟩
  rw [← hq] at hM4
  generalize w3.alloc (.cells m.cs.toArray 26) = w4 at *
  refine (hva _).mono ?_
  rintro e w5 ⟨rfl, hb5⟩
  have hM5 := hM4.call hb5
  have hR5 := hR4.call hb5
  have hB5 := below_call hB4 hB4.size hb5
  clear hM4 hR4 hB4 hb5 hR3 hB3 hb4 hlr
  have hc := hM5.cells
  have hlc := hM5.lt
  rw [hq] at hc hlc hM5
  have hlr := hR5.lt
  rcases hvb : validB m with _ | _
  ·have e0 : Hid (V = (zeroMen, 7)) := Lib.hid (by rw [hVd.out, hvb]; rfl)
   go_wp2_with (first | (refine wpList_storeAgg rfl 26 (.tmp 2) (.tmp 14) rfl (w.heap.size + 1) _ rfl rfl 26 _ hR5 (by kernel_rfl) rfl (men_one zeroMen) ?_; rintro w' rfl) | fail)
   refine bodyPost_ret (results_ct (fn := Tryz.f14) Tryz.results14 rfl (setRow_hasO hR5) (by kernel_rfl) (by kernel_rfl) rfl) rfl ?_
   exact ⟨by rw [e0.out]; rfl, setRow_below hB5 (by omega) hB5.size⟩
  ·have e0 : Hid (V = (m, 0)) := Lib.hid (by rw [hVd.out, hvb]; rfl)
   go_wp2_with (first | (refine wpList_storeAgg rfl 26 (.tmp 2) (.tmp 15) rfl (w.heap.size + 1) _ rfl rfl 26 _ hR5 (by kernel_rfl) rfl (men_one m) ?_; rintro w' rfl) | fail)
   refine bodyPost_ret (results_ct (fn := Tryz.f14) Tryz.results14 rfl (setRow_hasO hR5) (by kernel_rfl) (by kernel_rfl) rfl) rfl ?_
   exact ⟨by rw [e0.out]; rfl, setRow_below hB5 (by omega) hB5.size⟩
def mensV (l : List Men) : List Value := l.flatMap (fun m => m.cs)
theorem mensV_len (l : List Men) : (mensV l).length = l.length * 12 := by
 induction l with
 | nil => rfl
 | cons m l ih =>
  have h : mensV (m :: l) = m.cs ++ mensV l := by simp [mensV]
  rw [h, List.length_append, ih, show m.cs.length = 12 from rfl, show (m :: l).length = l.length + 1 from rfl]
  omega
theorem mensV_snoc (l : List Men) (m : Men) : mensV (l ++ [m]) = mensV l ++ m.cs := by simp [mensV]
theorem men_one26 (m : Men) : ∀ u ∈ m.cs, u.oneCell' = true := by
 intro u hu
 simp at hu
 rcases hu with rfl | rfl | rfl | rfl | rfl | rfl | rfl | rfl | rfl | rfl | rfl | rfl <;> rfl
theorem info26 : (Tryz.prog.info? 26).map (fun i => (i.zero, i.size, i.bytes)) = some (some (.agg zeroMen.cs.toArray), 12, 96) := by kernel_rfl
def flipM (m : Men) : Men := ⟨m.f, m.r, m.b0, m.b1, m.b2, m.b3, m.b4, m.w0, m.w1, m.w2, m.w3, m.w4⟩
def setW_ (m : Men) (k : Nat) (v : Int) : Men :=
 match k with | 0 => { m with w0 := v } | 1 => { m with w1 := v } | 2 => { m with w2 := v } | 3 => { m with w3 := v } | _ => { m with w4 := v }
theorem setW_cs (m : Men) {k : Nat} (hk : k < 5) (v : Int) : m.cs.toArray.setIfInBounds (2 + k) (.int .i64 v) = (setW_ m k v).cs.toArray := by
 rcases five hk with rfl | rfl | rfl | rfl | rfl <;> rfl
def fewL (m : Men) : Nat → List Men
 | 0 => []
 | k + 1 => if 0 < m.sw k then fewL m k ++ [setW_ m k (m.sw k - 1)] else fewL m k
theorem fewL_len (m : Men) : ∀ k, (fewL m k).length ≤ k := by
 intro k
 induction k with
 | zero => simp [fewL]
 | succ k ih =>
  rw [fewL]
  split
  ·simp; omega
  ·omega
def mB (m : Men) (c : Int) : Prop := ∀ k, k < 5 → (0 ≤ m.sw k ∧ m.sw k ≤ c) ∧ (0 ≤ m.sb k ∧ m.sb k ≤ c)

set_option maxRecDepth 100000 in
theorem fewer_any (m : Men) (w : World) (hb : mB m 100) : Calls Tryz.prog 153 #[.agg m.cs.toArray] w fun e w' => (∃ v, e = .returned v ∧ w'.ownsRow w.heap.size 26 12 v (fewL m 5).length (mensV (fewL m 5))) ∧ Below w.heap.size w w' := by
 obtain ⟨i0, hi, hz0, hz1, hz2⟩ := info_parts info26
 go_enter Tryz.func153, Tryz.ntmps153
 go_wp2_with fail
 have hM0 : HasO ((w.alloc (.cells m.cs.toArray 26)).iter PN 0) w.heap.size (.cells m.cs.toArray 26 (0, 0)) := (HasO.new _ _).iter _ _
 have hI0 : HasO ((w.alloc (.cells m.cs.toArray 26)).iter PN 0) (w.heap.size + 1) (.stringIter PN 0) := HasO.new' _ _ (by simp)
 have hb0 : Below w.heap.size w ((w.alloc (.cells m.cs.toArray 26)).iter PN 0) := (below_box _ _).alloc (by simp) _
 go_loopg [3] 5 (fun q n wr => ∃ k, ∃ wz, wz = wr ∧ q + k = 5 ∧ HasO wr w.heap.size (.cells m.cs.toArray 26 (0, 0)) ∧ HasO wr (w.heap.size + 1) (.stringIter PN k) ∧ Below w.heap.size w wr ∧ w.heap.size + 2 ≤ wr.heap.size ∧ wr.ownsRow (w.heap.size + 2) 26 12 n (fewL m k).length (mensV (fewL m k)))
 case atStart => exact ⟨0, _, rfl, rfl, hM0, hI0, hb0, hI0.lt, World.ownsRow_nil _ _ _ _⟩
 case round =>
  clear hM0 hI0 hb0
  obtain ⟨k, wr, rfl, hg, hM, hI, hbr, hz, hown⟩ := hrel
  by_cases hk : k < 5
  ·obtain ⟨hk1, hk2⟩ := pn_at hk
   obtain ⟨w2, hn, hI2, hg2, hz2'⟩ := next_at (P := Tryz.prog) hI hk1 hk2 0
   have hM2 := hM.grown hg2 (by intro e; injection e; omega)
   have hb2 := hbr.grown hg2 (by omega) (fun j e => by injection e; omega)
   have hown2 := hown.kept hg2 (.inr (own_ne hown hI (by simp)))
   have hkk : (k : Int) < 5 := by omega
   have hs2 : w.heap.size + 2 ≤ w2.heap.size := by omega
   clear hM hI hbr hown hg2 hz2'
   have hX := HasO.new w2 (.cells m.cs.toArray 26)
   have hbX := below_box w2 (.cells m.cs.toArray 26)
   have hM3 := hM2.call hbX
   have hI3 := hI2.call hbX
   have hb3 := below_call hb2 (by omega) hbX
   have hown3 := own_call hown2 hbX
   have hlM := hM2.lt
   have hlI := hI2.lt
   have hlo := fun q e => (hown2.lt q e).2
   have hz3 := hbX.size
   go_upto_region 6 with (first | (refine wpList_loadO rfl 26 (.tmp 1) rfl w.heap.size _ 26 rfl hM2 (by kernel_rfl) ?_) | fail)
   show Code.wp _ _ _ _ (w2.alloc (.cells m.cs.toArray 26))
   generalize w2.alloc (.cells m.cs.toArray 26) = w3 at *
   obtain ⟨q5, hq5⟩ : ∃ q, q = w2.heap.size := ⟨_, rfl⟩
   rw [← hq5] at hX hlM hlI hlo hs2 hz3 ⊢
   clear hM2 hI2 hb2 hown2 hbX hn hq5
   have hcx := hX.cells (2 + k)
   rw [show m.cs.toArray[2 + k]? = some (.int .i64 (m.sw k)) from by have := m.cs_w hk; simpa using this] at hcx
   have hfx := hX.frozen (2 + k)
   have hlx := hX.lt
   have hbk := (hb k hk).1
   have e1 : IntKind.i64.wrap (m.sw k - 1) = m.sw k - 1 := IntWalk.i64_in _ (by omega)
   have hll := fewL_len m k
   rcases hp : decide (0 < m.sw k) with _ | _
   ·have hp2 : ¬ (0 : Int) < m.sw k := by simpa using hp
    have hnx : fewL m (k + 1) = fewL m k := by rw [fewL, if_neg hp2]
    replace hnx := Lib.hid hnx
    go_wp2_with fail
    go_roundg (gk - 1)
    case measure => omega
    case rel => exact ⟨k + 1, _, rfl, by omega, hM3, hI3, hb3, by omega, by rw [hnx.out]; exact hown3⟩
   ·have hp2 : (0 : Int) < m.sw k := by simpa using hp
    have hnx : fewL m (k + 1) = fewL m k ++ [setW_ m k (m.sw k - 1)] := by rw [fewL, if_pos hp2]
    replace hnx := Lib.hid hnx
    have hX2 := hX.set_ (2 + k) (.int .i64 (m.sw k - 1))
    rw [setW_cs m hk] at hX2
    obtain ⟨m2, hm2⟩ : ∃ m2, m2 = setW_ m k (m.sw k - 1) := ⟨_, rfl⟩
    rw [← hm2] at hX2 hnx
    have hA : Alt q5 (q5 + 1) w3 (w3.setCell ⟨q5, 2 + k, none⟩ (.int .i64 (m.sw k - 1))) := Alt.setCell (p := ⟨q5, 2 + k, none⟩) ⟨Nat.le_refl q5, Nat.lt_succ_self q5⟩
    have hM4 := hA.hasO hM3 (.inl hlM)
    have hI4 := hA.hasO hI3 (.inl hlI)
    have hb4 := hA.below hb3 (by omega) (by omega)
    have hown4 := hA.own hown3 (fun q e => .inl (hlo q e))
    have hz4 := hA.size
    have hbs : w.heap.size + 2 ≤ (w3.setCell ⟨q5, 2 + k, none⟩ (.int .i64 (m.sw k - 1))).heap.size := by omega
    replace hm2 := Lib.hid hm2
    clear hA hM3 hI3 hb3 hown3 hX
    go_upto_region 8 with fail
    show Code.wp _ _ _ _ (w3.setCell ⟨q5, 2 + k, none⟩ (.int .i64 (m.sw k - 1)))
    generalize w3.setCell ⟨q5, 2 + k, none⟩ (.int .i64 (m.sw k - 1)) = w4 at *
    clear hcx hfx hlx
    go_wp2_with (first | (refine wpList_loadO rfl 26 (.tmp 5) rfl q5 _ 26 rfl hX2 (by kernel_rfl) ?_) | (at_builtin; refine wpList_push rfl (.tmp 23) (.tmp 25) 57 rfl (w.heap.size + 2) 26 i0 _ 12 96 Tryz.underlying57 hi hz0 hz1 hz2 rfl (by decide) _ (fewL m k).length (mensV (fewL m k)) rfl hown4 m2.cs rfl (men_one26 m2) _ rfl rfl (by omega) hbs ?_))
    intro v' w9 hown9 hg9 _
    have hne := own_ne hown4 hI4 (by simp)
    have hM9 := hM4.grown hg9 (fun e => by have := hown4.lt _ e; omega)
    have hI9 := hI4.grown hg9 hne
    have hb9 := hb4.grown hg9 (by omega) (fun j e => by have := hown4.lt _ e; omega)
    have hz9 := hg9.size
    replace hown9 : w9.ownsRow (w.heap.size + 2) 26 12 v' (fewL m (k + 1)).length (mensV (fewL m (k + 1))) := by rw [hnx.out, mensV_snoc, List.length_append]; exact hown9
    clear hown4 hM4 hI4 hb4 hg9 hne hX2
    go_wp2_with fail
    go_roundg (gk - 1)
    case measure => omega
    case rel => exact ⟨k + 1, _, rfl, by omega, hM9, hI9, hb9, by omega, hown9⟩
  ·obtain rfl : k = 5 := by omega
   have hn := next_at_end (P := Tryz.prog) hI (by decide) 0
   clear hM hI
   go_wp2_with fail
   go_ret
   exact ⟨⟨_, rfl, own_mono hown (by omega)⟩, hbr⟩
theorem results_c1 {P : Program} {fn : Func} {p : Tmp} {ty : TypeId} (h : fn.results = #[.cell p ty]) {tmps : Array Value} {w : World} {g : Nat} {t : TypeId} {cs : Array Value}
  (hp : tmps.getD p undef = .pointer (some ⟨g, 0, none⟩)) (hg : HasO w g (.cells cs t (0, 0))) (hr : isRow P ty cs.size = true) : (results fn tmps).run P w = .ok (.agg cs) w := by
 have e1 : (loadVar ty ⟨g, 0, none⟩).run P w = .ok (.agg cs) w := by
  have := run_loadA (P := P) (w := w) (ty := ty) (g := g) (b := 0) cs.toList (by simpa using hr) (fun j v hv => by rw [Nat.zero_add, hg.cells j]; simpa using hv)
  simpa using this
 have hp' : tmps[p]?.getD undef = .pointer (some ⟨g, 0, none⟩) := by simpa using hp
 simp [results, h, hp', asAddr, e1]
theorem flip_cs (m : Men) : ((((((((((m.cs.toArray.setIfInBounds 2 (.int .i64 m.b0)).setIfInBounds 3 (.int .i64 m.b1)).setIfInBounds 4 (.int .i64 m.b2)).setIfInBounds 5 (.int .i64 m.b3)).setIfInBounds 6 (.int .i64 m.b4)).setIfInBounds 7 (.int .i64 m.w0)).setIfInBounds 8 (.int .i64 m.w1)).setIfInBounds 9 (.int .i64 m.w2)).setIfInBounds 10 (.int .i64 m.w3)).setIfInBounds 11 (.int .i64 m.w4)) = (flipM m).cs.toArray := by simp [flipM]
set_option maxRecDepth 100000 in
theorem flip_any (m : Men) (w : World) : Calls Tryz.prog 67 #[.agg m.cs.toArray] w fun e w' => e = .returned (.agg (flipM m).cs.toArray) ∧ Below w.heap.size w w' := by
 have hM := (HasO.new w (.cells m.cs.toArray 26)).alloc (.cells zeroMen.cs.toArray 26)
 have hR := HasO.new' (w.alloc (.cells m.cs.toArray 26)) (.cells zeroMen.cs.toArray 26) (q := w.heap.size + 1) (by simp)
 have hb := (below_box w (.cells m.cs.toArray 26)).alloc (by simp) (.cells zeroMen.cs.toArray 26)
 go_enter Tryz.func67, Tryz.ntmps67
 go_upto_region 1 with fail
 show Code.wp _ _ _ _ ((w.alloc (.cells m.cs.toArray 26)).alloc (.cells zeroMen.cs.toArray 26))
 generalize (w.alloc (.cells m.cs.toArray 26)).alloc (.cells zeroMen.cs.toArray 26) = w1 at *
 obtain ⟨q, hq⟩ : ∃ q, q = w.heap.size := ⟨_, rfl⟩
 rw [← hq] at hM hR ⊢
 replace hq := Lib.hid hq
 have hc := hM.cells
 have hf := hM.frozen
 have hl := hM.lt
 have hM2 : HasO ((((((((((w1.setCell ⟨q, 2, none⟩ (.int .i64 m.b0)).setCell ⟨q, 3, none⟩ (.int .i64 m.b1)).setCell ⟨q, 4, none⟩ (.int .i64 m.b2)).setCell ⟨q, 5, none⟩ (.int .i64 m.b3)).setCell ⟨q, 6, none⟩ (.int .i64 m.b4)).setCell ⟨q, 7, none⟩ (.int .i64 m.w0)).setCell ⟨q, 8, none⟩ (.int .i64 m.w1)).setCell ⟨q, 9, none⟩ (.int .i64 m.w2)).setCell ⟨q, 10, none⟩ (.int .i64 m.w3)).setCell ⟨q, 11, none⟩ (.int .i64 m.w4)) q (.cells (flipM m).cs.toArray 26 (0, 0)) := by rw [← flip_cs]; exact ((((((((((hM.set_ 2 (.int .i64 m.b0)).set_ 3 (.int .i64 m.b1)).set_ 4 (.int .i64 m.b2)).set_ 5 (.int .i64 m.b3)).set_ 6 (.int .i64 m.b4)).set_ 7 (.int .i64 m.w0)).set_ 8 (.int .i64 m.w1)).set_ 9 (.int .i64 m.w2)).set_ 10 (.int .i64 m.w3)).set_ 11 (.int .i64 m.w4))
 have hA : Alt q (q + 1) w1 ((((((((((w1.setCell ⟨q, 2, none⟩ (.int .i64 m.b0)).setCell ⟨q, 3, none⟩ (.int .i64 m.b1)).setCell ⟨q, 4, none⟩ (.int .i64 m.b2)).setCell ⟨q, 5, none⟩ (.int .i64 m.b3)).setCell ⟨q, 6, none⟩ (.int .i64 m.b4)).setCell ⟨q, 7, none⟩ (.int .i64 m.w0)).setCell ⟨q, 8, none⟩ (.int .i64 m.w1)).setCell ⟨q, 9, none⟩ (.int .i64 m.w2)).setCell ⟨q, 10, none⟩ (.int .i64 m.w3)).setCell ⟨q, 11, none⟩ (.int .i64 m.w4)) := ((((((((((Alt.refl q (q + 1) w1).trans (Alt.setCell (p := ⟨q, 2, none⟩) (u := .int .i64 m.b0) ⟨Nat.le_refl q, Nat.lt_succ_self q⟩)).trans (Alt.setCell (p := ⟨q, 3, none⟩) (u := .int .i64 m.b1) ⟨Nat.le_refl q, Nat.lt_succ_self q⟩)).trans (Alt.setCell (p := ⟨q, 4, none⟩) (u := .int .i64 m.b2) ⟨Nat.le_refl q, Nat.lt_succ_self q⟩)).trans (Alt.setCell (p := ⟨q, 5, none⟩) (u := .int .i64 m.b3) ⟨Nat.le_refl q, Nat.lt_succ_self q⟩)).trans (Alt.setCell (p := ⟨q, 6, none⟩) (u := .int .i64 m.b4) ⟨Nat.le_refl q, Nat.lt_succ_self q⟩)).trans (Alt.setCell (p := ⟨q, 7, none⟩) (u := .int .i64 m.w0) ⟨Nat.le_refl q, Nat.lt_succ_self q⟩)).trans (Alt.setCell (p := ⟨q, 8, none⟩) (u := .int .i64 m.w1) ⟨Nat.le_refl q, Nat.lt_succ_self q⟩)).trans (Alt.setCell (p := ⟨q, 9, none⟩) (u := .int .i64 m.w2) ⟨Nat.le_refl q, Nat.lt_succ_self q⟩)).trans (Alt.setCell (p := ⟨q, 10, none⟩) (u := .int .i64 m.w3) ⟨Nat.le_refl q, Nat.lt_succ_self q⟩)).trans (Alt.setCell (p := ⟨q, 11, none⟩) (u := .int .i64 m.w4) ⟨Nat.le_refl q, Nat.lt_succ_self q⟩)
 have hR2 := hA.hasO hR (.inr (Nat.le_refl _))
 have hb2 := hA.below hb (by rw [hq.out]; exact Nat.le_refl _) hb.size
 clear hA hM
 go_upto_region 2 with fail
 generalize ((((((((((w1.setCell ⟨q, 2, none⟩ (.int .i64 m.b0)).setCell ⟨q, 3, none⟩ (.int .i64 m.b1)).setCell ⟨q, 4, none⟩ (.int .i64 m.b2)).setCell ⟨q, 5, none⟩ (.int .i64 m.b3)).setCell ⟨q, 6, none⟩ (.int .i64 m.b4)).setCell ⟨q, 7, none⟩ (.int .i64 m.w0)).setCell ⟨q, 8, none⟩ (.int .i64 m.w1)).setCell ⟨q, 9, none⟩ (.int .i64 m.w2)).setCell ⟨q, 10, none⟩ (.int .i64 m.w3)).setCell ⟨q, 11, none⟩ (.int .i64 m.w4)) = w2 at *
 clear hc hf hl hR
 go_wp2_with (first | (refine wpList_loadO rfl 26 (.tmp 1) rfl q _ 26 rfl hM2 (by kernel_rfl) ?_) | (refine wpList_storeAgg rfl 26 (.tmp 2) (.tmp 9) rfl (q + 1) _ rfl rfl 26 _ hR2 (by kernel_rfl) rfl (men_one (flipM m)) ?_; rintro w' rfl) | fail)
 refine bodyPost_ret (results_c1 (fn := Tryz.f67) Tryz.results67 rfl (setRow_hasO hR2) (by kernel_rfl)) rfl ?_
 exact ⟨rfl, setRow_below hb2 (by rw [hq.out]; omega) hb2.size⟩
theorem wpList_loadA {P : Program} {ops : Array Oper} {rest : List Oper} {o : Oper} {a : Act} {w : World} {Q : Exit → Act → World → Prop} (hgd : o.guard = none) (ty : TypeId) (x : Operand) (ho : o.op = .load ty x)
  {g b : Nat} (hx : a.eval x = .pointer (some ⟨g, b, none⟩)) (vs : List Value) (hr : isRow P ty vs.length = true) (hc : ∀ j v, vs[j]? = some v → w.cell? ⟨g, b + j, none⟩ = some v)
  (h : wpList P ops Q rest (a.put o.dst (.agg vs.toArray)) w) : wpList P ops Q (o :: rest) a w :=
 wpList_plain hgd fun _ hK => by
  unfold Oper.wp execOp
  simp only [ho, hx, Instr.loadAt, Instr.sureAddr, Sem.run_bind, Sem.run_pure, Result.andThen_ok, run_loadA vs hr hc]
  exact hK _ _ h
def MArr (w : World) (p : Option Addr) (L : List Men) : Prop :=
 L = [] ∨ ∃ g, p = some ⟨g, 0, none⟩ ∧ g < w.heap.size ∧ ∀ j, j < L.length → ∀ i v, (L[j]?.getD zeroMen).cs[i]? = some v → w.cell? ⟨g, j * 12 + i, none⟩ = some v
theorem MArr.call {w w' : World} {p : Option Addr} {L : List Men} (h : MArr w p L) (hb : Below w.heap.size w w') : MArr w' p L := by
 rcases h with h | ⟨g, rfl, hl, hc⟩
 ·exact .inl h
 ·exact .inr ⟨g, rfl, Nat.lt_of_lt_of_le hl hb.size, fun j hj i v hv => (hb.cell (p := ⟨g, j * 12 + i, none⟩) hl).trans (hc j hj i v hv)⟩
theorem MArr.at {w : World} {p : Option Addr} {L : List Men} (h : MArr w p L) {j : Nat} (hj : j < L.length) :
  ∃ g, p = some ⟨g, 0, none⟩ ∧ g < w.heap.size ∧ ∀ i v, (L[j]?.getD zeroMen).cs[i]? = some v → w.cell? ⟨g, j * 12 + i, none⟩ = some v := by
 rcases h with rfl | ⟨g, rfl, hl, hc⟩
 ·simp at hj
 ·exact ⟨g, rfl, hl, hc j hj⟩
theorem mensV_get : ∀ (L : List Men) (j i : Nat) (v : Value), j < L.length → (L[j]?.getD zeroMen).cs[i]? = some v → (mensV L)[j * 12 + i]? = some v := by
 intro L
 induction L with
 | nil => intro j i v h; simp at h
 | cons m L ih =>
  intro j i v hj hv
  have h : mensV (m :: L) = m.cs ++ mensV L := by simp [mensV]
  rw [h]
  rcases j with _ | j
  ·simp only [List.getElem?_cons_zero, Option.getD_some] at hv
   have : i < m.cs.length := (List.getElem?_eq_some_iff.1 hv).1
   rw [Nat.zero_mul, Nat.zero_add, List.getElem?_append_left this]; exact hv
  ·simp only [List.getElem?_cons_succ] at hv
   rw [List.getElem?_append_right (by show 12 ≤ _; omega), show (j + 1) * 12 + i - m.cs.length = j * 12 + i by show _ - 12 = _; omega]
   exact ih j i v (by simpa using hj) hv
theorem own_marr {W : World} {base : Nat} {v : Value} {L : List Men} (h : W.ownsRow base 26 12 v L.length (mensV L)) : ∃ p c, v = .slice p L.length c ∧ MArr W p L := by
 have h' := h
 rcases h.2 with ⟨rfl, h2⟩ | ⟨g, cap, cur, rfl, hg, hh, _⟩
 ·have : L = [] := List.eq_nil_of_length_eq_zero h2
  subst this
  exact ⟨none, 0, rfl, .inl rfl⟩
 ·refine ⟨_, cap, rfl, .inr ⟨g, rfl, (h'.lt g rfl).2, fun j hj i v hv => ?_⟩⟩
  have hi : i < 12 := (List.getElem?_eq_some_iff.1 hv).1
  rw [h'.cellAt _ (by omega)]
  exact mensV_get L j i v hj hv
def tkL (m : Men) : List Men := (fewL (flipM m) 5).map flipM
theorem tkL_len (m : Men) : (tkL m).length ≤ 5 := by unfold tkL; rw [List.length_map]; exact fewL_len _ 5
theorem mB_flip {m : Men} {c : Int} (h : mB m c) : mB (flipM m) c := by
 intro k hk
 have := h k hk
 rcases five hk with rfl | rfl | rfl | rfl | rfl <;> exact ⟨this.2, this.1⟩

set_option maxRecDepth 100000 in
theorem taken_any (m : Men) (w : World) (hb : mB m 100) : Calls Tryz.prog 152 #[.agg m.cs.toArray] w fun e w' => (∃ v, e = .returned v ∧ w'.ownsRow w.heap.size 26 12 v (tkL m).length (mensV (tkL m))) ∧ Below w.heap.size w w' := by
 obtain ⟨i0, hi, hz0, hz1, hz2⟩ := info_parts info26
 have hM := HasO.new w (.cells m.cs.toArray 26)
 have hB := below_box w (.cells m.cs.toArray 26)
 have hfl := fun W => flip_any m W
 have hfw := fun W => fewer_any (flipM m) W (mB_flip hb)
 go_enter Tryz.func152, Tryz.ntmps152
 go_upto_region 1 with fail
 show Code.wp _ _ _ _ (w.alloc (.cells m.cs.toArray 26))
 generalize w.alloc (.cells m.cs.toArray 26) = w1 at *
 go_wp2_with (first | (refine wpList_loadO rfl 26 (.tmp 1) rfl w.heap.size _ 26 rfl hM (by kernel_rfl) ?_) | fail)
 refine (hfl w1).mono ?_
 rintro e w2 ⟨rfl, hb2⟩
 go_wp2_with fail
 refine (hfw w2).mono ?_
 rintro e w3 ⟨⟨v, rfl, hown⟩, hb3⟩
 have hB3 := below_call (below_call hB hB.size hb2) (Nat.le_trans hB.size hb2.size) hb3
 obtain ⟨L, hL⟩ : ∃ L, L = fewL (flipM m) 5 := ⟨_, rfl⟩
 have hL5 : L.length ≤ 5 := by rw [hL]; exact fewL_len _ 5
 rw [← hL] at hown
 obtain ⟨p, c, rfl, hArr⟩ := own_marr hown
 have htk : tkL m = L.map flipM := by rw [hL]; rfl
 replace hL := Lib.hid hL
 replace htk := Lib.hid htk
 have hs3 : w.heap.size ≤ w3.heap.size := hB3.size
 clear hfl hfw hM hB hb2 hb3 hown
 go_wp2_with fail
 go_loopg [2, 9] 6 (fun q lv iv wr => ∃ j : Nat, ∃ wz, wz = wr ∧ q + j = 6 ∧ j ≤ L.length ∧ iv = .int .i64 (j : Nat) ∧ wr.ownsRow w3.heap.size 26 12 lv ((L.take j).map flipM).length (mensV ((L.take j).map flipM)) ∧ Below w3.heap.size w3 wr)
 case atStart => exact ⟨0, _, rfl, rfl, Nat.zero_le _, rfl, World.ownsRow_nil _ _ _ _, Below.refl _ _⟩
 case round =>
  obtain ⟨j, w4, rfl, hq, hj, rfl, hown, hBr⟩ := hrel
  by_cases hlt : j < L.length
  ·have hjj : (j : Int) < L.length := by omega
   obtain ⟨g, rfl, hgl, hc⟩ := (hArr.call hBr).at hlt
   obtain ⟨x, hx⟩ : ∃ x, x = L[j]?.getD zeroMen := ⟨_, rfl⟩
   rw [← hx] at hc
   have hfl := fun W => flip_any x W
   have htj : (L.take (j + 1)).map flipM = (L.take j).map flipM ++ [flipM x] := by
    rw [List.take_add_one, hx, List.getElem?_eq_getElem hlt]
    simp only [Option.toList_some, List.map_append, List.map_cons, List.map_nil, Option.getD_some]
   have htl : ((L.take j).map flipM).length ≤ 5 := by rw [List.length_map, List.length_take]; omega
   obtain ⟨T, hT⟩ : ∃ T, T = (L.take j).map flipM := ⟨_, rfl⟩
   rw [← hT] at htj htl hown
   replace hT := Lib.hid hT
   replace hx := Lib.hid hx
   replace htj := Lib.hid htj
   have hX := HasO.new w4 (.cells x.cs.toArray 26)
   have hbX := below_box w4 (.cells x.cs.toArray 26)
   have hB5 := below_call hBr hBr.size hbX
   have hown5 := own_call hown hbX
   go_upto_region 4 with (first | (refine wpList_loadA rfl 26 (.tmp 11) rfl rfl x.cs (by kernel_rfl) hc ?_) | fail)
   show Code.wp _ _ _ _ (w4.alloc (.cells x.cs.toArray 26))
   generalize w4.alloc (.cells x.cs.toArray 26) = w5 at *
   generalize w4.heap.size = q5 at *
   clear hBr hown hgl hc
   go_wp2_with (first | (refine wpList_loadO rfl 26 (.tmp 4) rfl q5 _ 26 rfl hX (by kernel_rfl) ?_) | fail)
   refine (hfl w5).mono ?_
   rintro e w6 ⟨rfl, hb6⟩
   have hB6 := below_call hB5 hB5.size hb6
   have hown6 := own_call hown5 hb6
   clear hfl hB5 hown5 hX hb6
   go_wp2_with (at_builtin; refine wpList_push rfl (.tmp 13) (.tmp 16) 57 rfl w3.heap.size 26 i0 _ 12 96 Tryz.underlying57 hi hz0 hz1 hz2 rfl (by decide) _ T.length (mensV T) rfl hown6 (flipM x).cs rfl (men_one26 _) _ rfl rfl (by omega) hB6.size ?_)
   intro v' w9 hown9 hg9 _
   have hb9 := hB6.grown hg9 hB6.size (fun j e => (hown6.lt j e).1)
   replace hown9 : w9.ownsRow w3.heap.size 26 12 v' ((L.take (j + 1)).map flipM).length (mensV ((L.take (j + 1)).map flipM)) := by rw [htj.out, mensV_snoc, List.length_append]; exact hown9
   clear hown6 hg9 hB6
   go_wp2_with fail
   go_roundg (gk - 1)
   case measure => omega
   case rel => exact ⟨j + 1, _, rfl, by omega, by omega, by go_num, hown9, hb9⟩
  ·have hjj : ¬ (j : Int) < L.length := by omega
   obtain rfl : j = L.length := by omega
   rw [List.take_length] at hown
   go_wp2_with fail
   go_ret
   exact ⟨⟨_, rfl, by rw [htk.out, List.length_map]; rw [List.length_map] at hown; exact own_mono hown hs3⟩, below_call hB3 hB3.size hBr⟩
section ops
variable {P : Program} {o : Oper} {a : Act} {w : World} {K : Act → World → Prop} {Q : Exit → Act → World → Prop} {t : Nat → Option Bool} {X : Prop}
theorem st_appendOO (hg : o.guard = none) (s x : Operand) (ty : TypeId) (ho : o.op = .call { callee := .builtin .append, args := #[s, x], argTypes := #[ty, ty] })
  (base : Nat) (e : TypeId) (i : TypeInfo) (z : Value) (size bytes : Nat) (ht : P.underlying ty = some (.slice e)) (hi : P.info? e = some i) (hz : i.zero = some z)
  (hsize : i.size = size) (hby : i.bytes = bytes) (hzs : z.cells.size = size) (hsz : 0 < size) {v u : Value} {n m base' : Nat} {ys xs : List Value}
  (hs : a.eval s = v) (hown : w.ownsRow base e size v n ys) (hx : a.eval x = u) (hownx : w.ownsRow base' e size u m xs) (h1 : ∀ u ∈ xs, u.oneCell' = true)
  (hbytes : (n + m) * (bytes + 1) ≤ 140737488355328) (hbase : base ≤ w.heap.size)
  (h : ∀ v' w', w'.ownsRow base e size v' (n + m) (ys ++ xs) → w.grownBy w' v.ownBlock → (v'.ownBlock = v.ownBlock ∨ v'.ownBlock = some w.heap.size) → K (a.put o.dst v') w') : if Region.wanted o t = true then o.wp P a w K Q else X := by
 rcases hownx.2 with ⟨rfl, rfl⟩ | ⟨g, cap, cur, rfl, _⟩
 ·have hl := hownx.1
  have : xs = [] := List.eq_nil_of_length_eq_zero (by simpa using hl)
  subst this
  refine st_wp hg ?_
  have hr := run_append_owned_none (P := P) (w := w) base ty o.type e i size ht hi v n ys hown
  unfold Oper.wp execOp
  simp only [ho, resolve, invoke, builtin, Sem.run_bind, Sem.run_pure, Result.andThen_ok, List.map_toArray, List.map_cons, List.map_nil, hs, hx, hr]
  exact h _ _ (by simpa using hown) ⟨rfl, rfl, rfl, Nat.le_refl _, fun _ _ _ => rfl⟩ (.inl rfl)
 ·exact st_append hg s x ty ho base e i z size bytes ht hi hz hsize hby hzs hsz v n ys hs hown ⟨g, 0, none⟩ m cap xs hx hownx.1 (fun j u hu => hownx.cells (g := g) rfl j u hu) h1 hbytes hbase h
theorem st_callV1 (hg : o.guard = none) (fid : Nat) (c x : Operand) (ts : Array TypeId) (ho : o.op = .call { callee := .value c, args := #[x], argTypes := ts }) (hcv : a.eval c = .func (.func fid) #[] #[]) {v : Value} (hx : a.eval x = v)
  (he : ∀ args w, (callFunc fid args).run P w = .ok (.enter fid args) w) {R : Ending → World → Prop} (hc : Calls P fid #[v] w R) (hret : ∀ u w', R (.returned u) w' → K (a.put o.dst u) w') (hpan : ∀ ch w', R (.panicked ch) w' → Q (.panic ch) a w') (hout : ∀ w', ¬ R .outgrown w') :
  if Region.wanted o t = true then o.wp P a w K Q else X := by
 refine st_wp hg ?_
 have hr : (execOp a.eval o).run P w = .ok (.enter fid #[v]) w := by
  unfold execOp
  simp [ho, resolve, hcv, hx, Deferred.ofValue, invoke, he]
 unfold Oper.wp
 rw [hr, Oper.upon_enter]
 refine hc.mono ?_
 intro e w' h
 cases e with
 | returned u => exact hret u w' h
 | panicked ch => exact hpan ch w' h
 | outgrown => exact absurd h (hout w')
end ops
theorem mensV_one (L : List Men) : ∀ u ∈ mensV L, u.oneCell' = true := by
 intro u hu
 obtain ⟨m, _, hm⟩ := List.mem_flatMap.1 hu
 exact men_one26 m u hm
def plR (w1 : World) (b1 : Nat) (lv : Value) (n : Nat) (xs : List Value) (x : Men) (ys : List Men) (S : Nat → Bool) (f : Nat → Value) (W : World) : Prop :=
 w1.grownBy W lv.ownBlock ∧ (S 0 = true → f 0 = lv) ∧ (S 1 = true → f 1 = .agg x.cs.toArray) ∧ (S 4 = true → f 4 = .func (.func 152) #[] #[]) ∧ (S 5 = true → f 5 = .agg x.cs.toArray) ∧
 (S 3 = false → W.ownsRow b1 26 12 lv n xs ∧ (S 2 = true → ∃ q, f 2 = .slice (some ⟨q, 0, none⟩) 1 1 ∧ HasO W q (.cells x.cs.toArray 26 (0, 0)))) ∧
 (S 7 = false → (S 3 = true → W.ownsRow b1 26 12 (f 3) (n + 1) (xs ++ x.cs) ∧ ∀ g, (f 3).ownBlock = some g → some g = lv.ownBlock ∨ w1.heap.size ≤ g) ∧ (S 6 = true → W.ownsRow w1.heap.size 26 12 (f 6) ys.length (mensV ys))) ∧
 (S 7 = true → W.ownsRow b1 26 12 (f 7) (n + 1 + ys.length) (xs ++ x.cs ++ mensV ys) ∧ (S 8 = true → f 8 = f 7)) ∧ (S 8 = false → f 8 = lv)
theorem plR_low {w1 W W' : World} {b1 : Nat} {lv : Value} {n : Nat} {xs : List Value} {x : Men} {ys : List Men} {S : Nat → Bool} {f : Nat → Value} (h : plR w1 b1 lv n xs x ys S f W) (hb : Below W.heap.size W W') : plR w1 b1 lv n xs x ys S f W' := by
 obtain ⟨hC, h0, h1, h4, h5, h3, h7, h8, hv⟩ := h
 refine ⟨hC.trans ⟨hb.os, hb.tape, hb.output, hb.size, fun k hk _ => hb.block k hk⟩, h0, h1, h4, h5, fun s3 => ?_, fun s7 => ?_, fun s7 => ?_, hv⟩
 ·obtain ⟨g1, g2⟩ := h3 s3
  exact ⟨own_call g1 hb, fun s2 => by obtain ⟨q, e, hq⟩ := g2 s2; exact ⟨q, e, hq.call hb⟩⟩
 ·obtain ⟨g1, g2⟩ := h7 s7
  exact ⟨fun s3 => ⟨own_call (g1 s3).1 hb, (g1 s3).2⟩, fun s6 => own_call (g2 s6) hb⟩
 ·exact ⟨own_call (h8 s7).1 hb, (h8 s7).2⟩
end Go.Proofs.YtnpomigmeieofaaGreatDoor
