import Derived.Test.YtddkhnnpeonbgaaGreatDoorH02
import Derived.Test.YtddkhnnpeonbgaaGreatDoorH04
import Derived.Test.YtddkhnnpeonbgaaGreatDoorH15
namespace Go.Proofs.YtddkhnnpeonbgaaGreatDoor
open Go.RowKit

theorem conv_at {W : World} {g o n c : Nat} (xs : List Int) (h : ∀ j, j < xs.length → W.cell? ⟨g, o + j, none⟩ = some (.int .u8 (xs[j]?.getD 0))) (hn : n = xs.length) :
  (convert 22 9 (.slice (some ⟨g, o, none⟩) n c)).run Tryz.prog W = .ok (.string (str (toU xs))) W := by
 subst hn
 have hl : (loadCells ⟨g, o, none⟩ xs.length).run Tryz.prog W = .ok (xs.map (Value.int .u8)).toArray W := by
  have := run_loadCells_list (P := Tryz.prog) (w := W) ⟨g, o, none⟩ (xs.map (Value.int .u8)) (fun j v hv => by
   rw [Addr.add_lit]
   have hj : j < xs.length := by
    have := (List.getElem?_eq_some_iff.1 hv).1; simpa using this
   rw [h j hj]
   simp [hj] at hv ⊢
   exact hv)
  simpa using this
 rw [run_convert_bytes_string W 22 9 5 _ _ _ Tryz.underlying22 Tryz.underlying5 Tryz.underlying9, run_bytesToString W _ _ _ xs hl, foldl_str]
 rfl

def ReadR (w : World) (bs : List Int) (g o c : Nat) (e : Ending) (w' : World) : Prop :=
 Below w.heap.size w w' ∧ ((headM bs = none ∧ e = .panicked badP) ∨ ∃ m q1 q2 a, headM bs = some m ∧ headP bs ≤ bs.length ∧
  e = .returned (.tuple #[.agg m.cs.toArray, .int .i64 (countN m), .func (.func 94) #[] #[.pointer (some ⟨q1, 0, none⟩), .pointer (some ⟨q2, 0, none⟩)]]) ∧
  HasO w' q1 (.cells #[.slice (some ⟨g, a, none⟩) (bs.length - headP bs) (c - headP bs)] 22 (0, 0)) ∧ (headP bs < c → a = o + headP bs) ∧ HasO w' q2 (.cells #[.int .i64 (countN m)] 3 (0, 0)) ∧ w.heap.size ≤ q1 ∧ w.heap.size ≤ q2 ∧ q1 ≠ q2)

set_option maxHeartbeats 2000000 in
set_option maxRecDepth 100000 in
theorem read_any (g o c : Nat) (bs : List Int) (w : World) (hx : Arr .u8 w (some ⟨g, o, none⟩) bs) (hbs : isBytes bs) (h0 : 0 < bs.length) (hl : bs.length ≤ 2000000) (hc : bs.length ≤ c) (hm : MaxOk w) :
  Calls Tryz.prog 50 #[.slice (some ⟨g, o, none⟩) bs.length c] w (ReadR w bs g o c) := by
 have hms : 1 < w.heap.size := by obtain ⟨_, _, h⟩ := hm; exact h
 obtain ⟨L, hL⟩ : ∃ L : Nat, atv bs 0 = (L : Int) := ⟨(atv bs 0).toNat, by have := atv_bd hbs 0; omega⟩
 have hLb : (L : Int) < 256 := by have := atv_bd hbs 0; omega
 have hP : headP bs = 1 + L := by unfold headP; rw [hL]; omega
 obtain ⟨g', o', ea, hgl, hcell⟩ := hx.at h0
 injection ea with ea
 injection ea with ea1 ea2
 subst ea1; subst ea2
 have hmx : MaxOk ((w.alloc (.cells #[.slice (some ⟨g, o, none⟩) bs.length c] 22)).alloc (.cells zeroMen.cs.toArray 41)) := MaxOk.call (MaxOk.call hm (below_box _ _) hms) (below_box _ _) (by simp; omega)
 have hq : HasO ((w.alloc (.cells #[.slice (some ⟨g, o, none⟩) bs.length c] 22)).alloc (.cells zeroMen.cs.toArray 41)) w.heap.size (.cells #[.slice (some ⟨g, o, none⟩) bs.length c] 22 (0, 0)) := (HasO.new _ _).alloc _
 have hr : HasO ((w.alloc (.cells #[.slice (some ⟨g, o, none⟩) bs.length c] 22)).alloc (.cells zeroMen.cs.toArray 41)) (w.heap.size + 1) (.cells zeroMen.cs.toArray 41 (0, 0)) := HasO.new' _ _ (by simp)
 have hb := (below_box w (.cells #[.slice (some ⟨g, o, none⟩) bs.length c] 22)).alloc (by simp) (.cells zeroMen.cs.toArray 41)
 replace hL := Lib.hid hL
 replace hP := Lib.hid hP
 go_enter Tryz.func50, Tryz.ntmps50
 go_wp2_with fail
 refine (take_ok _ g o bs.length c 1 _ hq (by omega) hc).mono ?_
 rintro e w1 ⟨rfl, rfl⟩
 have hb1 := hb.setCell (p := ⟨w.heap.size, 0, none⟩) (Nat.le_refl _) (.slice (some ⟨g, adv o 1 c, none⟩) (bs.length - 1) (c - 1))
 have hr1 := hr.far (p := ⟨w.heap.size, 0, none⟩) (by simp) (.slice (some ⟨g, adv o 1 c, none⟩) (bs.length - 1) (c - 1))
 have hq1 : HasO _ _ (.cells #[.slice (some ⟨g, adv o 1 c, none⟩) (bs.length - 1) (c - 1)] 22 (0, 0)) := hq.set_ 0 (.slice (some ⟨g, adv o 1 c, none⟩) (bs.length - 1) (c - 1))
 have hm1 := maxOk_set hmx (p := ⟨w.heap.size, 0, none⟩) (u := .slice (some ⟨g, adv o 1 c, none⟩) (bs.length - 1) (c - 1)) hms
 generalize ((w.alloc (.cells #[.slice (some ⟨g, o, none⟩) bs.length c] 22)).alloc (.cells zeroMen.cs.toArray 41)).setCell ⟨w.heap.size, 0, none⟩ (.slice (some ⟨g, adv o 1 c, none⟩) (bs.length - 1) (c - 1)) = w1 at *
 clear hb hq hr hmx
 have hc0 : w1.cell? ⟨g, o, none⟩ = some (.int .u8 (L : Int)) := by
  have h1 := (hx.call hb1).at h0
  obtain ⟨g', o', ea, _, hc2⟩ := h1
  injection ea with ea
  injection ea with ea1 ea2
  subst ea1; subst ea2
  have := hc2 0 h0
  rw [← hL.out]; exact this
 go_wp2_with fail
 by_cases hL2 : 1 + L ≤ bs.length
 ·refine (take_ok _ g (adv o 1 c) (bs.length - 1) (c - 1) L _ hq1 (by omega) (by omega)).mono ?_
  rintro e w2 ⟨rfl, rfl⟩
  obtain ⟨a2, ha2⟩ : ∃ x, x = adv (adv o 1 c) L (c - 1) := ⟨_, rfl⟩
  rw [← ha2]
  have ha3 : 1 + L < c → a2 = o + (1 + L) := by
   intro h
   rw [ha2]
   unfold adv
   rw [if_neg (by omega), if_neg (by omega)]; omega
  replace ha2 := Lib.hid ha2
  replace ha3 := Lib.hid ha3
  have hb2 := hb1.setCell (p := ⟨w.heap.size, 0, none⟩) (Nat.le_refl _) (.slice (some ⟨g, a2, none⟩) (bs.length - 1 - L) (c - 1 - L))
  have hr2 := hr1.far (p := ⟨w.heap.size, 0, none⟩) (by simp) (.slice (some ⟨g, a2, none⟩) (bs.length - 1 - L) (c - 1 - L))
  have hq2 : HasO _ _ (.cells #[.slice (some ⟨g, a2, none⟩) (bs.length - 1 - L) (c - 1 - L)] 22 (0, 0)) := hq1.set_ 0 (.slice (some ⟨g, a2, none⟩) (bs.length - 1 - L) (c - 1 - L))
  have hm2 := maxOk_set hm1 (p := ⟨w.heap.size, 0, none⟩) (u := .slice (some ⟨g, a2, none⟩) (bs.length - 1 - L) (c - 1 - L)) hms
  generalize w1.setCell ⟨w.heap.size, 0, none⟩ (.slice (some ⟨g, a2, none⟩) (bs.length - 1 - L) (c - 1 - L)) = w2 at *
  clear hb1 hq1 hr1 hm1 hc0
  rw [show bs.length - 1 - L = bs.length - headP bs by rw [hP.out]; omega, show c - 1 - L = c - headP bs by rw [hP.out]; omega] at hq2
  have hxl : ((bs.drop 1).take L).length = L := by simp; omega
  have hcv := conv_at (W := w2) (g := g) (o := adv o 1 c) (n := L) (c := c - 1) ((bs.drop 1).take L) (by
   intro j hj
   rw [hxl] at hj
   have h1 := (hx.call hb2).at h0
   obtain ⟨g', o', ea, _, hc2⟩ := h1
   injection ea with ea
   injection ea with ea1 ea2
   subst ea1; subst ea2
   have := hc2 (1 + j) (by omega)
   have e1 : adv o 1 c = o + 1 := by unfold adv; rw [if_neg (by omega)]
   rw [e1, Nat.add_assoc, this]
   rw [List.getElem?_take_of_lt hj, List.getElem?_drop]) hxl.symm
  have htl : (toU ((bs.drop 1).take L)).length ≤ 2000000 := by unfold toU; rw [List.length_map, hxl]; omega
  have hM : headM bs = match parseC (toU ((bs.drop 1).take L)) with | none => none | some m => if countN m ≤ 262144 then some m else none := by
   unfold headM
   rw [if_neg (by omega), if_neg (by rw [hL.out]; omega), hL.out]; rfl
  replace hM := Lib.hid hM
  generalize toU ((bs.drop 1).take L) = tx at *
  clear hxl
  go_wp2_with fail
  refine (parse_any tx _ htl hm2).mono ?_
  rintro e w3 ⟨rfl, hb3⟩
  clear hcv
  have hb4 := below_call hb2 hb2.size hb3
  have hr3 := hr2.call hb3
  have hq3 := hq2.call hb3
  clear hb2 hr2 hq2 hb3 hm2
  rcases hpc : parseC tx with _ | m
  ·have hM2 : headM bs = none := by rw [hM.out, hpc]
   replace hpc := Lib.hid hpc
   have hpv : parseV tx = .tuple #[.agg zeroMen.cs.toArray, .int .i64 6] := by unfold parseV; rw [hpc.out]
   rw [hpv]
   replace hpv := Lib.hid hpv
   go_wp2_with fail
   refine (must_bad _).mono ?_
   rintro e w5 ⟨rfl, rfl⟩
   exact ⟨rfl, hb4.alloc hb4.size _, .inl ⟨hM2, rfl⟩⟩
  ·have hval := (parse_some hpc).1
   have hpv : parseV tx = .tuple #[.agg m.cs.toArray, .int .i64 0] := by unfold parseV; rw [hpc]
   have hM2 : headM bs = if countN m ≤ 262144 then some m else none := by rw [hM.out, hpc]
   rw [hpv]
   replace hpv := Lib.hid hpv
   replace hpc := Lib.hid hpc
   replace hM2 := Lib.hid hM2
   go_wp2_with fail
   refine (must_ok _).mono ?_
   rintro e w5 ⟨rfl, rfl⟩
   have hm5 := HasO.new w3 (.cells m.cs.toArray 41)
   have hq5 := hq3.alloc (.cells m.cs.toArray 41)
   have hr5 := hr3.alloc (.cells m.cs.toArray 41)
   have hb5 := hb4.alloc hb4.size (.cells m.cs.toArray 41)
   have hz3 : w.heap.size + 1 < w3.heap.size := hr3.lt
   clear hq3 hr3 hb4
   go_wp2_with fail
   refine (Count_any m _).mono ?_
   rintro e w6 ⟨rfl, hb6⟩
   have hm6 := hm5.call hb6
   have hq6 := hq5.call hb6
   have hr6 := hr5.call hb6
   have hb7 := below_call hb5 hb5.size hb6
   have hz6 := hm6.lt
   clear hm5 hq5 hr5 hb5 hb6
   have hce : cntE m = if countN m ≤ 1048576 then ((countN m : Int), 0) else (0, 7) := by
    unfold cntE
    have hval := hval
    simp only [hval, if_true]
   replace hval := Lib.hid hval
   by_cases hn1 : countN m ≤ 1048576
   ·rw [if_pos hn1] at hce
    rw [hce]
    replace hce := Lib.hid hce
    by_cases hn2 : countN m ≤ 262144
    ·have hM3 : headM bs = some m := by rw [hM2.out, if_pos hn2]
     have hn3 : (countN m : Int) ≤ 262144 := by omega
     replace hM3 := Lib.hid hM3
     simp only []
     go_wp2_with fail
     refine (must_ok _).mono ?_
     rintro e w8 ⟨rfl, rfl⟩
     have hn9 := HasO.new w6 (.cells #[.int .i64 (countN m)] 3)
     have hm9 := hm6.alloc (.cells #[.int .i64 (countN m)] 3)
     have hq9 := hq6.alloc (.cells #[.int .i64 (countN m)] 3)
     have hr9 := hr6.alloc (.cells #[.int .i64 (countN m)] 3)
     have hb9 := hb7.alloc hb7.size (.cells #[.int .i64 (countN m)] 3)
     generalize w6.alloc (.cells #[.int .i64 (countN m)] 3) = w9 at *
     go_wp2_with fail
     refine wp_region_chain (by kernel_rfl) (by kernel_rfl) [some 35, some 36, some 37, none, some 3, some 4] (by rfl) (by rfl) [3] (by kernel_rfl) (by decide) (by decide)
      [.agg m.cs.toArray, .int .i64 (countN m), .func (.func 94) #[] #[.pointer (some ⟨w.heap.size, 0, none⟩), .pointer (some ⟨w6.heap.size, 0, none⟩)], undef, .int .i64 (countN m), .func (.func 94) #[] #[.pointer (some ⟨w.heap.size, 0, none⟩), .pointer (some ⟨w6.heap.size, 0, none⟩)]]
      (fun k => if k = 0 then w9.drew else w9.drew.setRow (w.heap.size + 1) m.cs.toArray) rfl ?hstep ?hturn ?hend
     case hstep =>
      intro i o f k ho hi hmem _ hf K hK
      have hi : i < 6 := hi
      have hA : ∃ W, W = (if k = 0 then w9.drew else w9.drew.setRow (w.heap.size + 1) m.cs.toArray) ∧ HasO W w3.heap.size (.cells m.cs.toArray 41 (0, 0)) ∧ HasO W w6.heap.size (.cells #[.int .i64 (countN m)] 3 (0, 0)) := by
       by_cases e : k = 0
       ·exact ⟨_, rfl, by rw [if_pos e]; exact hm9.drew, by rw [if_pos e]; exact hn9.drew⟩
       ·exact ⟨_, rfl, by rw [if_neg e]; exact hm9.drew.setRow_far (by omega), by rw [if_neg e]; exact hn9.drew.setRow_far (by omega)⟩
      obtain ⟨W, hW, hA1, hA2⟩ := hA
      rw [← hW] at hK ⊢
      have hA3 := hA2.cells 0
      clear hW
      rcases (by simp at hmem; omega : i = 0 ∨ i = 1 ∨ i = 2 ∨ i = 4 ∨ i = 5) with rfl | rfl | rfl | rfl | rfl
      ·exact st_loadA (og ho rfl) 41 (.tmp 6) (oo ho rfl) (rd_out rfl rfl) m.cs (by kernel_rfl) (fun j v hv => by rw [Nat.zero_add, hA1.cells j]; simpa using hv) hK
      ·exact st_loadS (og ho rfl) 3 (.tmp 8) (oo ho rfl) (rd_out rfl rfl) (by kernel_rfl) hA3 hK
      ·exact st_makeFunc2 (og ho rfl) (.func 94) (.tmp 1) (.tmp 8) (oo ho rfl) (rd_out rfl rfl) (rd_out rfl rfl) hK
      ·exact st_assign (og ho rfl) (.tmp 36) (oo ho rfl) (ri 1 (hf ⟨1, .data⟩ (oa ho rfl) rfl)) hK
      ·exact st_assign (og ho rfl) (.tmp 37) (oo ho rfl) (ri 2 (hf ⟨2, .data⟩ (oa ho rfl) rfl)) hK
     case hturn =>
      intro i o f k ho hst hf K hK
      obtain rfl : k = 0 := by have := (List.getElem?_eq_some_iff.1 hst).1; simp at this; exact this
      obtain rfl : i = 3 := by simp at hst; exact hst.symm
      exact st_storeO (og ho rfl) 41 (.tmp 2) (.tmp 35) (oo ho rfl) (rd_out rfl rfl) m.cs.toArray zeroMen.cs.toArray 41
       (ri 0 (hf ⟨0, .data⟩ (oa ho rfl) rfl)) hr9.drew (by kernel_rfl) rfl (men_one m) hK
     case hend =>
      have eW : (if ([3] : List Nat).length = 0 then w9.drew else w9.drew.setRow (w.heap.size + 1) m.cs.toArray) = w9.drew.setRow (w.heap.size + 1) m.cs.toArray := rfl
      rw [eW]
      have hrE := setRow_hasO (cells := m.cs.toArray) hr9.drew
      have hqE := hq9.drew.setRow_far (g := w.heap.size + 1) (cells := m.cs.toArray) (by omega)
      have hnE := hn9.drew.setRow_far (g := w.heap.size + 1) (cells := m.cs.toArray) (by omega)
      have hbE := setRow_below (g := w.heap.size + 1) (cells := m.cs.toArray) hb9.drew (by omega) hb9.size
      generalize w9.drew.setRow (w.heap.size + 1) m.cs.toArray = wE at *
      simp only [putL, List.getD_cons_zero, List.getD_cons_succ]
      go_wp2_with fail
      refine bodyPost_ret (results_ctt (fn := Tryz.f50) Tryz.results50 rfl hrE (by kernel_rfl) rfl) rfl ?_
      refine ⟨hbE, .inr ⟨m, w.heap.size, w6.heap.size, a2, hM3.out, by rw [hP.out]; omega, rfl, hqE, ?_, hnE, Nat.le_refl _, by omega, by omega⟩⟩
      rw [hP.out]; exact ha3.out
    ·have hM3 : headM bs = none := by rw [hM2.out, if_neg hn2]
     have hn3 : ¬ (countN m : Int) ≤ 262144 := by omega
     simp only []
     go_wp2_with fail
     refine (must_bad _).mono ?_
     rintro e w8 ⟨rfl, rfl⟩
     exact ⟨rfl, hb7.alloc hb7.size _, .inl ⟨hM3, rfl⟩⟩
   ·rw [if_neg hn1] at hce
    rw [hce]
    replace hce := Lib.hid hce
    have hM3 : headM bs = none := by rw [hM2.out, if_neg (by omega)]
    simp only []
    go_wp2_with fail
    refine (must_bad _).mono ?_
    rintro e w8 ⟨rfl, rfl⟩
    exact ⟨rfl, hb7.alloc hb7.size _, .inl ⟨hM3, rfl⟩⟩
 ·refine (take_bad _ g (adv o 1 c) (bs.length - 1) (c - 1) L _ hq1 (by omega)).mono ?_
  rintro e w2 ⟨rfl, rfl⟩
  refine ⟨rfl, hb1, .inl ⟨?_, rfl⟩⟩
  unfold headM
  rw [if_neg (by omega), if_pos (by rw [hL.out]; omega)]
end Go.Proofs.YtddkhnnpeonbgaaGreatDoor
namespace Go.Proofs.YtddkhnnpeonbgaaGreatDoor
open Go.RowKit

def SeqF (P : Program) (gf : Nat) (lb : Array Value) (N : Nat) (encs : Nat → Array Value) (Rd : World → Prop) (Pn : Nat → List PanicEntry → Prop) (T : TypeId → Prop) (Fin : Prop) : Prop :=
 ∀ (n l : Nat) (J : Nat → Nat → World → Prop) (Jx : Nat → Nat → World → Prop) (W0 : World),
  (∀ c k W W', W0.heap.size ≤ c → J c k W → Alt W0.heap.size c W W' → J c k W') →
  (∀ c k W W', W0.heap.size ≤ c → Jx c k W → Alt W0.heap.size c W W' → Jx c k W') →
  (∀ c k W, J c k W → Rd W) → (∀ c k W, J c k W → c ≤ W.heap.size) → (∀ c k W, Jx c k W → c ≤ W.heap.size) →
  (∀ c W, Below W0.heap.size W0 W → W0.heap.size ≤ c → W.heap.size = c → J c 0 W) →
  (∀ c k W, W0.heap.size ≤ c → k < N → J c k W → OwnT T W0.heap.size c W → YieldAt Fence.wide n P l (encs k) W fun e W' => (e = .returned (.bool true) ∧ J c (k + 1) W' ∧ (∀ q o, W0.heap.size ≤ q → q < c → HasO W q o → HasO W' q o)) ∨ (e = .returned (.bool false) ∧ Jx c k W')) →
  CallsIn Fence.wide n P gf (#[.func (.yield l) #[] #[]] ++ lb) W0 fun e W' => ∃ c, W0.heap.size ≤ c ∧ (((∃ v, e = .returned v) ∧ ((Fin ∧ J c N W') ∨ ∃ k, k < N ∧ Jx c k W')) ∨ (∃ ch k, e = .panicked ch ∧ Pn k ch ∧ J c k W'))

theorem rangeFunc_lawF {n : Nat} {P : Program} {g : Operand} {ps : Array Tmp} {assign body : Code} {Q : Exit → Act → World → Prop} {a : Act} {w : World}
  {gf : Nat} {lb : Array Value} {N : Nat} {encs : Nat → Array Value} {Rd : World → Prop} {Pn : Nat → List PanicEntry → Prop} {T : TypeId → Prop} {Fin : Prop}
  (hg : a.eval g = .func (.func gf) #[] lb) (eg : ∀ args w, (callFunc gf args).run P w = .ok (.enter gf args) w)
  (hseq : SeqF P gf lb N encs Rd Pn T Fin) (hps : ∀ k, k < N → (encs k).size = ps.size)
  (I : Nat → Nat → World → Prop) (Ix : Nat → Code → Nat → World → Prop)
  (hst : ∀ c k W W', w.heap.size + 2 ≤ c → I c k W → Alt w.heap.size c W W' → I c k W')
  (hstx : ∀ c j k W W', w.heap.size + 2 ≤ c → Ix c j k W → Alt w.heap.size c W W' → Ix c j k W')
  (hRd : ∀ c k W, w.heap.size + 2 ≤ c → I c k W → Rd W) (hsz : ∀ c k W, w.heap.size + 2 ≤ c → I c k W → c ≤ W.heap.size) (hszx : ∀ c j k W, w.heap.size + 2 ≤ c → Ix c j k W → c ≤ W.heap.size)
  (h0 : ∀ c W, Below w.heap.size w W → w.heap.size + 2 ≤ c → W.heap.size = c → I c 0 W)
  (hbody : ∀ c k W, w.heap.size + 2 ≤ c → k < N → I c k W → OwnT T w.heap.size c W →
   assign.wpIn (Fence.wide.inRound (w.heap.size + 1)) n P (Exit.then (fun a₁ W₁ => (∀ q o, (w.heap.size ≤ q ∧ q < c) → HasO W q o → HasO W₁ q o) ∧
     ∀ W₂, Alt (w.heap.size + 1) (w.heap.size + 2) W₁ W₂ → W₂.heap.size = W₁.heap.size → (∃ r, HasO W₂ (w.heap.size + 1) (.loop r)) →
      body.wpIn (Fence.wide.inRound (w.heap.size + 1)) n P (bodyI (w.heap.size + 1) w.heap.size (I c) (fun j => Ix c j k) k (fun D q => D + 2 ≤ q ∧ q < c) W₂) a₁ W₂) (fun _ _ _ => False))
    { tmps := (ps.zip (encs k)).foldl (fun t (p, v) => t.setIfInBounds p v) a.tmps, defers := [] } W)
  (hdone : ∀ c W, Fin → w.heap.size + 2 ≤ c → I c N W → HasO W w.heap.size (.deferred (some [])) → Q .normal { a with defers := { target := .collected w.heap.size, args := #[] } :: a.defers } W)
  (hstop : ∀ c j k W, w.heap.size + 2 ≤ c → k < N → Ix c j k W → HasO W w.heap.size (.deferred (some [])) → j.wpIn Fence.wide n P Q { a with defers := { target := .collected w.heap.size, args := #[] } :: a.defers } W)
  (hpanic : ∀ c k ch W, w.heap.size + 2 ≤ c → Pn k ch → I c k W → HasO W w.heap.size (.deferred (some [])) → Q (.panic ch) { a with defers := { target := .collected w.heap.size, args := #[] } :: a.defers } W) :
  (Code.rangeFunc g ps assign body).wpIn Fence.wide n P Q a w := by
 refine wpIn_rangeFunc ?_
 intro fn hfn
 obtain ⟨rec, hrec⟩ : ∃ rec : LoopState → Option Code → Loop, rec = fun st pe => { state := st, pending := pe, fn, tmps := a.tmps, params := ps, assign, body, defers := w.heap.size } := ⟨_, rfl⟩
 obtain ⟨W1, hW1⟩ : ∃ W1, (w.alloc (.deferred (some []))).alloc (.loop (rec .ready none)) = W1 := ⟨_, rfl⟩
 have hL1 : HasO W1 (w.heap.size + 1) (.loop (rec .ready none)) := by rw [← hW1]; exact HasO.new' _ _ (by simp)
 have hK1 : HasO W1 w.heap.size (.deferred (some [])) := by rw [← hW1]; exact (HasO.new _ _).alloc _
 have hb1 : Below w.heap.size w W1 := by rw [← hW1]; exact (below_box _ _).alloc (by simp) _
 have hz1 : W1.heap.size = w.heap.size + 2 := by rw [← hW1]; simp
 refine ⟨w.heap.size + 1, [{ target := .collected w.heap.size, args := #[] }], W1, { target := .fn (.func gf) lb, args := #[.func (.yield (w.heap.size + 1)) #[] #[]] }, W1, gf,
  #[.func (.yield (w.heap.size + 1)) #[] #[]] ++ lb, W1, ?_, ?_, ?_, ?_, fun h => by simp [Fence.wide] at h, ?_⟩
 ·rw [← hW1, hrec]; exact run_enterLoop_outer _ _ _ _ _
 ·simp only [resolve, hg]
  simp [go_sem]
 ·intro f' _; trivial
 ·simp [invoke, go_sem, eg]
 ·refine (callsIn_wide.2 (callsIn_wide.1 (hseq n (w.heap.size + 1)
   (fun c k W => I c k W ∧ w.heap.size + 2 ≤ c ∧ HasO W (w.heap.size + 1) (.loop (rec .ready none)) ∧ HasO W w.heap.size (.deferred (some [])))
   (fun c k W => ∃ j, Ix c j k W ∧ w.heap.size + 2 ≤ c ∧ HasO W (w.heap.size + 1) (.loop (rec .done (some j))) ∧ HasO W w.heap.size (.deferred (some [])))
   W1 ?_ ?_ ?_ ?_ ?_ ?_ ?_))).mono ?_
  ·rintro c k W W' hc ⟨hi, h2, hl, hd⟩ ha
   rw [hz1] at ha
   exact ⟨hst c k W W' h2 hi (ha.mono (by omega) (Nat.le_refl _)), h2, ha.hasO hl (by omega), ha.hasO hd (by omega)⟩
  ·rintro c k W W' hc ⟨j, hi, h2, hl, hd⟩ ha
   rw [hz1] at ha
   exact ⟨j, hstx c j k W W' h2 hi (ha.mono (by omega) (Nat.le_refl _)), h2, ha.hasO hl (by omega), ha.hasO hd (by omega)⟩
  ·rintro c k W ⟨hi, h2, _⟩; exact hRd c k W h2 hi
  ·rintro c k W ⟨hi, h2, _⟩; exact hsz c k W h2 hi
  ·rintro c k W ⟨j, hi, h2, _⟩; exact hszx c j k W h2 hi
  ·intro c W hb hc hs
   rw [hz1] at hc
   exact ⟨h0 c W (hb1.trans (hb.mono (by omega))) hc hs, hc, hL1.call hb, hK1.call hb⟩
  ·rintro c k W hc hk ⟨hi, h2, hl, hd⟩ hT
   have hy := run_yield (P := P) (args := encs k) hl (by rw [hrec]; exact hps k hk)
   rw [hrec] at hy
   have hT2 : OwnT T w.heap.size c W := by
    intro q hq1 hq2
    rcases (by omega : q = w.heap.size ∨ q = w.heap.size + 1 ∨ w.heap.size + 2 ≤ q) with rfl | rfl | h3
    ·exact ⟨_, hd, by simp⟩
    ·exact ⟨_, hl, by simp⟩
    ·exact hT q (by omega) hq2
   refine ⟨fn, _, assign, body, hy, roundIn_of_wpIn hfn (wpIn_mono (hbody c k W h2 hk hi hT2) ?_)⟩
   intro e a₁ W₁ he
   cases e with
   | normal =>
    obtain ⟨hkeep, hgo⟩ := he
    have hl1 := hkeep _ _ (by omega) hl
    have hd1 := hkeep _ _ (by omega) hd
    refine ⟨_, run_beginRound (P := P) hl1 (by rw [hrec]), ?_⟩
    have hl2 : HasO (W₁.putObj (w.heap.size + 1) (.loop { rec .ready none with state := .busy })) (w.heap.size + 1) (.loop { rec .ready none with state := .busy }) := World.putObj_heap_same hl1.lt
    have hd2 : HasO (W₁.putObj (w.heap.size + 1) (.loop { rec .ready none with state := .busy })) w.heap.size (.deferred (some [])) := (World.putObj_heap_other (by omega)).trans hd1
    refine wpIn_mono (hgo _ (Alt.putObj ⟨Nat.le_refl _, by omega⟩) (by simp) ⟨_, hl2⟩) ?_
    have fin : ∀ (jump : Option Code) (W3 : World), (∀ q o, (q = w.heap.size + 1 ∨ q = w.heap.size) → HasO (W₁.putObj (w.heap.size + 1) (.loop { rec .ready none with state := .busy })) q o → HasO W3 q o) →
      (Instr.endRound (w.heap.size + 1) jump).run P W3 = .ok (.bool jump.isNone) (W3.putObj (w.heap.size + 1) (.loop (rec (if jump.isNone then .ready else .done) jump))) ∧
      HasO (W3.putObj (w.heap.size + 1) (.loop (rec (if jump.isNone then .ready else .done) jump))) (w.heap.size + 1) (.loop (rec (if jump.isNone then .ready else .done) jump)) ∧
      HasO (W3.putObj (w.heap.size + 1) (.loop (rec (if jump.isNone then .ready else .done) jump))) w.heap.size (.deferred (some [])) := fun jump W3 hk3 => by
     have hl3 := hk3 _ _ (.inl rfl) hl2
     have hd3 := hk3 _ _ (.inr rfl) hd2
     have := run_endRound (P := P) jump hl3
     rw [hrec] at this ⊢
     exact ⟨this, World.putObj_heap_same hl3.lt, (World.putObj_heap_other (by omega)).trans hd3⟩
    rintro e a3 W3 hp
    cases e with
    | normal =>
     obtain ⟨hk3, hi3⟩ := hp
     obtain ⟨hr, hl4, hd4⟩ := fin none W3 (fun q o hq => hk3 q o (by rcases hq with h | h <;> simp [h]))
     refine ⟨_, _, hr, .inl ⟨rfl, ⟨hst c _ _ _ h2 hi3 (Alt.putObj (by omega)), h2, hl4, hd4⟩, fun q o hq1 hq2 hq => ?_⟩⟩
     rw [hz1] at hq1
     refine (World.putObj_heap_other (by omega)).trans (hk3 q o (.inr (.inr ⟨hq1, hq2⟩)) ?_)
     exact (World.putObj_heap_other (by omega)).trans (hkeep q o ⟨by omega, hq2⟩ hq)
    | ret =>
     obtain ⟨hk3, hi3⟩ := hp
     obtain ⟨hr, hl4, hd4⟩ := fin (some .ret) W3 hk3
     exact ⟨_, _, hr, .inr ⟨rfl, .ret, hstx c _ _ _ _ h2 hi3 (Alt.putObj (by omega)), h2, hl4, hd4⟩⟩
    | exit id =>
     obtain ⟨hk3, hi3⟩ := hp
     obtain ⟨hr, hl4, hd4⟩ := fin (some (.exit id)) W3 hk3
     exact ⟨_, _, hr, .inr ⟨rfl, .exit id, hstx c _ _ _ _ h2 hi3 (Alt.putObj (by omega)), h2, hl4, hd4⟩⟩
    | goto t =>
     obtain ⟨hk3, hi3⟩ := hp
     obtain ⟨hr, hl4, hd4⟩ := fin (some (.goto t)) W3 hk3
     exact ⟨_, _, hr, .inr ⟨rfl, .goto t, hstx c _ _ _ _ h2 hi3 (Alt.putObj (by omega)), h2, hl4, hd4⟩⟩
    | panic ch => exact hp.elim
    | outgrown => exact hp.elim
   | ret => exact he.elim
   | exit id => exact he.elim
   | goto t => exact he.elim
   | panic ch => exact he.elim
   | outgrown => exact he.elim
  ·rintro e W2 ⟨c, hc, (⟨⟨v, rfl⟩, (⟨hF, hi, h2, hl, hd⟩ | ⟨k, hk, j, hi, h2, hl, hd⟩)⟩ | ⟨ch, k, rfl, hp, hi, h2, hl, hd⟩)⟩
   ·exact ⟨none, _, by have := run_endLoop (P := P) hl (by rw [hrec]; simp); rw [hrec] at this; exact this, hdone c _ hF h2 (hst c _ _ _ h2 hi (Alt.putObj (by omega))) ((World.putObj_heap_other (by omega)).trans hd)⟩
   ·exact ⟨some j, _, by have := run_endLoop (P := P) hl (by rw [hrec]; simp); rw [hrec] at this; exact this, hstop c j k _ h2 hk (hstx c _ _ _ _ h2 hi (Alt.putObj (by omega))) ((World.putObj_heap_other (by omega)).trans hd)⟩
   ·exact hpanic c k ch _ h2 hp hi hd
end Go.Proofs.YtddkhnnpeonbgaaGreatDoor
