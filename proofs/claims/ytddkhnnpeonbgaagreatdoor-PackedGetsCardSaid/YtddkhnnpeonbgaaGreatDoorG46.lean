import Derived.Test.YtddkhnnpeonbgaaGreatDoorG20
import Derived.Test.YtddkhnnpeonbgaaGreatDoorG43
import Derived.Test.YtddkhnnpeonbgaaGreatDoorG44
import Derived.Test.YtddkhnnpeonbgaaGreatDoorG45
namespace Go.Proofs.YtddkhnnpeonbgaaGreatDoor
open Go.RowKit

def lookV (bs : List Int) (f r : Int) (xs : List Int) (bl : Bool) (ca pa ha fu : Int) : Int × Int :=
  if pvB f r xs bl ca pa ha fu then (match outM bs with
    | none => (0, 6)
    | some m => if (numE f r xs bl ca pa ha fu).2 ≠ 0 then (0, (numE f r xs bl ca pa ha fu).2) else if ofM f r xs xs.length ≠ m then (0, 9) else getV bs (numE f r xs bl ca pa ha fu).1) else (0, 2)
theorem numE_ok {f r : Int} {xs : List Int} {bl : Bool} {ca pa ha fu : Int} (h : (numE f r xs bl ca pa ha fu).2 = 0) : pvB f r xs bl ca pa ha fu = true ∧ validB (ofM f r xs xs.length) = true := by
  unfold numE at h
  rcases h1 : pvB f r xs bl ca pa ha fu with _ | _
  · rw [h1] at h; simp at h
  · rcases h2 : validB (ofM f r xs xs.length) with _ | _
    · rw [h1, h2] at h; simp at h
    · exact ⟨rfl, rfl⟩
theorem look_pos {bs : List Int} {f r : Int} {xs : List Int} {bl : Bool} {ca pa ha fu : Int} {m : Men} {n e : Int} (h : pvB f r xs bl ca pa ha fu = true) (hM : outM bs = some m) (hn : numE f r xs bl ca pa ha fu = (n, e)) :
    lookV bs f r xs bl ca pa ha fu = if e ≠ 0 then (0, e) else if ofM f r xs xs.length ≠ m then (0, 9) else getV bs n := by
  unfold lookV; rw [h, hM, hn]; rfl
set_option maxRecDepth 100000 in
set_option maxHeartbeats 3200000 in
theorem look_any (f r ca pa ha fu : Int) (bl : Bool) (p : Option Addr) (c : Nat) (xs : List Int) (hca : 0 ≤ ca ∧ ca < 256) (hl : xs.length ≤ 1000) (hcap : xs.length ≤ c) (h8 : ∀ x ∈ xs, -128 ≤ x ∧ x ≤ 127)
    (pb : Option Addr) (cb : Nat) (bs : List Int) (hbs : isBytes bs) (hlb : bs.length ≤ 2000000) (hcb : bs.length ≤ cb) (w : World) (hg : GlobOk w) (hm : MaxOk w) (hx : Arr .i8 w p xs) (hb : Arr .u8 w pb bs) :
    Calls Tryz.prog 8 #[.slice pb bs.length cb, .agg (posCs f r p xs.length c bl ca pa ha fu).toArray] w fun e w' => e = .returned (.tuple #[.int .i16 (lookV bs f r xs bl ca pa ha fu).1, .int .i64 (lookV bs f r xs bl ca pa ha fu).2]) ∧ Below w.heap.size w w' := by
  have hms : 1 < w.heap.size := by obtain ⟨_, _, h⟩ := hm; exact h
  have hA := HasO.new w (.cells (posCs f r p xs.length c bl ca pa ha fu).toArray 27)
  have hB := below_box w (.cells (posCs f r p xs.length c bl ca pa ha fu).toArray 27)
  have hpv := fun W hg hx => posValid_any f r ca pa ha fu bl p c xs hca hl hcap W hg hx
  rw [pv_eq] at hpv
  have hnu := fun W hg hx => idxNumber_any f r ca pa ha fu bl p c xs hca hl hcap h8 (fun h1 _ => ⟨(pv_fac h1).2.1, (pv_fac h1).2.2⟩) W hg hx
  have hofp := fun W hg hx => idxOfP_any f r ca pa ha fu bl p c xs hca hl hcap h8 W hg hx
  have hnok := numE_ok (f := f) (r := r) (xs := xs) (bl := bl) (ca := ca) (pa := pa) (ha := ha) (fu := fu)
  have hlp := fun m n e => look_pos (bs := bs) (f := f) (r := r) (xs := xs) (bl := bl) (ca := ca) (pa := pa) (ha := ha) (fu := fu) (m := m) (n := n) (e := e)
  have hl0 : pvB f r xs bl ca pa ha fu = false → lookV bs f r xs bl ca pa ha fu = (0, 2) := fun h => by unfold lookV; rw [h]; rfl
  have hl6 : pvB f r xs bl ca pa ha fu = true → outM bs = none → lookV bs f r xs bl ca pa ha fu = (0, 6) := fun h h2 => by unfold lookV; rw [h, h2]; rfl
  have hOf : pvB f r xs bl ca pa ha fu = true → validB (ofM f r xs xs.length) = true → ofV f r xs bl ca pa ha fu = .tuple #[.agg (ofM f r xs xs.length).cs.toArray, .int .i64 0] := fun h1 h2 => by unfold ofV ofE; rw [h1, h2]; rfl
  generalize lookV bs f r xs bl ca pa ha fu = V at *
  generalize hnE : numE f r xs bl ca pa ha fu = NE at *
  obtain ⟨nn, ne⟩ := NE
  generalize pvB f r xs bl ca pa ha fu = D at *
  generalize ofV f r xs bl ca pa ha fu = OV at *
  generalize ofM f r xs xs.length = mo at *
  clear hnE
  simp only [] at hnu hnok
  replace hnok := Lib.hid hnok
  replace hlp := Lib.hid hlp
  replace hl0 := Lib.hid hl0
  replace hl6 := Lib.hid hl6
  replace hOf := Lib.hid hOf
  have hx1 := hx.call hB
  have hb1 := hb.call hB
  have hg1 := hg.call hB
  have hm1 := hm.call hB hms
  have hc := hA.cells
  have hlc := hA.lt
  clear hx hb hg
  go_enter Tryz.func8, Tryz.ntmps8
  go_wp2_with fail
  show Calls _ _ _ (w.alloc (.cells (posCs f r p xs.length c bl ca pa ha fu).toArray 27)) _
  generalize w.alloc (.cells (posCs f r p xs.length c bl ca pa ha fu).toArray 27) = w1 at *
  refine (hpv w1 hg1 hx1).mono ?_
  rintro e w2 ⟨rfl, hb2⟩
  have hA2 := hA.call hb2
  have hB2 := below_call hB hB.size hb2
  have hx2 := hx1.call hb2
  have hbb2 := hb1.call hb2
  have hg2 := hg1.call hb2
  have hm2 := hm.call hB2 hms
  clear hA hB hx1 hb1 hg1 hpv hc hlc hb2 hm1
  rcases D with _ | _
  · have e0 : Hid (V = (0, 2)) := Lib.hid (hl0.out rfl)
    go_wp2_with fail
    go_ret2
    exact ⟨by rw [e0.out]; rfl, hB2⟩
  · go_wp2_with fail
    refine (pof_S pb cb bs w2 hbb2 hbs hlb hcb hm2).mono ?_
    rintro e w3 ⟨hb3, vp, vn, vc, rfl, _, _⟩
    have hA3 := hA2.call hb3
    have hB3 := below_call hB2 hB2.size hb3
    have hx3 := hx2.call hb3
    have hbb3 := hbb2.call hb3
    have hg3 := hg2.call hb3
    clear hA2 hB2 hx2 hbb2 hg2 hb3 hm2
    rcases hM : outM bs with _ | m
    · have e0 : Hid (V = (0, 6)) := Lib.hid (hl6.out (by simp) hM)
      have hV : outV bs = (zeroMen, 0, 6) := by unfold outV; rw [hM]
      rw [hV]
      clear hM hV
      have hb4 := hB3.alloc hB3.size (.cells (outCs zeroMen 0 (.slice vp vn vc)).toArray 65)
      go_wp2_with fail
      go_ret2
      exact ⟨by rw [e0.out]; rfl, hb4⟩
    · have e0 : Hid (V = if ne ≠ 0 then (0, ne) else if mo ≠ m then (0, 9) else getV bs nn) := Lib.hid (hlp.out m nn ne (by simp) hM rfl)
      have hV : outV bs = (m, (countN m : Int), 0) := by unfold outV; rw [hM]
      rw [hV]
      clear hM hV hlp
      have hT := HasO.new w3 (.cells zeroOut 65)
      have hi65 : Hid ((Tryz.prog.info? 65).map (·.size) = some (outCs m (countN m) (.slice vp vn vc)).toArray.size) := Lib.hid (by kernel_rfl)
      obtain ⟨w4, hw4⟩ : ∃ x, x = (w3.alloc (.cells zeroOut 65)).setRow w3.heap.size (outCs m (countN m) (.slice vp vn vc)).toArray := ⟨_, rfl⟩
      obtain ⟨q, hq⟩ : ∃ q, q = w3.heap.size := ⟨_, rfl⟩
      have hT4 : HasO w4 q (.cells (outCs m (countN m) (.slice vp vn vc)).toArray 65 (0, 0)) := by rw [hw4, hq]; exact setRow_hasO hT
      have hb4 : Below w3.heap.size w3 w4 := by rw [hw4]; exact setRow_below (below_box _ _) (Nat.le_refl _) (by simp)
      have hA4 := hA3.call hb4
      have hB4 := below_call hB3 hB3.size hb4
      have hx4 := hx3.call hb4
      have hbb4 := hbb3.call hb4
      have hg4 := hg3.call hb4
      have hc := hA4.cells
      have hlc := hA4.lt
      have hnu4 := hnu w4 hg4 hx4
      have hone : Hid ((outCs m (countN m) (.slice vp vn vc)).toArray.all (·.oneCell') = true) := Lib.hid (by first | kernel_rfl | simp [Value.oneCell'])
      replace hw4 := Lib.hid hw4
      clear hA3 hB3 hx3 hbb3 hg3 hb4
      go_wp2_with (first | (refine wpList_storeTo hw4 rfl 65 (.tmp 6) (.tmp 17) rfl rfl rfl 65 _ hT hi65.out rfl hone.out ?_) | fail)
      rw [← hq]
      clear hT hw4 hi65 hq hone
      refine hnu4.mono ?_
      rintro e w5 ⟨rfl, hb5⟩
      have hT5 := hT4.call hb5
      have hA5 := hA4.call hb5
      have hB5 := below_call hB4 hB4.size hb5
      have hx5 := hx4.call hb5
      have hbb5 := hbb4.call hb5
      have hg5 := hg4.call hb5
      have hc := hA5.cells
      have hlc := hA5.lt
      clear hT4 hA4 hB4 hx4 hbb4 hg4 hb5
      by_cases hne : ne = 0
      · subst hne
        obtain ⟨_, hvb⟩ := hnok.out rfl
        replace e0 : Hid (V = if mo ≠ m then (0, 9) else getV bs nn) := Lib.hid (by rw [e0.out, if_neg (by simp)])
        go_wp2_with fail
        have ho := hofp w5 hg5 hx5
        rw [hOf.out (by simp) hvb] at ho
        refine ho.mono ?_
        rintro e w6 ⟨rfl, hb6⟩
        have hi41 : Hid ((Tryz.prog.info? 41).map (·.size) = some zeroMen.cs.toArray.size) := Lib.hid (by kernel_rfl)
        have hT := HasO.new w6 (.cells zeroMen.cs.toArray 41)
        obtain ⟨w7, hw7⟩ : ∃ x, x = (w6.alloc (.cells zeroMen.cs.toArray 41)).setRow w6.heap.size mo.cs.toArray := ⟨_, rfl⟩
        have hM7 : HasO w7 w6.heap.size (.cells mo.cs.toArray 41 (0, 0)) := by rw [hw7]; exact setRow_hasO hT
        have hb7 : Below w6.heap.size w6 w7 := by rw [hw7]; exact setRow_below (below_box _ _) (Nat.le_refl _) (by simp)
        have hT7 := (hT5.call hb6).call hb7
        have hB7 := below_call (below_call hB5 hB5.size hb6) (below_call hB5 hB5.size hb6).size hb7
        have hbb7 := (hbb5.call hb6).call hb7
        have hm7 := hm.call hB7 hms
        replace hw7 := Lib.hid hw7
        have k1 := hM7.cells
        have l1 := hM7.lt
        have k2 := hT7.cells
        have l2 := hT7.lt
        clear hT5 hA5 hB5 hx5 hbb5 hg5 hc hlc hb6 hb7 ho
        by_cases hmm : mo = m
        · replace e0 : Hid (V = getV bs nn) := Lib.hid (by rw [e0.out, if_neg (fun h => h hmm)])
          subst hmm
          have he := fun W => (men_neq mo mo W).trans (show _ = Result.ok (Value.bool false) W by simp)
          have hgd := fun x y W => men_guard .neq x y mo.cs.toArray mo.cs.toArray W
          go_wp2_with (first | (refine wpList_storeTo hw7 rfl 41 (.tmp 9) (.tmp 33) rfl rfl rfl 41 _ hT hi41.out rfl (men_one mo) ?_) | fail)
          refine (Get_any pb cb bs nn w7 hbb7 hbs hlb hcb hm7).mono ?_
          rintro e w8 ⟨rfl, hb8⟩
          go_wp2_with fail
          go_ret2
          exact ⟨by rw [e0.out]; rfl, below_call hB7 hB7.size hb8⟩
        · replace e0 : Hid (V = (0, 9)) := Lib.hid (by rw [e0.out, if_pos hmm])
          have he := fun W => (men_neq mo m W).trans (show _ = Result.ok (Value.bool true) W by simp [hmm])
          have hgd := fun x y W => men_guard .neq x y mo.cs.toArray m.cs.toArray W
          clear hmm
          go_wp2_with (first | (refine wpList_storeTo hw7 rfl 41 (.tmp 9) (.tmp 33) rfl rfl rfl 41 _ hT hi41.out rfl (men_one mo) ?_) | fail)
          go_ret2
          exact ⟨by rw [e0.out]; rfl, hB7⟩
      · replace e0 : Hid (V = (0, ne)) := Lib.hid (by rw [e0.out, if_pos hne])
        go_wp2_with fail
        go_ret2
        exact ⟨by rw [e0.out]; rfl, hB5⟩
set_option maxRecDepth 100000 in
set_option maxHeartbeats 3200000 in
theorem refLook_any (f r ca pa ha fu : Int) (bl : Bool) (p : Option Addr) (c : Nat) (xs : List Int) (hca : 0 ≤ ca ∧ ca < 256) (hl : xs.length ≤ 1000) (_hcap : xs.length ≤ c) (h8 : ∀ x ∈ xs, -128 ≤ x ∧ x ≤ 127)
    (pb : Option Addr) (cb : Nat) (bs : List Int) (hbs : isBytes bs) (hlb : bs.length ≤ 2000000) (hcb : bs.length ≤ cb) (w : World) (hg : GlobOk w) (hm : MaxOk w) (hx : Arr .i8 w p xs) (hb : Arr .u8 w pb bs) :
    Calls Tryz.prog 9 #[.slice pb bs.length cb, .agg (posCs f r p xs.length c bl ca pa ha fu).toArray] w fun e w' => e = .returned (.tuple #[.int .i16 (lookV bs f r xs bl ca pa ha fu).1, .int .i64 (lookV bs f r xs bl ca pa ha fu).2]) ∧ Below w.heap.size w w' := by
  have hms : 1 < w.heap.size := by obtain ⟨_, _, h⟩ := hm; exact h
  have hA := HasO.new w (.cells (posCs f r p xs.length c bl ca pa ha fu).toArray 27)
  have hB := below_box w (.cells (posCs f r p xs.length c bl ca pa ha fu).toArray 27)
  have hpv := fun W hx => refPos_any f r ca pa ha fu bl p c xs hca.1 W hx
  have hnu := fun W hx => refIdxNumber_any f r ca pa ha fu bl p c xs hca hl h8 W hx
  have hofp := fun W hx => refIdxOf_any f r ca pa ha fu bl p c xs hl h8 W hx
  have hnok := numE_ok (f := f) (r := r) (xs := xs) (bl := bl) (ca := ca) (pa := pa) (ha := ha) (fu := fu)
  have hlp := fun m n e => look_pos (bs := bs) (f := f) (r := r) (xs := xs) (bl := bl) (ca := ca) (pa := pa) (ha := ha) (fu := fu) (m := m) (n := n) (e := e)
  have hl0 : pvB f r xs bl ca pa ha fu = false → lookV bs f r xs bl ca pa ha fu = (0, 2) := fun h => by unfold lookV; rw [h]; rfl
  have hl6 : pvB f r xs bl ca pa ha fu = true → outM bs = none → lookV bs f r xs bl ca pa ha fu = (0, 6) := fun h h2 => by unfold lookV; rw [h, h2]; rfl
  generalize lookV bs f r xs bl ca pa ha fu = V at *
  generalize hnE : numE f r xs bl ca pa ha fu = NE at *
  obtain ⟨nn, ne⟩ := NE
  generalize pvB f r xs bl ca pa ha fu = D at *
  generalize ofM f r xs xs.length = mo at *
  clear hnE
  simp only [] at hnu hnok
  replace hnok := Lib.hid hnok
  replace hlp := Lib.hid hlp
  replace hl0 := Lib.hid hl0
  replace hl6 := Lib.hid hl6
  have hx1 := hx.call hB
  have hb1 := hb.call hB
  have hg1 := hg.call hB
  have hm1 := hm.call hB hms
  have hc := hA.cells
  have hlc := hA.lt
  clear hx hb hg
  go_enter Tryz.func9, Tryz.ntmps9
  go_wp2_with fail
  show Calls _ _ _ (w.alloc (.cells (posCs f r p xs.length c bl ca pa ha fu).toArray 27)) _
  generalize w.alloc (.cells (posCs f r p xs.length c bl ca pa ha fu).toArray 27) = w1 at *
  refine (hpv w1 hx1).mono ?_
  rintro e w2 ⟨rfl, hb2⟩
  have hA2 := hA.call hb2
  have hB2 := below_call hB hB.size hb2
  have hx2 := hx1.call hb2
  have hbb2 := hb1.call hb2
  have hg2 := hg1.call hb2
  have hm2 := hm.call hB2 hms
  clear hA hB hx1 hb1 hg1 hpv hc hlc hb2 hm1
  rcases D with _ | _
  · have e0 : Hid (V = (0, 2)) := Lib.hid (hl0.out rfl)
    go_wp2_with fail
    go_ret2
    exact ⟨by rw [e0.out]; rfl, hB2⟩
  · go_wp2_with fail
    refine (refOutline_any pb cb bs w2 hbb2 hbs hlb hcb).mono ?_
    rintro e w3 ⟨hb3, hor⟩
    have hA3 := hA2.call hb3
    have hB3 := below_call hB2 hB2.size hb3
    have hx3 := hx2.call hb3
    have hbb3 := hbb2.call hb3
    have hg3 := hg2.call hb3
    clear hA2 hB2 hx2 hbb2 hg2 hb3 hm2
    rcases hM : outM bs with _ | m
    · have e0 : Hid (V = (0, 6)) := Lib.hid (hl6.out (by simp) hM)
      obtain ⟨_, rfl⟩ : outM bs = none ∧ e = .returned (.tuple #[.agg zeroMen.cs.toArray, .slice none 0 0, .bool false]) := by
        rcases hor with h | ⟨m', v', h, _⟩
        · exact h
        · rw [hM] at h; cases h
      clear hM hor
      have hb4 := hB3.alloc hB3.size (.cells zeroMen.cs.toArray 41)
      have hT := HasO.new w3 (.cells zeroMen.cs.toArray 41)
      have hb5 := setRow_below (g := w3.heap.size) (cells := zeroMen.cs.toArray) hb4 hB3.size hb4.size
      go_wp2_with (first | (refine wpList_storeAgg rfl 41 (.tmp 6) (.tmp 17) rfl w3.heap.size _ rfl rfl 41 _ hT (by kernel_rfl) rfl (men_one zeroMen) ?_; rintro w' rfl) | fail)
      go_ret2
      exact ⟨by rw [e0.out]; rfl, hb5⟩
    · have e0 : Hid (V = if ne ≠ 0 then (0, ne) else if mo ≠ m then (0, 9) else getV bs nn) := Lib.hid (hlp.out m nn ne (by simp) hM rfl)
      obtain ⟨v, rfl⟩ : ∃ v, e = .returned (.tuple #[.agg m.cs.toArray, v, .bool true]) := by
        rcases hor with ⟨h, _⟩ | ⟨m', v', h, h2, _⟩
        · rw [hM] at h; cases h
        · rw [hM] at h; injection h with h; subst h; exact ⟨v', h2⟩
      clear hM hlp hor
      have hT := HasO.new w3 (.cells zeroMen.cs.toArray 41)
      have hi41 : Hid ((Tryz.prog.info? 41).map (·.size) = some zeroMen.cs.toArray.size) := Lib.hid (by kernel_rfl)
      obtain ⟨w4, hw4⟩ : ∃ x, x = (w3.alloc (.cells zeroMen.cs.toArray 41)).setRow w3.heap.size m.cs.toArray := ⟨_, rfl⟩
      obtain ⟨q, hq⟩ : ∃ q, q = w3.heap.size := ⟨_, rfl⟩
      have hT4 : HasO w4 q (.cells m.cs.toArray 41 (0, 0)) := by rw [hw4, hq]; exact setRow_hasO hT
      have hb4 : Below w3.heap.size w3 w4 := by rw [hw4]; exact setRow_below (below_box _ _) (Nat.le_refl _) (by simp)
      have hA4 := hA3.call hb4
      have hB4 := below_call hB3 hB3.size hb4
      have hx4 := hx3.call hb4
      have hbb4 := hbb3.call hb4
      have hg4 := hg3.call hb4
      have hc := hA4.cells
      have hlc := hA4.lt
      have hnu4 := hnu w4 hx4
      replace hw4 := Lib.hid hw4
      clear hA3 hB3 hx3 hbb3 hg3 hb4
      go_wp2_with (first | (refine wpList_storeTo hw4 rfl 41 (.tmp 6) (.tmp 17) rfl rfl rfl 41 _ hT hi41.out rfl (men_one m) ?_) | fail)
      rw [← hq]
      clear hT hw4 hi41 hq
      refine hnu4.mono ?_
      rintro e w5 ⟨rfl, hb5⟩
      have hT5 := hT4.call hb5
      have hA5 := hA4.call hb5
      have hB5 := below_call hB4 hB4.size hb5
      have hx5 := hx4.call hb5
      have hbb5 := hbb4.call hb5
      have hg5 := hg4.call hb5
      have hc := hA5.cells
      have hlc := hA5.lt
      clear hT4 hA4 hB4 hx4 hbb4 hg4 hb5
      by_cases hne : ne = 0
      · subst hne
        obtain ⟨_, hvb⟩ := hnok.out rfl
        replace e0 : Hid (V = if mo ≠ m then (0, 9) else getV bs nn) := Lib.hid (by rw [e0.out, if_neg (by simp)])
        go_wp2_with fail
        refine wp_region_valsL (by kernel_rfl) (by kernel_rfl) [some 30, some 31, some 32, some 33] (by rfl) (by rfl) (fun i8 => match i8 with | 0 => .agg (posCs f r p xs.length c bl ca pa ha fu).toArray | 1 => .agg mo.cs.toArray | 2 => .agg m.cs.toArray | 3 => .bool (!decide (mo = m)) | _ => undef) (fun W => Below w5.heap.size w5 W) ((Below.refl _ _).drew) ?hstep ?hend
        case hstep =>
          intro i9 o9 f9 W ho hi hC hf K hK
          have hi : i9 < 4 := hi
          rcases (by omega : i9 = 0 ∨ i9 = 1 ∨ i9 = 2 ∨ i9 = 3) with rfl | rfl | rfl | rfl
          · exact st_loadA (og ho rfl) 27 (.tmp 3) (oo ho rfl) (rd_out rfl rfl) (posCs f r p xs.length c bl ca pa ha fu) (by kernel_rfl) (fun j v hv => by rw [Nat.zero_add, (hA5.call hC).cells j]; simpa using hv) (hK _ hC)
          · exact st_call1 (og ho rfl) 19 (.tmp 30) #[27] (oo ho rfl) (ri 0 (hf ⟨0, .data⟩ (oa ho rfl) rfl)) (fun _ _ => rfl) (hofp W (hx5.call hC)) (by rintro u w9 ⟨h9, hb9⟩; injection h9 with h9; subst h9; exact hK _ (below_call hC hC.size hb9)) (by rintro ch w9 h9; revert h9; rintro ⟨h9, _⟩; cases h9) (by rintro w9 h9; revert h9; rintro ⟨h9, _⟩; cases h9)
          · exact st_loadA (og ho rfl) 41 (.tmp 6) (oo ho rfl) (rd_out rfl rfl) m.cs (by kernel_rfl) (fun j v hv => by rw [Nat.zero_add, (hT5.call hC).cells j]; simpa using hv) (hK _ hC)
          · exact st_bin (og ho rfl) .neq 41 41 (.tmp 31) (.tmp 32) (oo ho rfl) (ri 1 (hf ⟨1, .data⟩ (oa ho rfl) rfl)) (ri 2 (hf ⟨2, .data⟩ (oa ho rfl) rfl)) (men_guard .neq _ _ _ _ _) (men_neq mo m _) (hK _ hC)
        case hend =>
          intro W hC
          simp only [putL, Act.put, List.setIfInBounds_toArray, List.set_cons_succ, List.set_cons_zero]
          have hBW := below_call hB5 hB5.size hC
          have hbbW := hbb5.call hC
          clear hT5 hA5 hB5 hx5 hbb5 hg5 hc hlc hC
          by_cases hmm : mo = m
          · replace e0 : Hid (V = getV bs nn) := Lib.hid (by rw [e0.out, if_neg (fun h => h hmm)])
            have hdd : (!decide (mo = m)) = false := by simp [hmm]
            rw [hdd]
            clear hmm hdd
            go_wp2_with fail
            refine (refGet_any pb cb bs nn W hbbW hbs hlb hcb).mono ?_
            rintro e w8 ⟨rfl, hb8⟩
            go_wp2_with fail
            go_ret2
            exact ⟨by rw [e0.out]; rfl, below_call hBW hBW.size hb8⟩
          · replace e0 : Hid (V = (0, 9)) := Lib.hid (by rw [e0.out, if_pos hmm])
            have hdd : (!decide (mo = m)) = true := by simp [hmm]
            rw [hdd]
            clear hmm hdd
            go_wp2_with fail
            go_ret2
            exact ⟨by rw [e0.out]; rfl, hBW⟩
      · replace e0 : Hid (V = (0, ne)) := Lib.hid (by rw [e0.out, if_pos hne])
        go_wp2_with fail
        go_ret2
        exact ⟨by rw [e0.out]; rfl, hB5⟩
end Go.Proofs.YtddkhnnpeonbgaaGreatDoor
namespace Go.Proofs.YtddkhnnpeonbgaaGreatDoor
open Go.RowKit

set_option maxRecDepth 100000 in
set_option maxHeartbeats 3200000 in
theorem PackedGets_any (f r ca pa ha fu : Int) (bl : Bool) (p : Option Addr) (c : Nat) (xs : List Int) (hca : 0 ≤ ca ∧ ca < 256) (hl : xs.length ≤ 9223372036854775807) (hcap : xs.length ≤ c) (h8 : ∀ x ∈ xs, -128 ≤ x ∧ x ≤ 127)
    (pb : Option Addr) (cb : Nat) (bs : List Int) (hbs : isBytes bs) (hlb : bs.length ≤ 9223372036854775807) (hcb : bs.length ≤ cb) (n : Int) (w : World) (hg : GlobOk w) (hm : MaxOk w) (hx : Arr .i8 w p xs) (hb : Arr .u8 w pb bs) :
    Calls Tryz.prog 3 #[.slice pb bs.length cb, .int .i64 n, .agg (posCs f r p xs.length c bl ca pa ha fu).toArray] w fun e w' => e = .returned (.bool true) ∧ Below w.heap.size w w' := by
  have hms : 1 < w.heap.size := by obtain ⟨_, _, h⟩ := hm; exact h
  have hA := HasO.new w (.cells (posCs f r p xs.length c bl ca pa ha fu).toArray 27)
  have hB := below_box w (.cells (posCs f r p xs.length c bl ca pa ha fu).toArray 27)
  have hm1 := hm.call hB hms
  have hc := hA.cells
  have hlc := hA.lt
  by_cases h0 : (10000 : Int) < bs.length
  · have hkn := known_any _ hm1
    go_enter Tryz.func3, Tryz.ntmps3
    go_wp2_with fail
    show Calls _ _ _ (w.alloc (.cells (posCs f r p xs.length c bl ca pa ha fu).toArray 27)) _
    refine hkn.mono ?_
    rintro e w1 ⟨rfl, hb1⟩
    go_wp2_with fail
    go_ret
    exact ⟨rfl, below_call hB hB.size hb1⟩
  · by_cases h1 : (70 : Int) < xs.length
    · have hkn := known_any _ hm1
      go_enter Tryz.func3, Tryz.ntmps3
      go_wp2_with fail
      show Calls _ _ _ (w.alloc (.cells (posCs f r p xs.length c bl ca pa ha fu).toArray 27)) _
      refine hkn.mono ?_
      rintro e w1 ⟨rfl, hb1⟩
      go_wp2_with fail
      go_ret
      exact ⟨rfl, below_call hB hB.size hb1⟩
    · have hl1 : xs.length ≤ 1000 := by omega
      have hlb1 : bs.length ≤ 2000000 := by omega
      have hx1 := hx.call hB
      have hb1 := hb.call hB
      have hg1 := hg.call hB
      clear hl hlb
      go_enter Tryz.func3, Tryz.ntmps3
      go_wp2_with fail
      show Calls _ _ _ (w.alloc (.cells (posCs f r p xs.length c bl ca pa ha fu).toArray 27)) _
      generalize w.alloc (.cells (posCs f r p xs.length c bl ca pa ha fu).toArray 27) = w1 at *
      refine (Get_any pb cb bs n w1 hb1 hbs hlb1 hcb hm1).mono ?_
      rintro e w2 ⟨rfl, hb2⟩
      have hB2 := below_call hB hB.size hb2
      have hA2 := hA.call hb2
      have hbb2 := hb1.call hb2
      clear hc hlc
      obtain ⟨⟨g1, g2⟩, hG⟩ : ∃ G, getV bs n = G := ⟨_, rfl⟩
      rw [hG]
      go_wp2_with fail
      refine (refGet_any pb cb bs n w2 hbb2 hbs hlb1 hcb).mono ?_
      rintro e w3 ⟨rfl, hb3⟩
      rw [hG]
      have hB3 := below_call hB2 hB2.size hb3
      have hA3 := hA2.call hb3
      have hbb3 := hbb2.call hb3
      have hx3 := hx.call hB3
      have hg3 := hg.call hB3
      have hm3 := hm.call hB3 hms
      have hc := hA3.cells
      have hlc := hA3.lt
      clear hB2 hA2 hbb2 hb2 hb3 hA hB hx1 hb1 hg1 hm1 hG
      go_wp2_with fail
      refine (look_any f r ca pa ha fu bl p c xs hca hl1 hcap h8 pb cb bs hbs hlb1 hcb w3 hg3 hm3 hx3 hbb3).mono ?_
      rintro e w4 ⟨rfl, hb4⟩
      have hB4 := below_call hB3 hB3.size hb4
      have hA4 := hA3.call hb4
      have hbb4 := hbb3.call hb4
      have hx4 := hx.call hB4
      have hg4 := hg.call hB4
      have hm4 := hm.call hB4 hms
      obtain ⟨⟨g3, g4⟩, hG⟩ : ∃ G, lookV bs f r xs bl ca pa ha fu = G := ⟨_, rfl⟩
      rw [hG]
      clear hc hlc
      have hc := hA4.cells
      have hlc := hA4.lt
      clear hB3 hA3 hbb3 hb4 hx3 hg3 hm3
      go_wp2_with fail
      refine (refLook_any f r ca pa ha fu bl p c xs hca hl1 hcap h8 pb cb bs hbs hlb1 hcb w4 hg4 hm4 hx4 hbb4).mono ?_
      rintro e w5 ⟨rfl, hb5⟩
      have hB5 := below_call hB4 hB4.size hb5
      have hm5 := hm.call hB5 hms
      rw [hG]
      clear hc hlc hB4 hA4 hbb4 hb5 hx4 hg4 hm4 hG
      go_wp2_with fail
      refine (known_any w5 hm5).mono ?_
      rintro e w6 ⟨rfl, hb6⟩
      go_wp2_with fail
      go_ret
      exact ⟨rfl, below_call hB5 hB5.size hb6⟩
end Go.Proofs.YtddkhnnpeonbgaaGreatDoor
