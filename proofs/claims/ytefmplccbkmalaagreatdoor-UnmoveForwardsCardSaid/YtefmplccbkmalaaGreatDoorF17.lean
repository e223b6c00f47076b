import Derived.Test.YtefmplccbkmalaaGreatDoorF16
set_option maxHeartbeats 12800000
namespace Go.Proofs.YtefmplccbkmalaaGreatDoor
open Go.RowKit

theorem idxs_none {g : Int → Bool} {xs : List Int} : ∀ n, (∀ j, j < n → g (xs[j]?.getD 0) = false) → idxs g xs n = [] := by
 intro n
 induction n with
 | zero => intro _; rfl
 | succ n ih => intro h; simp only [idxs]; rw [if_neg (by rw [h n (by omega)]; simp)]; exact ih (fun j hj => h j (by omega))
theorem idxs_one {g : Int → Bool} {xs : List Int} {i : Nat} (h1 : ∀ j, j < i → g (xs[j]?.getD 0) = false) (h2 : g (xs[i]?.getD 0) = true) : ∀ m, (∀ j, i < j → j < i + 1 + m → g (xs[j]?.getD 0) = false) → idxs g xs (i + 1 + m) = [(i : Int)] := by
 intro m
 induction m with
 | zero => intro _; simp only [idxs]; rw [if_pos h2, idxs_none i h1]; rfl
 | succ m ih => intro h; rw [← Nat.add_assoc]; simp only [idxs]; rw [if_neg (by rw [h (i + 1 + m) (by omega) (by omega)]; simp)]; exact ih (fun j hj hk => h j hj (by omega))
theorem idxs_mono {g : Int → Bool} {xs : List Int} (n : Nat) : ∀ m, (idxs g xs n).length ≤ (idxs g xs (n + m)).length := by
 intro m
 induction m with
 | zero => exact Nat.le_refl _
 | succ m ih =>
  rw [← Nat.add_assoc]; simp only [idxs]
  split
  ·simp; omega
  ·exact ih
theorem idxs_two {g : Int → Bool} {xs : List Int} {i j n : Nat} (hi : g (xs[i]?.getD 0) = true) (hj : g (xs[j]?.getD 0) = true) (hij : i < j) (hn : j < n) : 2 ≤ (idxs g xs n).length := by
 obtain ⟨m1, e1⟩ : ∃ m, j = i + 1 + m := ⟨j - (i + 1), by omega⟩
 obtain ⟨m2, e2⟩ : ∃ m, n = j + 1 + m := ⟨n - (j + 1), by omega⟩
 have h1 := idxs_mono (g := g) (xs := xs) (i + 1) m1
 have h2 := idxs_mono (g := g) (xs := xs) (j + 1) m2
 rw [← e1] at h1
 rw [← e2] at h2
 have h3 : (idxs g xs (i + 1)).length = (idxs g xs i).length + 1 := by simp only [idxs]; rw [if_pos hi]; simp
 have h4 : (idxs g xs (j + 1)).length = (idxs g xs j).length + 1 := by simp only [idxs]; rw [if_pos hj]; simp
 omega
theorem kgI_none {xs : List Int} {bl : Bool} (h : idxI xs (6 * sdI bl) < 0) : kgI xs bl = -1 := by
 have h1 : xs.any (· == 6 * sdI bl) = false := by
  rcases e : xs.any (· == 6 * sdI bl) with _ | _
  ·rfl
  ·exfalso; unfold idxI at h; rw [e] at h; simp only [if_true] at h; omega
 rw [List.any_eq_false] at h1
 have h2 : kgL xs bl = [] := idxs_none _ (fun j hj => by
  have := h1 xs[j] (List.getElem_mem hj)
  simpa [hj] using this)
 unfold kgI; rw [h2]; rfl
theorem idxI_get {xs : List Int} {x : Int} {i : Nat} (h : idxI xs x = i) : i < xs.length ∧ xs[i]?.getD 0 = x ∧ ∀ j, j < i → ¬ xs[j]?.getD 0 = x := by
 unfold idxI at h
 rcases e : xs.any (· == x) with _ | _
 ·rw [e] at h; simp at h
 ·rw [e] at h
  simp only [if_true] at h
  have hi : xs.findIdx (· == x) = i := by omega
  rw [List.any_eq_true] at e
  have hl := List.findIdx_lt_length_of_exists e
  rw [hi] at hl
  have hf := (List.findIdx_eq hl).1 hi
  refine ⟨hl, ?_, fun j hj => ?_⟩
  ·have := hf.1
   simp only [List.getElem?_eq_getElem hl, Option.getD_some]
   simpa using this
  ·have hjl : j < xs.length := by omega
   have := hf.2 j (by omega)
   simp only [List.getElem?_eq_getElem hjl, Option.getD_some]
   simpa using this
theorem kgI_dup {xs : List Int} {bl : Bool} {i : Nat} (h : idxI xs (6 * sdI bl) = i) (h2 : (xs.drop (i + 1)).any (· == 6 * sdI bl) = true) : kgI xs bl = -1 := by
 obtain ⟨hl, hg, _⟩ := idxI_get h
 rw [List.any_eq_true] at h2
 obtain ⟨y, hy, hyx⟩ := h2
 obtain ⟨m, hm, e⟩ := List.getElem_of_mem hy
 rw [List.length_drop] at hm
 rw [List.getElem_drop] at e
 have hj : i + 1 + m < xs.length := by omega
 have h3 : 2 ≤ (kgL xs bl).length := idxs_two (i := i) (j := i + 1 + m) (by simpa using hg) (by rw [List.getElem?_eq_getElem hj, Option.getD_some, e]; exact hyx) (by omega) hj
 unfold kgI
 rw [if_neg (by omega)]
theorem kgI_one {xs : List Int} {bl : Bool} {i : Nat} (h : idxI xs (6 * sdI bl) = i) (h2 : (xs.drop (i + 1)).any (· == 6 * sdI bl) = false) : kgI xs bl = i := by
 obtain ⟨hl, hg, hb⟩ := idxI_get h
 rw [List.any_eq_false] at h2
 obtain ⟨m, hm⟩ : ∃ m, xs.length = i + 1 + m := ⟨xs.length - (i + 1), by omega⟩
 have h3 : kgL xs bl = [(i : Int)] := by
  unfold kgL
  rw [hm]
  refine idxs_one (fun j hj => ?_) (by simpa using hg) m (fun j hj hk => ?_)
  ·have := hb j hj; simpa using this
  ·have hjl : j < xs.length := by omega
   have := h2 xs[j] (by rw [List.mem_drop_iff_getElem]; exact ⟨j - (i + 1), by omega, by congr 1; omega⟩)
   simpa [hjl] using this
 unfold kgI; rw [h3]; rfl
theorem arr_drop {k : IntKind} {W : World} {g o : Nat} {xs : List Int} (i : Nat) (h : Arr k W (some ⟨g, o, none⟩) xs) : Arr k W (some ⟨g, o + i, none⟩) (xs.drop i) := by
 by_cases hi : xs.length ≤ i
 ·left; exact List.drop_of_length_le hi
 ·obtain ⟨g', o', e, hl, hc⟩ := h.at (i := i) (by omega)
  injection e with e
  injection e with e1 e2 e3
  subst e1 e2
  refine .inr ⟨_, _, rfl, hl, fun j hj => ?_⟩
  rw [List.length_drop] at hj
  rw [Nat.add_assoc, hc (i + j) (by omega), List.getElem?_drop]
def kngV (f r : Int) (xs : List Int) (bl : Bool) : Value := if orthB f r xs then (if kgI xs bl < 0 then .tuple #[.int .i64 0, .int .i64 9] else .tuple #[.int .i64 (kgI xs bl), .int .i64 0]) else .tuple #[.int .i64 0, .int .i64 2]
set_option maxRecDepth 100000 in
theorem king_any (f r : Int) (bl : Bool) (p : Option Addr) (c : Nat) (xs : List Int) (w : World) (hx : Arr .i8 w p xs) (hl : xs.length ≤ 1000) (hcap : xs.length ≤ c) :
  Calls Tryz.prog 136 #[.agg (bdCs f r p xs.length c).toArray, .bool bl] w fun e w' => e = .returned (kngV f r xs bl) ∧ Below w.heap.size w w' := by
 have hA := HasO.new w (.cells (bdCs f r p xs.length c).toArray 68)
 have hB := below_box w (.cells (bdCs f r p xs.length c).toArray 68)
 have hor := fun W h => orthodox_any f r p c xs W h
 have hix := fun W h => index_any p c xs (6 * sdI bl) W h (by omega)
 have h0 := hA.cells 0
 have h1 := hA.cells 1
 have h2 := hA.cells 2
 have hl0 := hA.lt
 obtain ⟨V, hV⟩ : ∃ V, V = kngV f r xs bl := ⟨_, rfl⟩
 rw [← hV]
 rcases hs : orthB f r xs with _ | _
 ·have e0 : Hid (V = .tuple #[.int .i64 0, .int .i64 2]) := Lib.hid (by rw [hV, kngV, hs]; rfl)
  rw [hs] at hor
  clear hV
  go_enter Tryz.func136, Tryz.ntmps136
  go_wp2_with fail
  refine (hor _ (hx.call hB)).mono ?_
  rintro e w2 ⟨rfl, hb2⟩
  go_wp2_with fail
  go_ret2
  exact ⟨by rw [e0.out]; rfl, below_call hB hB.size hb2⟩
 ·rw [hs] at hor
  rw [kngV, hs, if_pos rfl] at hV
  have hlt2 := idxI_lt (xs := xs) (x := 6 * sdI bl)
  rcases Int.lt_or_le (idxI xs (6 * sdI bl)) 0 with hi | hi
  ·have e0 : Hid (V = .tuple #[.int .i64 0, .int .i64 9]) := Lib.hid (by rw [hV, kgI_none hi]; rfl)
   have hi1 : idxI xs (6 * sdI bl) = -1 := by omega
   rw [hi1] at hix
   clear hV hi hi1 hlt2
   have hx1 := hx.call hB
   cases bl
   all_goals
    go_enter Tryz.func136, Tryz.ntmps136
    go_wp2_with fail
    refine (hor _ hx1).mono ?_
    rintro e w2 ⟨rfl, hb2⟩
    have hA2 := hA.call hb2
    have hB2 := below_call hB hB.size hb2
    have hx2 := hx1.call hb2
    clear h0 h1 h2 hl0 hA hB hb2 hor hx1
    have h0 := hA2.cells 0
    have h1 := hA2.cells 1
    have h2 := hA2.cells 2
    have hl0 := hA2.lt
    go_wp2_with fail
    refine (hix _ hx2).mono ?_
    rintro e w3 ⟨rfl, hb3⟩
    go_wp2_with fail
    go_ret2
    exact ⟨by rw [e0.out]; rfl, below_call hB2 hB2.size hb3⟩
  ·obtain ⟨i, hi⟩ : ∃ i : Nat, idxI xs (6 * sdI bl) = i := ⟨(idxI xs (6 * sdI bl)).toNat, by omega⟩
   rw [hi] at hix
   have hil : i < xs.length := by omega
   have e0 : Hid (V = if (xs.drop (i + 1)).any (· == 6 * sdI bl) then .tuple #[.int .i64 0, .int .i64 9] else .tuple #[.int .i64 (i : Int), .int .i64 0]) := Lib.hid (by
    rcases hd : (xs.drop (i + 1)).any (· == 6 * sdI bl) with _ | _
    ·rw [hV, kgI_one hi hd, if_neg (by omega)]; rfl
    ·rw [hV, kgI_dup hi hd]; rfl)
   clear hV
   replace hi := Lib.hid hi
   clear hlt2 hi
   have hx1 := hx.call hB
   have b1 : ((i + 1 : Nat) : Int) ≤ xs.length := by omega
   have b2 : ((i + 1 : Nat) : Int) ≤ c := by omega
   have b3 : (i : Int) + 1 ≤ xs.length := by omega
   have b4 : (i : Int) + 1 ≤ c := by omega
   have b5 : (xs.length : Int) ≤ c := by omega
   obtain ⟨g, o, rfl, hgl, hcc⟩ := hx1.at hil
   clear hcc hgl
   have hct := fun W h => contains_any (some ⟨g, o + (i + 1), none⟩) (c - (i + 1)) (xs.drop (i + 1)) (6 * sdI bl) W h (by rw [List.length_drop]; omega)
   have hct2 := fun W h => contains_any (some ⟨g, o, none⟩) 0 (xs.drop (i + 1)) (6 * sdI bl) W h (by rw [List.length_drop]; omega)
   rw [List.length_drop] at hct hct2
   have hdn : i + 1 = c → xs.drop (i + 1) = [] := fun h => List.drop_of_length_le (by omega)
   have had := fun W (h : Arr .i8 W (some ⟨g, o, none⟩) xs) => arr_drop (i + 1) h
   generalize xs.drop (i + 1) = ys at *
   generalize hys : ys.any (· == 6 * sdI bl) = D at *
   cases bl
   all_goals
    go_enter Tryz.func136, Tryz.ntmps136
    go_wp2_with fail
    refine (hor _ hx1).mono ?_
    rintro e w2 ⟨rfl, hb2⟩
    have hA2 := hA.call hb2
    have hB2 := below_call hB hB.size hb2
    have hx2 := hx1.call hb2
    clear h0 h1 h2 hl0 hA hB hb2 hor hx1
    have h0 := hA2.cells 0
    have h1 := hA2.cells 1
    have h2 := hA2.cells 2
    have hl0 := hA2.lt
    go_wp2_with fail
    refine (hix _ hx2).mono ?_
    rintro e w3 ⟨rfl, hb3⟩
    have hA3 := hA2.call hb3
    have hB3 := below_call hB2 hB2.size hb3
    have hx3 := hx2.call hb3
    clear h0 h1 h2 hl0 hA2 hB2 hb3 hix hx2
    have h0 := hA3.cells 0
    have h1 := hA3.cells 1
    have h2 := hA3.cells 2
    have hl0 := hA3.lt
    go_wp2_with fail
    all_goals
     first
      | refine (hct _ (had _ hx3)).mono ?_
      | refine (hct2 _ (.inl (hdn (by omega)))).mono ?_
     rintro e w4 ⟨rfl, hb4⟩
     have hB4 := below_call hB3 hB3.size hb4
     cases D
     all_goals
      go_wp2_with fail
      go_ret2
      exact ⟨by rw [e0.out]; rfl, hB4⟩
def chkW (F R : Nat) (xs : List Int) (bl : Bool) : Nat := atrW F R (setW gNon xs xs.length) xs (kgI xs bl).toNat (!bl) xs.length
def chkV (f r : Int) (xs : List Int) (bl : Bool) : Value := if orthB f r xs then (if kgI xs bl < 0 then .tuple #[.int .u64 0, .int .i64 9] else .tuple #[.int .u64 (chkW f.toNat r.toNat xs bl : Nat), .int .i64 0]) else .tuple #[.int .u64 0, .int .i64 2]
set_option maxRecDepth 100000 in
theorem checkers_any (f r : Int) (bl : Bool) (p : Option Addr) (c : Nat) (xs : List Int) (w : World) (hg : GlobOk w) (hx : Arr .i8 w p xs) (hl : xs.length ≤ 1000) (hcap : xs.length ≤ c) :
  Calls Tryz.prog 125 #[.agg (bdCs f r p xs.length c).toArray, .bool bl] w fun e w' => e = .returned (chkV f r xs bl) ∧ Below w.heap.size w w' := by
 have hA := HasO.new w (.cells (bdCs f r p xs.length c).toArray 68)
 have hB := below_box w (.cells (bdCs f r p xs.length c).toArray 68)
 have hkg := fun W h => king_any f r bl p c xs W h hl hcap
 have h0 := hA.cells 0
 have h1 := hA.cells 1
 have h2 := hA.cells 2
 have hl0 := hA.lt
 have hg1 := hg.call hB
 have hx1 := hx.call hB
 obtain ⟨V, hV⟩ : ∃ V, V = chkV f r xs bl := ⟨_, rfl⟩
 rw [← hV]
 rcases hs : orthB f r xs with _ | _
 ·have e0 : Hid (V = .tuple #[.int .u64 0, .int .i64 2]) := Lib.hid (by rw [hV, chkV, hs]; rfl)
  have e1 : kngV f r xs bl = .tuple #[.int .i64 0, .int .i64 2] := by rw [kngV, hs]; rfl
  rw [e1] at hkg
  clear hV e1
  go_enter Tryz.func125, Tryz.ntmps125
  go_wp2_with fail
  refine (hkg _ hx1).mono ?_
  rintro e w2 ⟨rfl, hb2⟩
  go_wp2_with fail
  go_ret2
  exact ⟨by rw [e0.out]; rfl, below_call hB hB.size hb2⟩
 ·rw [chkV, hs, if_pos rfl] at hV
  rcases Int.lt_or_le (kgI xs bl) 0 with hk | hk
  ·have e0 : Hid (V = .tuple #[.int .u64 0, .int .i64 9]) := Lib.hid (by rw [hV, if_pos hk])
   have e1 : kngV f r xs bl = .tuple #[.int .i64 0, .int .i64 9] := by rw [kngV, hs, if_pos rfl, if_pos hk]
   rw [e1] at hkg
   clear hV e1
   go_enter Tryz.func125, Tryz.ntmps125
   go_wp2_with fail
   refine (hkg _ hx1).mono ?_
   rintro e w2 ⟨rfl, hb2⟩
   go_wp2_with fail
   go_ret2
   exact ⟨by rw [e0.out]; rfl, below_call hB hB.size hb2⟩
  ·obtain ⟨k, hkn, hkl⟩ : ∃ k : Nat, kgI xs bl = k ∧ k < xs.length := by
    rcases kgI_bd xs bl with h | h
    ·omega
    ·exact h
   have hor := hs
   obtain ⟨F, R, rfl, rfl, hF, hR, hlen, _, _⟩ := orthB_fact hs
   rw [if_neg (by omega)] at hV
   have e1 : kngV F R xs bl = .tuple #[.int .i64 (k : Int), .int .i64 0] := by rw [kngV, hs, if_pos rfl, if_neg (by omega), hkn]
   rw [e1] at hkg
   have hat := fun W hg h => attackers_any F R k (!bl) p c xs hF hR hlen (by omega) hor W hg h
   have hV2 : V = .tuple #[.int .u64 (atrW F R (setW gNon xs xs.length) xs k (!bl) xs.length : Nat), .int .i64 0] := by rw [hV, chkW, hkn, Int.toNat_natCast, Int.toNat_natCast, Int.toNat_natCast]
   generalize atrW F R (setW gNon xs xs.length) xs k (!bl) xs.length = S at *
   replace hV2 := Lib.hid hV2
   clear hV e1 hkn hs hor
   replace hlen := Lib.hid hlen
   go_enter Tryz.func125, Tryz.ntmps125
   go_wp2_with fail
   refine (hkg _ hx1).mono ?_
   rintro e w2 ⟨rfl, hb2⟩
   have hA2 := hA.call hb2
   have hB2 := below_call hB hB.size hb2
   have hx2 := hx1.call hb2
   have hg2 := hg1.call hb2
   clear h0 h1 h2 hl0 hA hB hb2 hkg hx1 hg1
   have h0 := hA2.cells 0
   have h1 := hA2.cells 1
   have h2 := hA2.cells 2
   have hl0 := hA2.lt
   go_wp2_with fail
   refine (hat _ hg2 hx2).mono ?_
   rintro e w3 ⟨rfl, hb3⟩
   go_wp2_with fail
   go_ret2
   exact ⟨by rw [hV2.out]; rfl, below_call hB2 hB2.size hb3⟩
def kingsB (f r : Int) (xs : List Int) (bl : Bool) : Bool := orthB f r xs && (!decide (kgI xs bl < 0) && (!decide (kgI xs (!bl) < 0) && decide (chkW f.toNat r.toNat xs (!bl) = 0)))
theorem kings_ans (f r : Int) (xs : List Int) (bl : Bool) : ∃ (k e : Int) (S : Nat) (e2 : Int), kngV f r xs bl = .tuple #[.int .i64 k, .int .i64 e] ∧ chkV f r xs (!bl) = .tuple #[.int .u64 (S : Nat), .int .i64 e2] ∧ kingsB f r xs bl = (decide (e = 0) && (decide (e2 = 0) && decide ((S : Int) = 0))) := by
 unfold kngV chkV kingsB
 rcases hs : orthB f r xs with _ | _
 ·exact ⟨0, 2, 0, 2, rfl, rfl, rfl⟩
 ·by_cases h1 : kgI xs bl < 0 <;> by_cases h2 : kgI xs (!bl) < 0
  ·exact ⟨0, 9, 0, 9, by simp [h1], by simp [h2], by simp [h1]⟩
  ·exact ⟨0, 9, _, 0, by simp [h1], by simp [h2]; rfl, by simp [h1]⟩
  ·exact ⟨_, 0, 0, 9, by simp [h1]; rfl, by simp [h2], by simp [h1, h2]⟩
  ·exact ⟨_, 0, _, 0, by simp [h1]; rfl, by simp [h2]; rfl, by simp [h1, h2]⟩
set_option maxRecDepth 100000 in
theorem kings_any (f r ca pa ha fu : Int) (bl : Bool) (p : Option Addr) (c : Nat) (xs : List Int) (w : World) (hg : GlobOk w) (hx : Arr .i8 w p xs) (hl : xs.length ≤ 1000) (hcap : xs.length ≤ c) :
  Calls Tryz.prog 75 #[.agg (posCs f r p xs.length c bl ca pa ha fu).toArray] w fun e w' => e = .returned (.bool (kingsB f r xs bl)) ∧ Below w.heap.size w w' := by
 obtain ⟨k, e1, S, e2, hk, hc, hB⟩ := kings_ans f r xs bl
 have hkg := fun W h => king_any f r bl p c xs W h hl hcap
 have hch := fun W hg h => checkers_any f r (!bl) p c xs W hg h hl hcap
 rw [hk] at hkg
 rw [hc] at hch
 rw [hB]
 clear hk hc hB
 have hA := HasO.new w (.cells (posCs f r p xs.length c bl ca pa ha fu).toArray 26)
 have hB := below_box w (.cells (posCs f r p xs.length c bl ca pa ha fu).toArray 26)
 have h0 := hA.cells 0
 have h1 := hA.cells 1
 have h2 := hA.cells 2
 have h3 := hA.cells 3
 have hl0 := hA.lt
 have hg1 := hg.call hB
 have hx1 := hx.call hB
 go_enter Tryz.func75, Tryz.ntmps75
 go_wp2_with fail
 have hbd := below_box (w.alloc (.cells (posCs f r p xs.length c bl ca pa ha fu).toArray 26)) (.cells (bdCs f r p xs.length c).toArray 68)
 have hD1 := HasO.new' (w.alloc (.cells (posCs f r p xs.length c bl ca pa ha fu).toArray 26)) (.cells (bdCs f r p xs.length c).toArray 68) (q := w.heap.size + 1) (by simp)
 have hA1 := hA.call hbd
 have hB1 := below_call hB hB.size hbd
 have hg2 := hg1.call hbd
 have hx2 := hx1.call hbd
 refine (hkg _ hx2).mono ?_
 rintro e w2 ⟨rfl, hb2⟩
 have hA2 := hA1.call hb2
 have hB2 := below_call hB1 hB1.size hb2
 have hx3 := hx2.call hb2
 have hg3 := hg2.call hb2
 have hD2 := hD1.call hb2
 clear h0 h1 h2 h3 hl0 hA hB hb2 hkg hx1 hg1 hA1 hB1 hD1 hx2 hg2 hbd
 have h0 := hD2.cells 0
 have h1 := hD2.cells 1
 have h2 := hD2.cells 2
 have h3 := hA2.cells 3
 have hl0 := hD2.lt
 go_wp2_with fail
 refine (hch _ hg3 hx3).mono ?_
 rintro e w3 ⟨rfl, hb3⟩
 have hB3 := below_call hB2 hB2.size hb3
 clear h0 h1 h2 h3 hl0 hA2 hB2 hb3 hD2 hx3 hg3
 by_cases z1 : e1 = 0 <;> by_cases z2 : e2 = 0 <;> by_cases z3 : (S : Int) = 0
 all_goals
  go_wp2_with fail
  go_ret
  exact ⟨ret_bool (by first | (simp [z1, z2, z3]; done) | (simp only [beq_false_of_ne z3, decide_eq_false z3, z1, z2]; rfl)), hB3⟩
def pawnsB (F : Nat) (xs : List Int) : Bool := !(xs.drop (xs.length - F)).any (· == 1) && !(xs.take F).any (· == -1)
theorem arr_take2 {k : IntKind} {W : World} {g o : Nat} {xs : List Int} (i : Nat) (h : Arr k W (some ⟨g, o, none⟩) xs) : Arr k W (some ⟨g, o, none⟩) (xs.take i) := by
 by_cases hi : xs.length = 0
 ·left; rw [List.length_eq_zero_iff] at hi; rw [hi, List.take_nil]
 ·obtain ⟨g', o', e, hl, hc⟩ := h.at (i := 0) (by omega)
  injection e with e
  injection e with e1 e2 e3
  subst e1 e2
  exact arr_take i hl hc
set_option maxRecDepth 100000 in
theorem pawns_any (F R : Nat) (ca pa ha fu : Int) (bl : Bool) (p : Option Addr) (c : Nat) (xs : List Int) (hF : 3 ≤ F ∧ F ≤ 8) (hl : xs.length ≤ 1000) (hcap : xs.length ≤ c) (hFl : F < xs.length) (w : World) (hx : Arr .i8 w p xs) :
  Calls Tryz.prog 77 #[.agg (posCs F R p xs.length c bl ca pa ha fu).toArray] w fun e w' => e = .returned (.bool (pawnsB F xs)) ∧ Below w.heap.size w w' := by
 have hA := HasO.new w (.cells (posCs F R p xs.length c bl ca pa ha fu).toArray 26)
 have hB := below_box w (.cells (posCs F R p xs.length c bl ca pa ha fu).toArray 26)
 have hx1 := hx.call hB
 obtain ⟨g, o, rfl, hgl, hcc⟩ := hx1.at (i := 0) (by omega)
 clear hcc hgl
 obtain ⟨n, hn⟩ : ∃ n, n = xs.length - F := ⟨_, rfl⟩
 have hdl : (xs.drop n).length = xs.length - n := List.length_drop
 have htl : (xs.take F).length = F := by rw [List.length_take]; omega
 have hc1 := fun W h => contains_any (some ⟨g, o + n, none⟩) (c - n) (xs.drop n) 1 W h (by rw [hdl]; omega)
 have hc2 := fun W h => contains_any (some ⟨g, o, none⟩) c (xs.take F) (-1) W h (by rw [htl]; omega)
 have ha1 := fun W (h : Arr .i8 W (some ⟨g, o, none⟩) xs) => arr_drop n h
 have ha2 := fun W (h : Arr .i8 W (some ⟨g, o, none⟩) xs) => arr_take2 F h
 have hVd : pawnsB F xs = (!(xs.drop n).any (· == 1) && !(xs.take F).any (· == -1)) := by rw [hn]; rfl
 rw [hdl] at hc1
 rw [htl] at hc2
 rw [hVd]
 clear hdl htl hVd
 generalize xs.drop n = y1 at *
 generalize xs.take F = y2 at *
 generalize hd1 : y1.any (· == 1) = D1 at *
 generalize hd2 : y2.any (· == -1) = D2 at *
 have e1 : wrap64 ((xs.length : Int) - F) = ((n : Nat) : Int) := by rw [hn, show ((xs.length - F : Nat) : Int) = (xs.length : Int) - F by omega]; exact IntWalk.wrap64_in _ (by omega)
 have hnl : (n : Int) ≤ xs.length := by omega
 have hnc : (n : Int) ≤ c := by omega
 have hlc : (xs.length : Int) ≤ c := by omega
 have hFc : (F : Int) ≤ c := by omega
 have hnn : ¬ n = c := by omega
 subst hn
 have h0 := hA.cells 0
 have h2 := hA.cells 2
 have hl0 := hA.lt
 go_enter Tryz.func77, Tryz.ntmps77
 go_wp2_with fail
 show Code.wp _ _ _ _ (w.alloc (.cells (posCs F R (some ⟨g, o, none⟩) xs.length c bl ca pa ha fu).toArray 26))
 generalize w.alloc (.cells (posCs F R (some ⟨g, o, none⟩) xs.length c bl ca pa ha fu).toArray 26) = w1 at *
 refine wp_region_vl (by kernel_rfl) (by kernel_rfl) [some 5, some 6, some 7, some 8, some 9, some 10, some 3, some 4] (by rfl) (by rfl) w1.heap.size (fun i8 => match i8 with | 0 => .pointer (some ⟨w.heap.size, 2, none⟩) | 1 => .slice (some ⟨g, o, none⟩) xs.length c | 2 => .int .i64 ((xs.length : Nat) : Int) | 3 => .pointer (some ⟨w.heap.size, 0, none⟩) | 4 => .pointer (some ⟨w.heap.size, 0, none⟩) | 5 => .int .i64 ((F : Nat) : Int) | 6 => .int .i64 ((xs.length : Nat) : Int) | 7 => .int .i64 ((F : Nat) : Int) | _ => undef) (fun _ => none) ?hstep ?hend
 case hstep =>
  intro i9 o9 f9 W ho hi hC hf K hK
  have hi : i9 < 8 := hi
  rcases i9 with _ | _ | _ | _ | _ | _ | _ | _ | i9
  ·exact st_field (og ho) 26 (.tmp 1) 1 (oo ho) (rd_out rfl rfl) (n := 2) (by kernel_rfl) (kk hK)
  ·exact st_loadS (og ho) 24 (.tmp 5) (oo ho) (ri 0 (da ho hf 0)) (by kernel_rfl) ((hA.call hC).cells 2) (kk hK)
  ·exact st_len (og ho) (.tmp 6) 24 (oo ho) Tryz.underlying24 (ri 1 (da ho hf 1)) (kk hK)
  ·exact st_field (og ho) 26 (.tmp 1) 0 (oo ho) (rd_out rfl rfl) (n := 0) (by kernel_rfl) (kk hK)
  ·exact st_field (og ho) 23 (.tmp 8) 0 (oo ho) (ri 3 (da ho hf 3)) (n := 0) (by kernel_rfl) (kk hK)
  ·exact st_loadS (og ho) 3 (.tmp 9) (oo ho) (ri 4 (da ho hf 4)) (by kernel_rfl) ((hA.call hC).cells 0) (kk hK)
  ·exact st_assign (og ho) (.tmp 7) (oo ho) (ri 2 (da ho hf 2)) (kk hK)
  ·exact st_assign (og ho) (.tmp 10) (oo ho) (ri 5 (da ho hf 5)) (kk hK)
  ·omega
 case hend =>
  intro f9 W hC hf
  have hv6 : f9 6 = .int .i64 ((xs.length : Nat) : Int) := hf 6 (by decide)
  have hv7 : f9 7 = .int .i64 ((F : Nat) : Int) := hf 7 (by decide)
  have hA2 := hA.call hC
  have hB2 := below_call hB hB.size hC
  have hx2 := hx1.call hC
  clear hf hA hB hx1 h0 h2 hl0 hC
  have h0 := hA2.cells 0
  have h2 := hA2.cells 2
  have hl0 := hA2.lt
  simp only [putL, Act.put, List.setIfInBounds_toArray, List.set_cons_succ, List.set_cons_zero]
  rw [hv6, hv7]
  clear hv6 hv7
  go_wp2_with fail
  refine (hc1 _ (ha1 _ hx2)).mono ?_
  rintro e w3 ⟨rfl, hb3⟩
  have hA3 := hA2.call hb3
  have hB3 := below_call hB2 hB2.size hb3
  have hx3 := hx2.call hb3
  clear hA2 hB2 hx2 h0 h2 hl0 hb3
  have h0 := hA3.cells 0
  have h2 := hA3.cells 2
  have hl0 := hA3.lt
  cases D1
  ·go_wp2_with fail
   refine (hc2 _ (ha2 _ hx3)).mono ?_
   rintro e w4 ⟨rfl, hb4⟩
   go_wp2_with fail
   go_ret
   exact ⟨by cases D2 <;> rfl, below_call hB3 hB3.size hb4⟩
  ·go_wp2_with fail
   go_ret
   exact ⟨rfl, hB3⟩
end Go.Proofs.YtefmplccbkmalaaGreatDoor
