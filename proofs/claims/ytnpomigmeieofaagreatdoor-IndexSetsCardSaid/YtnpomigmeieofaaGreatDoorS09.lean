import Derived.Test.YtnpomigmeieofaaGreatDoorS02
import Derived.Test.YtnpomigmeieofaaGreatDoorS03
import Derived.Test.YtnpomigmeieofaaGreatDoorS08
import Derived.Lib.SplitLaws
import Derived.Deep.RegionWith
namespace Go.Proofs.YtnpomigmeieofaaGreatDoor

def cnt (l : List UInt8) (k : Nat) : Int := (Lib.count l [pnL[k]?.getD 0] : Nat)
def candMen (size white black : List UInt8) : Men :=
 { f := ((size[0]?.getD 0).toNat : Int) - 48, r := ((size[2]?.getD 0).toNat : Int) - 48,
   w0 := cnt white 0, w1 := cnt white 1, w2 := cnt white 2, w3 := cnt white 3, w4 := cnt white 4,
   b0 := cnt black 0, b1 := cnt black 1, b2 := cnt black 2, b3 := cnt black 3, b4 := cnt black 4 }
def c1 (s : List UInt8) := Lib.cut s [32, 75]
def c2 (s : List UInt8) := Lib.cut (c1 s).2.1 [75]
def cand (s : List UInt8) : Men := candMen (c1 s).1 (c2 s).1 (c2 s).2.1
def parseC (s : List UInt8) : Option Men :=
 if (c1 s).2.2 = true ∧ (c2 s).2.2 = true ∧ (c1 s).1.length = 3 ∧ (c1 s).2.1.length ≤ 6 ∧ validB (cand s) = true ∧ textL (cand s) = s then some (cand s) else none

theorem count_sideN (g : Nat → Int) {k j : Nat} (hk : k < 5) (hj : j ≤ 5) : (sideN g j).count (pnL[k]?.getD 0) = if 5 ≤ k + j then (g k).toNat else 0 := by
 induction j with
 | zero =>
  rcases five hk with rfl | rfl | rfl | rfl | rfl <;> rfl
 | succ j ih =>
  simp only [sideN, List.count_append, ih (by omega), List.count_replicate]
  have hne : (pnL[4 - j]?.getD 0 == pnL[k]?.getD 0) = decide (4 - j = k) := by
   have : 4 - j < 5 := by omega
   generalize 4 - j = i at this
   rcases five hk with rfl | rfl | rfl | rfl | rfl <;> rcases five this with rfl | rfl | rfl | rfl | rfl <;> decide
  rw [hne]
  by_cases h1 : 5 ≤ k + j
  ·rw [if_pos h1, if_neg (by simp; omega), if_pos (by omega)]; rfl
  ·rw [if_neg h1]
   by_cases h2 : 4 - j = k
   ·rw [if_pos (by simpa using h2), if_pos (by omega), h2]; simp
   ·rw [if_neg (by simpa using h2), if_neg (by omega)]
def tailN (g : Nat → Int) : Nat → List UInt8 | 0 => [] | j + 1 => tailN g j ++ List.replicate (g (4 - j)).toNat (pnL[4 - j]?.getD 0)
theorem sideN_cons (g : Nat → Int) (j : Nat) : sideN g j = 75 :: tailN g j := by
 induction j with
 | zero => rfl
 | succ j ih => simp [sideN, tailN, ih]
theorem tailN_noK (g : Nat → Int) {j : Nat} (hj : j ≤ 5) : ∀ x ∈ tailN g j, x ≠ 75 ∧ x ≠ 32 := by
 induction j with
 | zero => simp [tailN]
 | succ j ih =>
  intro x hx
  simp only [tailN, List.mem_append] at hx
  rcases hx with hx | hx
  ·exact ih (by omega) x hx
  ·rw [List.mem_replicate] at hx
   rw [hx.2]
   have : 4 - j < 5 := by omega
   generalize 4 - j = i at this
   rcases five this with rfl | rfl | rfl | rfl | rfl <;> decide
theorem tailN_len {g : Nat → Int} (j : Nat) : (tailN g j).length + 1 = (sideN g j).length := by rw [sideN_cons]; rfl

theorem index_K (l r : List UInt8) (h : ∀ x ∈ l, x ≠ 75) : Lib.index (l ++ 75 :: r) [75] = l.length := by
 induction l with
 | nil => rfl
 | cons x l ih =>
  have hx := h x (by simp)
  have ih := ih (fun y hy => h y (by simp [hy]))
  simp only [List.cons_append, Lib.index, ih]
  rw [if_neg (by simp [List.isPrefixOf]; exact fun e => hx e.symm), if_neg (by simp)]
  simp
theorem cut_K (l r : List UInt8) (h : ∀ x ∈ l, x ≠ 75) : Lib.cut (l ++ 75 :: r) [75] = (l, r, true) := by
 unfold Lib.cut
 rw [index_K l r h, if_pos (by omega)]
 simp
theorem cut_sp (a b c : UInt8) (r : List UInt8) (ha : a ≠ 32) (hb : b ≠ 32) (hc : c ≠ 32) : Lib.cut (a :: b :: c :: 32 :: 75 :: r) [32, 75] = ([a, b, c], r, true) := by
 have e : Lib.index (a :: b :: c :: 32 :: 75 :: r) [32, 75] = 3 := by
  simp only [Lib.index, List.isPrefixOf]
  have h1 : ((32 : UInt8) == a) = false := by simpa using fun e => ha e.symm
  have h2 : ((32 : UInt8) == b) = false := by simpa using fun e => hb e.symm
  have h3 : ((32 : UInt8) == c) = false := by simpa using fun e => hc e.symm
  simp [h1, h2, h3]
 unfold Lib.cut
 rw [e]; rfl

theorem digit_ne {n : Int} (h : 3 ≤ n) (h2 : n ≤ 8) : UInt8.ofNat (48 + n.toNat) ≠ 32 ∧ ((UInt8.ofNat (48 + n.toNat)).toNat : Int) - 48 = n := by
 have : n = 3 ∨ n = 4 ∨ n = 5 ∨ n = 6 ∨ n = 7 ∨ n = 8 := by omega
 rcases this with rfl | rfl | rfl | rfl | rfl | rfl <;> decide

theorem tail_sum {m : Men} (h : validB m = true) : (tailN m.sw 5).length + (tailN m.sb 5).length ≤ 4 := by
 have hs := validB_sum h
 have ho := validB_ok h
 have h0 := menOk_at ho (k := 0) (by omega); have h1 := menOk_at ho (k := 1) (by omega); have h2 := menOk_at ho (k := 2) (by omega); have h3 := menOk_at ho (k := 3) (by omega); have h4 := menOk_at ho (k := 4) (by omega)
 simp only [tailN, List.length_append, List.length_replicate, List.length_nil, Nat.sub_zero, Nat.reduceSub]
 simp only [Men.upto] at hs
 omega

theorem cnt_tail (g : Nat → Int) (hg : ∀ j, j < 5 → 0 ≤ g j) {k : Nat} (hk : k < 5) : cnt (tailN g 5) k = g k := by
 have h1 := count_sideN g hk (Nat.le_refl 5)
 rw [if_pos (by omega), sideN_cons, List.count_cons] at h1
 have h2 : (75 == pnL[k]?.getD 0) = false := by rcases five hk with rfl | rfl | rfl | rfl | rfl <;> decide
 rw [h2] at h1
 unfold cnt
 rw [Lib.count_one, show (tailN g 5).count (pnL[k]?.getD 0) = (g k).toNat from by simpa using h1]
 have := hg k hk
 omega

theorem parse_text {m : Men} (h : validB m = true) : parseC (textL m) = some m := by
 have hz := validB_size h
 have ho := validB_ok h
 have hf := digit_ne hz.1 hz.2.1
 have hr := digit_ne hz.2.2.1 hz.2.2.2
 have e : textL m = UInt8.ofNat (48 + m.f.toNat) :: 120 :: UInt8.ofNat (48 + m.r.toNat) :: 32 :: 75 :: (tailN m.sw 5 ++ 75 :: tailN m.sb 5) := by
  simp [textL, sideL, sideN_cons]
 have h1 : c1 (textL m) = ([UInt8.ofNat (48 + m.f.toNat), 120, UInt8.ofNat (48 + m.r.toNat)], tailN m.sw 5 ++ 75 :: tailN m.sb 5, true) := by
  unfold c1; rw [e]; exact cut_sp _ _ _ _ hf.1 (by decide) hr.1
 have h2 : c2 (textL m) = (tailN m.sw 5, tailN m.sb 5, true) := by
  unfold c2; rw [h1]; exact cut_K _ _ (fun x hx => (tailN_noK _ (Nat.le_refl _) x hx).1)
 have h3 : cand (textL m) = m := by
  unfold cand candMen
  rw [h1, h2]
  have hw : ∀ j, j < 5 → 0 ≤ m.sw j := fun j hj => (menOk_at ho hj).1
  have hb : ∀ j, j < 5 → 0 ≤ m.sb j := fun j hj => (menOk_at ho hj).2.2.1
  simp only [cnt_tail m.sw hw (k := 0) (by omega), cnt_tail m.sw hw (k := 1) (by omega), cnt_tail m.sw hw (k := 2) (by omega), cnt_tail m.sw hw (k := 3) (by omega), cnt_tail m.sw hw (k := 4) (by omega),
   cnt_tail m.sb hb (k := 0) (by omega), cnt_tail m.sb hb (k := 1) (by omega), cnt_tail m.sb hb (k := 2) (by omega), cnt_tail m.sb hb (k := 3) (by omega), cnt_tail m.sb hb (k := 4) (by omega)]
  have e1 : ([UInt8.ofNat (48 + m.f.toNat), (120 : UInt8), UInt8.ofNat (48 + m.r.toNat)][0]?.getD 0) = UInt8.ofNat (48 + m.f.toNat) := rfl
  have e2 : ([UInt8.ofNat (48 + m.f.toNat), (120 : UInt8), UInt8.ofNat (48 + m.r.toNat)][2]?.getD 0) = UInt8.ofNat (48 + m.r.toNat) := rfl
  simp only [e1, e2, hf.2, hr.2]
  rfl
 have ht := tail_sum h
 unfold parseC
 rw [h3, h1, h2]
 simp [h]
 omega
theorem parse_some {s : List UInt8} {m : Men} (h : parseC s = some m) : validB m = true ∧ textL m = s := by
 unfold parseC at h
 split at h
 ·rename_i hc
  injection h with h
  subst h
  exact ⟨hc.2.2.2.2.1, hc.2.2.2.2.2⟩
 ·cases h
end Go.Proofs.YtnpomigmeieofaaGreatDoor
namespace Go.Proofs.YtnpomigmeieofaaGreatDoor

def hit (b : Bool) (c : UInt8) (k j : Nat) : Int := if b = true ∧ j < k ∧ c = pnL[j]?.getD 0 then 1 else 0
def inA (m : Men) (wh : Bool) (c : UInt8) (k : Nat) : Men :=
 ⟨m.f, m.r, m.w0 + hit wh c k 0, m.w1 + hit wh c k 1, m.w2 + hit wh c k 2, m.w3 + hit wh c k 3, m.w4 + hit wh c k 4,
  m.b0 + hit (!wh) c k 0, m.b1 + hit (!wh) c k 1, m.b2 + hit (!wh) c k 2, m.b3 + hit (!wh) c k 3, m.b4 + hit (!wh) c k 4⟩
def kgs (k : Int) (c : UInt8) : Int := if c = 75 then k + 1 else k
def stp (st : Men × Int) (c : UInt8) : Men × Int := (inA st.1 (decide (kgs st.2 c = 1)) c 5, kgs st.2 c)
def refSt (x y : Int) (l : List UInt8) (i : Nat) : Men × Int := ((l.drop 4).take i).foldl stp (⟨x, y, 0, 0, 0, 0, 0, 0, 0, 0, 0, 0⟩, 0)
theorem refSt_succ (x y : Int) (l : List UInt8) {i : Nat} (h : i + 4 < l.length) : refSt x y l (i + 1) = stp (refSt x y l i) (l[i + 4]?.getD 0) := by
 unfold refSt
 rw [List.take_succ_eq_append_getElem (by simp; omega), List.foldl_append]
 simp only [List.getElem_drop, List.foldl_cons, List.foldl_nil]
 rw [List.getElem?_eq_getElem h]
 simp [Nat.add_comm]
theorem inA_zero (m : Men) (b : Bool) (c : UInt8) : inA m b c 0 = m := by
 simp [inA, hit]
theorem hit_le (b : Bool) (c : UInt8) (k j : Nat) : 0 ≤ hit b c k j ∧ hit b c k j ≤ 1 := by unfold hit; split <;> omega
theorem inA_sw (m : Men) (b : Bool) (c : UInt8) (n : Nat) {k : Nat} (hk : k < 5) : (inA m b c n).sw k = m.sw k + hit b c n k := by rcases five hk with rfl | rfl | rfl | rfl | rfl <;> rfl
theorem inA_sb (m : Men) (b : Bool) (c : UInt8) (n : Nat) {k : Nat} (hk : k < 5) : (inA m b c n).sb k = m.sb k + hit (!b) c n k := by rcases five hk with rfl | rfl | rfl | rfl | rfl <;> rfl
theorem hit_self (b : Bool) (c : UInt8) (k : Nat) : hit b c k k = 0 := by simp [hit]
theorem hit_off (c : UInt8) (k j : Nat) : hit false c k j = 0 := by simp [hit]
theorem hit_next {b : Bool} {c : UInt8} {k j : Nat} (h : j ≠ k) : hit b c (k + 1) j = hit b c k j := by
 unfold hit; congr 1; simp only [eq_iff_iff]
 constructor
 ·rintro ⟨h1, h2, h3⟩; exact ⟨h1, by omega, h3⟩
 ·rintro ⟨h1, h2, h3⟩; exact ⟨h1, by omega, h3⟩
theorem hit_miss {b : Bool} {c : UInt8} {k : Nat} (h : c ≠ pnL[k]?.getD 0) (j : Nat) : hit b c (k + 1) j = hit b c k j := by
 unfold hit; congr 1; simp only [eq_iff_iff]
 constructor
 ·rintro ⟨h1, h2, h3⟩
  refine ⟨h1, ?_, h3⟩
  rcases Nat.lt_or_ge j k with h4 | h4
  ·exact h4
  ·obtain rfl : j = k := by omega
   exact absurd h3 h
 ·rintro ⟨h1, h2, h3⟩; exact ⟨h1, by omega, h3⟩
theorem hit_now {c : UInt8} {k : Nat} (h : c = pnL[k]?.getD 0) : hit true c (k + 1) k = 1 := by simp [hit, ← h]
theorem inA_miss {m : Men} {b : Bool} {c : UInt8} {k : Nat} (h : c ≠ pnL[k]?.getD 0) : inA m b c (k + 1) = inA m b c k := by
 simp only [inA, hit_miss h]
theorem inA_w {m : Men} {c : UInt8} {k : Nat} (hk : k < 5) (h : c = pnL[k]?.getD 0) : (inA m true c k).cs.toArray.setIfInBounds (2 + k) (.int .i64 (m.sw k + 1)) = (inA m true c (k + 1)).cs.toArray := by
 have h1 := hit_now h
 have h0 := hit_self true c k
 simp only [inA, Bool.not_true, hit_off]
 rcases five hk with rfl | rfl | rfl | rfl | rfl <;> simp (disch := decide) only [hit_next, h1] <;> rfl
theorem inA_b {m : Men} {c : UInt8} {k : Nat} (hk : k < 5) (h : c = pnL[k]?.getD 0) : (inA m false c k).cs.toArray.setIfInBounds (7 + k) (.int .i64 (m.sb k + 1)) = (inA m false c (k + 1)).cs.toArray := by
 have h1 := hit_now h
 have h0 := hit_self true c k
 simp only [inA, Bool.not_false, hit_off]
 rcases five hk with rfl | rfl | rfl | rfl | rfl <;> simp (disch := decide) only [hit_next, h1] <;> rfl
theorem refSt_bd (x y : Int) (l : List UInt8) (i : Nat) : (∀ k, k < 5 → 0 ≤ (refSt x y l i).1.sw k ∧ (refSt x y l i).1.sw k ≤ i ∧ 0 ≤ (refSt x y l i).1.sb k ∧ (refSt x y l i).1.sb k ≤ i) ∧ 0 ≤ (refSt x y l i).2 ∧ (refSt x y l i).2 ≤ i := by
 induction i with
 | zero =>
  refine ⟨fun k hk => ?_, by simp [refSt], by simp [refSt]⟩
  rcases five hk with rfl | rfl | rfl | rfl | rfl <;> simp [refSt, Men.sw, Men.sb]
 | succ i ih =>
  by_cases h : i + 4 < l.length
  ·rw [refSt_succ x y l h]
   refine ⟨fun k hk => ?_, ?_⟩
   ·have := ih.1 k hk
    simp only [stp, inA_sw _ _ _ _ hk, inA_sb _ _ _ _ hk]
    have h1 := hit_le (decide (kgs (refSt x y l i).2 (l[i + 4]?.getD 0) = 1)) (l[i + 4]?.getD 0) 5 k
    have h2 := hit_le (!decide (kgs (refSt x y l i).2 (l[i + 4]?.getD 0) = 1)) (l[i + 4]?.getD 0) 5 k
    omega
   ·have := ih.2
    simp only [stp, kgs]
    split <;> omega
  ·have e : refSt x y l (i + 1) = refSt x y l i := by
    unfold refSt
    rw [List.take_of_length_le (by simp; omega), List.take_of_length_le (by simp; omega)]
   rw [e]
   refine ⟨fun k hk => ?_, by omega, by omega⟩
   have := ih.1 k hk
   omega
def refCand (s : List UInt8) : Men := (refSt (((s[0]?.getD 0).toNat : Int) - 48) (((s[2]?.getD 0).toNat : Int) - 48) s (s.length - 4)).1

def addW (m : Men) (k : Nat) (n : Int) : Men := match k with | 0 => { m with w0 := m.w0 + n } | 1 => { m with w1 := m.w1 + n } | 2 => { m with w2 := m.w2 + n } | 3 => { m with w3 := m.w3 + n } | _ => { m with w4 := m.w4 + n }
def addB (m : Men) (k : Nat) (n : Int) : Men := match k with | 0 => { m with b0 := m.b0 + n } | 1 => { m with b1 := m.b1 + n } | 2 => { m with b2 := m.b2 + n } | 3 => { m with b3 := m.b3 + n } | _ => { m with b4 := m.b4 + n }
theorem stp_w (m : Men) {k : Nat} (hk : k < 5) : stp (m, 1) (pnL[k]?.getD 0) = (addW m k 1, 1) := by
 rcases five hk with rfl | rfl | rfl | rfl | rfl <;> simp [stp, inA, hit, kgs, pnL, addW]
theorem stp_b (m : Men) {k : Nat} (hk : k < 5) : stp (m, 2) (pnL[k]?.getD 0) = (addB m k 1, 2) := by
 rcases five hk with rfl | rfl | rfl | rfl | rfl <;> simp [stp, inA, hit, kgs, pnL, addB]
theorem stp_K (m : Men) (k : Int) : stp (m, k) 75 = (m, k + 1) := by
 simp [stp, inA, hit, kgs, pnL]
theorem rep_w (m : Men) {k : Nat} (hk : k < 5) (n : Nat) : (List.replicate n (pnL[k]?.getD 0)).foldl stp (m, 1) = (addW m k n, 1) := by
 induction n generalizing m with
 | zero => rcases five hk with rfl | rfl | rfl | rfl | rfl <;> simp [addW]
 | succ n ih =>
  rw [List.replicate_succ, List.foldl_cons, stp_w m hk, ih]
  rcases five hk with rfl | rfl | rfl | rfl | rfl <;> simp [addW] <;> omega
theorem rep_b (m : Men) {k : Nat} (hk : k < 5) (n : Nat) : (List.replicate n (pnL[k]?.getD 0)).foldl stp (m, 2) = (addB m k n, 2) := by
 induction n generalizing m with
 | zero => rcases five hk with rfl | rfl | rfl | rfl | rfl <;> simp [addB]
 | succ n ih =>
  rw [List.replicate_succ, List.foldl_cons, stp_b m hk, ih]
  rcases five hk with rfl | rfl | rfl | rfl | rfl <;> simp [addB] <;> omega
theorem refCand_text {m : Men} (h : validB m = true) : refCand (textL m) = m := by
 have hz := validB_size h
 have ho := validB_ok h
 have hg : ∀ k, k < 5 → (((m.sw k).toNat : Nat) : Int) = m.sw k ∧ (((m.sb k).toNat : Nat) : Int) = m.sb k := fun k hk => by have := menOk_at ho hk; omega
 have d1 := digit_ne (n := m.f) (by omega) (by omega)
 have d2 := digit_ne (n := m.r) (by omega) (by omega)
 unfold refCand refSt
 have e0 : (textL m)[0]?.getD 0 = UInt8.ofNat (48 + m.f.toNat) := rfl
 have e2 : (textL m)[2]?.getD 0 = UInt8.ofNat (48 + m.r.toNat) := rfl
 have ed : (textL m).drop 4 = sideL m.sw ++ sideL m.sb := rfl
 rw [e0, e2, d1.2, d2.2, ed, List.take_of_length_le (by rw [← ed]; simp)]
 unfold sideL
 simp only [sideN, List.foldl_append, List.foldl_cons, List.foldl_nil, stp_K]
 simp only [Nat.sub_zero, Nat.reduceSub]
 simp only [show (0 : Int) + 1 = 1 from rfl, rep_w _ (show 4 < 5 by decide), rep_w _ (show 3 < 5 by decide), rep_w _ (show 2 < 5 by decide), rep_w _ (show 1 < 5 by decide), rep_w _ (show 0 < 5 by decide)]
 simp only [stp_K, show (1 : Int) + 1 = 2 from rfl, rep_b _ (show 4 < 5 by decide), rep_b _ (show 3 < 5 by decide), rep_b _ (show 2 < 5 by decide), rep_b _ (show 1 < 5 by decide), rep_b _ (show 0 < 5 by decide)]
 simp only [(hg 0 (by decide)).1, (hg 0 (by decide)).2, (hg 1 (by decide)).1, (hg 1 (by decide)).2, (hg 2 (by decide)).1, (hg 2 (by decide)).2, (hg 3 (by decide)).1, (hg 3 (by decide)).2, (hg 4 (by decide)).1, (hg 4 (by decide)).2]
 simp [addW, addB, Men.sw, Men.sb]
theorem parse_ref (s : List UInt8) : parseC s = if validB (refCand s) = true ∧ textL (refCand s) = s then some (refCand s) else none := by
 by_cases h : validB (refCand s) = true ∧ textL (refCand s) = s
 ·rw [if_pos h]
  have := parse_text h.1
  rw [h.2] at this; exact this
 ·rw [if_neg h]
  rcases hp : parseC s with _ | m
  ·rfl
  ·exfalso
   have := parse_some hp
   refine h ?_
   rw [← this.2, refCand_text this.1]
   exact ⟨this.1, rfl⟩
theorem parse_len {s : List UInt8} (h : s.length < 6 ∨ 10 < s.length) : parseC s = none := by
 rcases hp : parseC s with _ | m
 ·rfl
 ·exfalso
  have := parse_some hp
  have h2 := tail_sum this.1
  have h3 := tailN_len (g := m.sw) 5
  have h4 := tailN_len (g := m.sb) 5
  have : (textL m).length = s.length := by rw [this.2]
  simp only [textL, sideL, List.length_append, List.length_cons, List.length_nil] at this
  omega
end Go.Proofs.YtnpomigmeieofaaGreatDoor
namespace Go.Proofs.YtnpomigmeieofaaGreatDoor

end Go.Proofs.YtnpomigmeieofaaGreatDoor
namespace Go.Proofs.YtnpomigmeieofaaGreatDoor

end Go.Proofs.YtnpomigmeieofaaGreatDoor
namespace Go.Proofs.YtnpomigmeieofaaGreatDoor
open Go.RowKit

theorem Text_any (m : Men) (w : World) : Calls Tryz.prog 8 #[.agg m.cs.toArray] w fun e w' => e = .returned (.tuple (if validB m = true then #[.string (str (textL m)), .int .i64 0] else #[.string (str []), .int .i64 2])) ∧ Below w.heap.size w w' := by
 have hM0 : HasO (w.alloc (.cells m.cs.toArray 26)) w.heap.size (.cells m.cs.toArray 26 (0, 0)) := HasO.new _ _
 go_enter Tryz.func8, Tryz.ntmps8
 rcases hv : validB m with _ | _
 ·go_wp2_with fail
  refine (valid_any m _).mono ?_
  rintro e w1 ⟨rfl, hb1⟩
  go_wp2_with fail
  go_ret2
  exact ⟨rfl, below_call (below_box w _) (by simp) hb1⟩
 ·have hV := Lib.hid hv
  go_wp2_with fail
  refine (valid_any m _).mono ?_
  rintro e w1 ⟨rfl, hb1⟩
  have hb := below_call (below_box w _) (by simp) hb1
  have hc := (hM0.call hb1).cells
  clear hb1 hM0
  go_wp2_with fail
  refine (text_any m _ hV).mono ?_
  rintro e w2 ⟨rfl, hb2⟩
  go_wp2_with fail
  go_ret2
  exact ⟨rfl, below_call hb hb.size hb2⟩

def MaxOk (w : World) : Prop := ∃ m, w.cell? ⟨0, 0, none⟩ = some (.int .i64 m) ∧ 0 < w.heap.size
theorem MaxOk.call {w w' : World} (h : MaxOk w) {B : Nat} (hb : Below B w w') (hB : 0 < B) : MaxOk w' := by
 obtain ⟨m, h1, h2⟩ := h
 exact ⟨m, (hb.cell (p := ⟨0, 0, none⟩) hB).trans h1, Nat.lt_of_lt_of_le h2 hb.size⟩
theorem cut_any (s sep : List UInt8) (w : World) (hs : s.length ≤ 2000000) (hm : MaxOk w) : Calls Tryz.prog 42 #[.string (str s), .string (str sep)] w fun e w' =>
  e = .returned (.tuple #[.string (str (Lib.cut s sep).1), .string (str (Lib.cut s sep).2.1), .bool (Lib.cut s sep).2.2]) ∧ ∃ n, w.drewN n = w' := by
 obtain ⟨m, hm, _⟩ := hm
 refine (Tryz.strings_Cut (str s) (str sep) m w (by rw [str_size]; omega) hm).mono ?_
 rintro e w' ⟨rfl, n, rfl⟩
 exact ⟨rfl, n, rfl⟩
theorem count_any1 (s : List UInt8) (c : UInt8) (w : World) (hs : s.length ≤ 2000000) (hm : MaxOk w) : Calls Tryz.prog 43 #[.string (str s), .string (str [c])] w fun e w' =>
  e = .returned (.int .i64 (Lib.count s [c] : Nat)) ∧ w = w' := by
 obtain ⟨m, hm, _⟩ := hm
 refine (Tryz.strings_Count_any (str s) (str [c]) m w (by rw [str_size]; omega) hm (by rw [str_size]; simp)).mono ?_
 rintro e w' ⟨rfl, rfl⟩
 exact ⟨rfl, rfl⟩
end Go.Proofs.YtnpomigmeieofaaGreatDoor
