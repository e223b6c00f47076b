import Derived.Test.YtddkhnnpeonbgaaGreatDoorH01
import Derived.Lib.SplitLaws
namespace Go.Proofs.YtddkhnnpeonbgaaGreatDoor

def cnt (l : List UInt8) (k : Nat) : Int := (Lib.count l [pnL[k]?.getD 0] : Nat)
def candMen (size white black : List UInt8) : Men :=
 { f := ((size[0]?.getD 0).toNat : Int) - 48, r := ((size[2]?.getD 0).toNat : Int) - 48,
   w0 := cnt white 0, w1 := cnt white 1, w2 := cnt white 2, w3 := cnt white 3, w4 := cnt white 4,
   b0 := cnt black 0, b1 := cnt black 1, b2 := cnt black 2, b3 := cnt black 3, b4 := cnt black 4 }
def c1 (s : List UInt8) := Lib.cut s [32, 75]
def c2 (s : List UInt8) := Lib.cut (c1 s).2.1 [75]
def cand (s : List UInt8) : Men := candMen (c1 s).1 (c2 s).1 (c2 s).2.1
def parseC (s : List UInt8) : Option Men :=
 if (c1 s).2.2 = true ∧ (c2 s).2.2 = true ∧ (c1 s).1.length = 3 ∧ (c1 s).2.1.length ≤ 6 ∧ validB (cand s) = true ∧ textL (cand s) = s then some (cand s) else none

theorem count_sideN (g : Nat → Int) {k j : Nat} (hk : k < 5) (hj : j ≤ 5) : (sideN g j).count (pnL[k]?.getD 0) = if 5 ≤ k + j then (g k).toNat else 0 := by
 induction j with
 | zero =>
  rcases five hk with rfl | rfl | rfl | rfl | rfl <;> rfl
 | succ j ih =>
  simp only [sideN, List.count_append, ih (by omega), List.count_replicate]
  have hne : (pnL[4 - j]?.getD 0 == pnL[k]?.getD 0) = decide (4 - j = k) := by
   have : 4 - j < 5 := by omega
   generalize 4 - j = i at this
   rcases five hk with rfl | rfl | rfl | rfl | rfl <;> rcases five this with rfl | rfl | rfl | rfl | rfl <;> decide
  rw [hne]
  by_cases h1 : 5 ≤ k + j
  ·rw [if_pos h1, if_neg (by simp; omega), if_pos (by omega)]; rfl
  ·rw [if_neg h1]
   by_cases h2 : 4 - j = k
   ·rw [if_pos (by simpa using h2), if_pos (by omega), h2]; simp
   ·rw [if_neg (by simpa using h2), if_neg (by omega)]
def tailN (g : Nat → Int) : Nat → List UInt8 | 0 => [] | j + 1 => tailN g j ++ List.replicate (g (4 - j)).toNat (pnL[4 - j]?.getD 0)
theorem sideN_cons (g : Nat → Int) (j : Nat) : sideN g j = 75 :: tailN g j := by
 induction j with
 | zero => rfl
 | succ j ih => simp [sideN, tailN, ih]
theorem tailN_noK (g : Nat → Int) {j : Nat} (hj : j ≤ 5) : ∀ x ∈ tailN g j, x ≠ 75 ∧ x ≠ 32 := by
 induction j with
 | zero => simp [tailN]
 | succ j ih =>
  intro x hx
  simp only [tailN, List.mem_append] at hx
  rcases hx with hx | hx
  ·exact ih (by omega) x hx
  ·rw [List.mem_replicate] at hx
   rw [hx.2]
   have : 4 - j < 5 := by omega
   generalize 4 - j = i at this
   rcases five this with rfl | rfl | rfl | rfl | rfl <;> decide
theorem tailN_len {g : Nat → Int} (j : Nat) : (tailN g j).length + 1 = (sideN g j).length := by rw [sideN_cons]; rfl

theorem index_K (l r : List UInt8) (h : ∀ x ∈ l, x ≠ 75) : Lib.index (l ++ 75 :: r) [75] = l.length := by
 induction l with
 | nil => rfl
 | cons x l ih =>
  have hx := h x (by simp)
  have ih := ih (fun y hy => h y (by simp [hy]))
  simp only [List.cons_append, Lib.index, ih]
  rw [if_neg (by simp [List.isPrefixOf]; exact fun e => hx e.symm), if_neg (by simp)]
  simp
theorem cut_K (l r : List UInt8) (h : ∀ x ∈ l, x ≠ 75) : Lib.cut (l ++ 75 :: r) [75] = (l, r, true) := by
 unfold Lib.cut
 rw [index_K l r h, if_pos (by omega)]
 simp
theorem cut_sp (a b c : UInt8) (r : List UInt8) (ha : a ≠ 32) (hb : b ≠ 32) (hc : c ≠ 32) : Lib.cut (a :: b :: c :: 32 :: 75 :: r) [32, 75] = ([a, b, c], r, true) := by
 have e : Lib.index (a :: b :: c :: 32 :: 75 :: r) [32, 75] = 3 := by
  simp only [Lib.index, List.isPrefixOf]
  have h1 : ((32 : UInt8) == a) = false := by simpa using fun e => ha e.symm
  have h2 : ((32 : UInt8) == b) = false := by simpa using fun e => hb e.symm
  have h3 : ((32 : UInt8) == c) = false := by simpa using fun e => hc e.symm
  simp [h1, h2, h3]
 unfold Lib.cut
 rw [e]; rfl

theorem digit_ne {n : Int} (h : 3 ≤ n) (h2 : n ≤ 8) : UInt8.ofNat (48 + n.toNat) ≠ 32 ∧ ((UInt8.ofNat (48 + n.toNat)).toNat : Int) - 48 = n := by
 have : n = 3 ∨ n = 4 ∨ n = 5 ∨ n = 6 ∨ n = 7 ∨ n = 8 := by omega
 rcases this with rfl | rfl | rfl | rfl | rfl | rfl <;> decide

theorem tail_sum {m : Men} (h : validB m = true) : (tailN m.sw 5).length + (tailN m.sb 5).length ≤ 4 := by
 have hs := validB_sum h
 have ho := validB_ok h
 have h0 := menOk_at ho (k := 0) (by omega); have h1 := menOk_at ho (k := 1) (by omega); have h2 := menOk_at ho (k := 2) (by omega); have h3 := menOk_at ho (k := 3) (by omega); have h4 := menOk_at ho (k := 4) (by omega)
 simp only [tailN, List.length_append, List.length_replicate, List.length_nil, Nat.sub_zero, Nat.reduceSub]
 simp only [Men.upto] at hs
 omega

theorem cnt_tail (g : Nat → Int) (hg : ∀ j, j < 5 → 0 ≤ g j) {k : Nat} (hk : k < 5) : cnt (tailN g 5) k = g k := by
 have h1 := count_sideN g hk (Nat.le_refl 5)
 rw [if_pos (by omega), sideN_cons, List.count_cons] at h1
 have h2 : (75 == pnL[k]?.getD 0) = false := by rcases five hk with rfl | rfl | rfl | rfl | rfl <;> decide
 rw [h2] at h1
 unfold cnt
 rw [Lib.count_one, show (tailN g 5).count (pnL[k]?.getD 0) = (g k).toNat from by simpa using h1]
 have := hg k hk
 omega

theorem parse_text {m : Men} (h : validB m = true) : parseC (textL m) = some m := by
 have hz := validB_size h
 have ho := validB_ok h
 have hf := digit_ne hz.1 hz.2.1
 have hr := digit_ne hz.2.2.1 hz.2.2.2
 have e : textL m = UInt8.ofNat (48 + m.f.toNat) :: 120 :: UInt8.ofNat (48 + m.r.toNat) :: 32 :: 75 :: (tailN m.sw 5 ++ 75 :: tailN m.sb 5) := by
  simp [textL, sideL, sideN_cons]
 have h1 : c1 (textL m) = ([UInt8.ofNat (48 + m.f.toNat), 120, UInt8.ofNat (48 + m.r.toNat)], tailN m.sw 5 ++ 75 :: tailN m.sb 5, true) := by
  unfold c1; rw [e]; exact cut_sp _ _ _ _ hf.1 (by decide) hr.1
 have h2 : c2 (textL m) = (tailN m.sw 5, tailN m.sb 5, true) := by
  unfold c2; rw [h1]; exact cut_K _ _ (fun x hx => (tailN_noK _ (Nat.le_refl _) x hx).1)
 have h3 : cand (textL m) = m := by
  unfold cand candMen
  rw [h1, h2]
  have hw : ∀ j, j < 5 → 0 ≤ m.sw j := fun j hj => (menOk_at ho hj).1
  have hb : ∀ j, j < 5 → 0 ≤ m.sb j := fun j hj => (menOk_at ho hj).2.2.1
  simp only [cnt_tail m.sw hw (k := 0) (by omega), cnt_tail m.sw hw (k := 1) (by omega), cnt_tail m.sw hw (k := 2) (by omega), cnt_tail m.sw hw (k := 3) (by omega), cnt_tail m.sw hw (k := 4) (by omega),
   cnt_tail m.sb hb (k := 0) (by omega), cnt_tail m.sb hb (k := 1) (by omega), cnt_tail m.sb hb (k := 2) (by omega), cnt_tail m.sb hb (k := 3) (by omega), cnt_tail m.sb hb (k := 4) (by omega)]
  have e1 : ([UInt8.ofNat (48 + m.f.toNat), (120 : UInt8), UInt8.ofNat (48 + m.r.toNat)][0]?.getD 0) = UInt8.ofNat (48 + m.f.toNat) := rfl
  have e2 : ([UInt8.ofNat (48 + m.f.toNat), (120 : UInt8), UInt8.ofNat (48 + m.r.toNat)][2]?.getD 0) = UInt8.ofNat (48 + m.r.toNat) := rfl
  simp only [e1, e2, hf.2, hr.2]
  rfl
 have ht := tail_sum h
 unfold parseC
 rw [h3, h1, h2]
 simp [h]
 omega
theorem parse_some {s : List UInt8} {m : Men} (h : parseC s = some m) : validB m = true ∧ textL m = s := by
 unfold parseC at h
 split at h
 ·rename_i hc
  injection h with h
  subst h
  exact ⟨hc.2.2.2.2.1, hc.2.2.2.2.2⟩
 ·cases h
end Go.Proofs.YtddkhnnpeonbgaaGreatDoor
namespace Go.Proofs.YtddkhnnpeonbgaaGreatDoor

def hit (b : Bool) (c : UInt8) (k j : Nat) : Int := if b = true ∧ j < k ∧ c = pnL[j]?.getD 0 then 1 else 0
def inA (m : Men) (wh : Bool) (c : UInt8) (k : Nat) : Men :=
 ⟨m.f, m.r, m.w0 + hit wh c k 0, m.w1 + hit wh c k 1, m.w2 + hit wh c k 2, m.w3 + hit wh c k 3, m.w4 + hit wh c k 4,
  m.b0 + hit (!wh) c k 0, m.b1 + hit (!wh) c k 1, m.b2 + hit (!wh) c k 2, m.b3 + hit (!wh) c k 3, m.b4 + hit (!wh) c k 4⟩
def kgs (k : Int) (c : UInt8) : Int := if c = 75 then k + 1 else k
def stp (st : Men × Int) (c : UInt8) : Men × Int := (inA st.1 (decide (kgs st.2 c = 1)) c 5, kgs st.2 c)
def refSt (x y : Int) (l : List UInt8) (i : Nat) : Men × Int := ((l.drop 4).take i).foldl stp (⟨x, y, 0, 0, 0, 0, 0, 0, 0, 0, 0, 0⟩, 0)
theorem refSt_succ (x y : Int) (l : List UInt8) {i : Nat} (h : i + 4 < l.length) : refSt x y l (i + 1) = stp (refSt x y l i) (l[i + 4]?.getD 0) := by
 unfold refSt
 rw [List.take_succ_eq_append_getElem (by simp; omega), List.foldl_append]
 simp only [List.getElem_drop, List.foldl_cons, List.foldl_nil]
 rw [List.getElem?_eq_getElem h]
 simp [Nat.add_comm]
theorem inA_zero (m : Men) (b : Bool) (c : UInt8) : inA m b c 0 = m := by
 simp [inA, hit]
theorem hit_le (b : Bool) (c : UInt8) (k j : Nat) : 0 ≤ hit b c k j ∧ hit b c k j ≤ 1 := by unfold hit; split <;> omega
theorem inA_sw (m : Men) (b : Bool) (c : UInt8) (n : Nat) {k : Nat} (hk : k < 5) : (inA m b c n).sw k = m.sw k + hit b c n k := by rcases five hk with rfl | rfl | rfl | rfl | rfl <;> rfl
theorem inA_sb (m : Men) (b : Bool) (c : UInt8) (n : Nat) {k : Nat} (hk : k < 5) : (inA m b c n).sb k = m.sb k + hit (!b) c n k := by rcases five hk with rfl | rfl | rfl | rfl | rfl <;> rfl
theorem hit_self (b : Bool) (c : UInt8) (k : Nat) : hit b c k k = 0 := by simp [hit]
theorem hit_off (c : UInt8) (k j : Nat) : hit false c k j = 0 := by simp [hit]
theorem hit_next {b : Bool} {c : UInt8} {k j : Nat} (h : j ≠ k) : hit b c (k + 1) j = hit b c k j := by
 unfold hit; congr 1; simp only [eq_iff_iff]
 constructor
 ·rintro ⟨h1, h2, h3⟩; exact ⟨h1, by omega, h3⟩
 ·rintro ⟨h1, h2, h3⟩; exact ⟨h1, by omega, h3⟩
theorem hit_miss {b : Bool} {c : UInt8} {k : Nat} (h : c ≠ pnL[k]?.getD 0) (j : Nat) : hit b c (k + 1) j = hit b c k j := by
 unfold hit; congr 1; simp only [eq_iff_iff]
 constructor
 ·rintro ⟨h1, h2, h3⟩
  refine ⟨h1, ?_, h3⟩
  rcases Nat.lt_or_ge j k with h4 | h4
  ·exact h4
  ·obtain rfl : j = k := by omega
   exact absurd h3 h
 ·rintro ⟨h1, h2, h3⟩; exact ⟨h1, by omega, h3⟩
theorem hit_now {c : UInt8} {k : Nat} (h : c = pnL[k]?.getD 0) : hit true c (k + 1) k = 1 := by simp [hit, ← h]
theorem inA_miss {m : Men} {b : Bool} {c : UInt8} {k : Nat} (h : c ≠ pnL[k]?.getD 0) : inA m b c (k + 1) = inA m b c k := by
 simp only [inA, hit_miss h]
theorem inA_w {m : Men} {c : UInt8} {k : Nat} (hk : k < 5) (h : c = pnL[k]?.getD 0) : (inA m true c k).cs.toArray.setIfInBounds (2 + k) (.int .i64 (m.sw k + 1)) = (inA m true c (k + 1)).cs.toArray := by
 have h1 := hit_now h
 have h0 := hit_self true c k
 simp only [inA, Bool.not_true, hit_off]
 rcases five hk with rfl | rfl | rfl | rfl | rfl <;> simp (disch := decide) only [hit_next, h1] <;> rfl
theorem inA_b {m : Men} {c : UInt8} {k : Nat} (hk : k < 5) (h : c = pnL[k]?.getD 0) : (inA m false c k).cs.toArray.setIfInBounds (7 + k) (.int .i64 (m.sb k + 1)) = (inA m false c (k + 1)).cs.toArray := by
 have h1 := hit_now h
 have h0 := hit_self true c k
 simp only [inA, Bool.not_false, hit_off]
 rcases five hk with rfl | rfl | rfl | rfl | rfl <;> simp (disch := decide) only [hit_next, h1] <;> rfl
theorem refSt_bd (x y : Int) (l : List UInt8) (i : Nat) : (∀ k, k < 5 → 0 ≤ (refSt x y l i).1.sw k ∧ (refSt x y l i).1.sw k ≤ i ∧ 0 ≤ (refSt x y l i).1.sb k ∧ (refSt x y l i).1.sb k ≤ i) ∧ 0 ≤ (refSt x y l i).2 ∧ (refSt x y l i).2 ≤ i := by
 induction i with
 | zero =>
  refine ⟨fun k hk => ?_, by simp [refSt], by simp [refSt]⟩
  rcases five hk with rfl | rfl | rfl | rfl | rfl <;> simp [refSt, Men.sw, Men.sb]
 | succ i ih =>
  by_cases h : i + 4 < l.length
  ·rw [refSt_succ x y l h]
   refine ⟨fun k hk => ?_, ?_⟩
   ·have := ih.1 k hk
    simp only [stp, inA_sw _ _ _ _ hk, inA_sb _ _ _ _ hk]
    have h1 := hit_le (decide (kgs (refSt x y l i).2 (l[i + 4]?.getD 0) = 1)) (l[i + 4]?.getD 0) 5 k
    have h2 := hit_le (!decide (kgs (refSt x y l i).2 (l[i + 4]?.getD 0) = 1)) (l[i + 4]?.getD 0) 5 k
    omega
   ·have := ih.2
    simp only [stp, kgs]
    split <;> omega
  ·have e : refSt x y l (i + 1) = refSt x y l i := by
    unfold refSt
    rw [List.take_of_length_le (by simp; omega), List.take_of_length_le (by simp; omega)]
   rw [e]
   refine ⟨fun k hk => ?_, by omega, by omega⟩
   have := ih.1 k hk
   omega
def refCand (s : List UInt8) : Men := (refSt (((s[0]?.getD 0).toNat : Int) - 48) (((s[2]?.getD 0).toNat : Int) - 48) s (s.length - 4)).1

def addW (m : Men) (k : Nat) (n : Int) : Men := match k with | 0 => { m with w0 := m.w0 + n } | 1 => { m with w1 := m.w1 + n } | 2 => { m with w2 := m.w2 + n } | 3 => { m with w3 := m.w3 + n } | _ => { m with w4 := m.w4 + n }
def addB (m : Men) (k : Nat) (n : Int) : Men := match k with | 0 => { m with b0 := m.b0 + n } | 1 => { m with b1 := m.b1 + n } | 2 => { m with b2 := m.b2 + n } | 3 => { m with b3 := m.b3 + n } | _ => { m with b4 := m.b4 + n }
theorem stp_w (m : Men) {k : Nat} (hk : k < 5) : stp (m, 1) (pnL[k]?.getD 0) = (addW m k 1, 1) := by
 rcases five hk with rfl | rfl | rfl | rfl | rfl <;> simp [stp, inA, hit, kgs, pnL, addW]
theorem stp_b (m : Men) {k : Nat} (hk : k < 5) : stp (m, 2) (pnL[k]?.getD 0) = (addB m k 1, 2) := by
 rcases five hk with rfl | rfl | rfl | rfl | rfl <;> simp [stp, inA, hit, kgs, pnL, addB]
theorem stp_K (m : Men) (k : Int) : stp (m, k) 75 = (m, k + 1) := by
 simp [stp, inA, hit, kgs, pnL]
theorem rep_w (m : Men) {k : Nat} (hk : k < 5) (n : Nat) : (List.replicate n (pnL[k]?.getD 0)).foldl stp (m, 1) = (addW m k n, 1) := by
 induction n generalizing m with
 | zero => rcases five hk with rfl | rfl | rfl | rfl | rfl <;> simp [addW]
 | succ n ih =>
  rw [List.replicate_succ, List.foldl_cons, stp_w m hk, ih]
  rcases five hk with rfl | rfl | rfl | rfl | rfl <;> simp [addW] <;> omega
theorem rep_b (m : Men) {k : Nat} (hk : k < 5) (n : Nat) : (List.replicate n (pnL[k]?.getD 0)).foldl stp (m, 2) = (addB m k n, 2) := by
 induction n generalizing m with
 | zero => rcases five hk with rfl | rfl | rfl | rfl | rfl <;> simp [addB]
 | succ n ih =>
  rw [List.replicate_succ, List.foldl_cons, stp_b m hk, ih]
  rcases five hk with rfl | rfl | rfl | rfl | rfl <;> simp [addB] <;> omega
theorem refCand_text {m : Men} (h : validB m = true) : refCand (textL m) = m := by
 have hz := validB_size h
 have ho := validB_ok h
 have hg : ∀ k, k < 5 → (((m.sw k).toNat : Nat) : Int) = m.sw k ∧ (((m.sb k).toNat : Nat) : Int) = m.sb k := fun k hk => by have := menOk_at ho hk; omega
 have d1 := digit_ne (n := m.f) (by omega) (by omega)
 have d2 := digit_ne (n := m.r) (by omega) (by omega)
 unfold refCand refSt
 have e0 : (textL m)[0]?.getD 0 = UInt8.ofNat (48 + m.f.toNat) := rfl
 have e2 : (textL m)[2]?.getD 0 = UInt8.ofNat (48 + m.r.toNat) := rfl
 have ed : (textL m).drop 4 = sideL m.sw ++ sideL m.sb := rfl
 rw [e0, e2, d1.2, d2.2, ed, List.take_of_length_le (by rw [← ed]; simp)]
 unfold sideL
 simp only [sideN, List.foldl_append, List.foldl_cons, List.foldl_nil, stp_K]
 simp only [Nat.sub_zero, Nat.reduceSub]
 simp only [show (0 : Int) + 1 = 1 from rfl, rep_w _ (show 4 < 5 by decide), rep_w _ (show 3 < 5 by decide), rep_w _ (show 2 < 5 by decide), rep_w _ (show 1 < 5 by decide), rep_w _ (show 0 < 5 by decide)]
 simp only [stp_K, show (1 : Int) + 1 = 2 from rfl, rep_b _ (show 4 < 5 by decide), rep_b _ (show 3 < 5 by decide), rep_b _ (show 2 < 5 by decide), rep_b _ (show 1 < 5 by decide), rep_b _ (show 0 < 5 by decide)]
 simp only [(hg 0 (by decide)).1, (hg 0 (by decide)).2, (hg 1 (by decide)).1, (hg 1 (by decide)).2, (hg 2 (by decide)).1, (hg 2 (by decide)).2, (hg 3 (by decide)).1, (hg 3 (by decide)).2, (hg 4 (by decide)).1, (hg 4 (by decide)).2]
 simp [addW, addB, Men.sw, Men.sb]
theorem parse_ref (s : List UInt8) : parseC s = if validB (refCand s) = true ∧ textL (refCand s) = s then some (refCand s) else none := by
 by_cases h : validB (refCand s) = true ∧ textL (refCand s) = s
 ·rw [if_pos h]
  have := parse_text h.1
  rw [h.2] at this; exact this
 ·rw [if_neg h]
  rcases hp : parseC s with _ | m
  ·rfl
  ·exfalso
   have := parse_some hp
   refine h ?_
   rw [← this.2, refCand_text this.1]
   exact ⟨this.1, rfl⟩
theorem parse_len {s : List UInt8} (h : s.length < 6 ∨ 10 < s.length) : parseC s = none := by
 rcases hp : parseC s with _ | m
 ·rfl
 ·exfalso
  have := parse_some hp
  have h2 := tail_sum this.1
  have h3 := tailN_len (g := m.sw) 5
  have h4 := tailN_len (g := m.sb) 5
  have : (textL m).length = s.length := by rw [this.2]
  simp only [textL, sideL, List.length_append, List.length_cons, List.length_nil] at this
  omega
end Go.Proofs.YtddkhnnpeonbgaaGreatDoor
namespace Go.Proofs.YtddkhnnpeonbgaaGreatDoor

def valL (bs : List Int) : Int := bs.foldl (fun b x => 2 * b + x) 0
def bitsI : Nat → Int → List Int | 0, _ => [] | w + 1, d => (d / 2 ^ w % 2) :: bitsI w d
def bytesN : Nat → List Int → List Int | 0, _ => [] | n + 1, bs => valL (bs.take 8) :: bytesN n (bs.drop 8)
def padN (n : Nat) : Nat := (8 - n % 8) % 8
def padL (bs : List Int) : List Int := bs ++ List.replicate (padN bs.length) 0
def isBits (bs : List Int) : Prop := ∀ x ∈ bs, x = 0 ∨ x = 1

theorem valL_foldl (bs : List Int) (a : Int) : bs.foldl (fun b x => 2 * b + x) a = a * 2 ^ bs.length + valL bs := by
 unfold valL
 induction bs generalizing a with
 | nil => simp
 | cons x bs ih =>
  simp only [List.foldl_cons, List.length_cons]
  rw [ih, ih (2 * 0 + x), Int.pow_succ, Int.add_mul]
  simp only [Int.mul_zero, Int.zero_add, Int.add_assoc, Int.mul_comm 2 a, Int.mul_assoc]
  congr 2
  exact Int.mul_comm _ _
theorem valL_append (a b : List Int) : valL (a ++ b) = valL a * 2 ^ b.length + valL b := by
 conv => lhs; unfold valL
 rw [List.foldl_append, valL_foldl]; rfl
theorem valL_cons (x : Int) (b : List Int) : valL (x :: b) = x * 2 ^ b.length + valL b := by
 have := valL_append [x] b
 simpa [valL] using this
theorem pow_pos2 (n : Nat) : (0 : Int) < 2 ^ n := Int.pow_pos (by decide)
theorem valL_bd {bs : List Int} (h : isBits bs) : 0 ≤ valL bs ∧ valL bs < 2 ^ bs.length := by
 induction bs with
 | nil => simp [valL]
 | cons x bs ih =>
  rw [valL_cons]
  have h1 := ih (fun y hy => h y (List.mem_cons_of_mem _ hy))
  simp only [List.length_cons, Int.pow_succ]
  rcases h x List.mem_cons_self with rfl | rfl <;> omega
theorem bitsI_len (w : Nat) (d : Int) : (bitsI w d).length = w := by induction w with | zero => rfl | succ w ih => simp [bitsI, ih]
theorem bitsI_bits (w : Nat) (d : Int) : isBits (bitsI w d) := by
 induction w with
 | zero => intro x hx; cases hx
 | succ w ih =>
  intro x hx
  rcases List.mem_cons.1 hx with rfl | hx
  ·omega
  ·exact ih x hx
theorem bitsI_val (w : Nat) (d : Int) (h0 : 0 ≤ d) (h : d < 2 ^ w) : valL (bitsI w d) = d := by
 have key : ∀ w, valL (bitsI w d) = d % 2 ^ w := by
  intro w
  induction w with
  | zero => simp [bitsI, valL, Int.emod_one]
  | succ w ih =>
   simp only [bitsI]
   rw [valL_cons, ih, bitsI_len, Int.pow_succ]
   have hp := pow_pos2 w
   generalize (2 : Int) ^ w = p at *
   have e1 := Int.mul_ediv_add_emod d p
   have e2 := Int.mul_ediv_add_emod (d / p) 2
   have h3 := Int.emod_nonneg d (show p ≠ 0 by omega)
   have h4 := Int.emod_lt_of_pos d hp
   have h5 : d / p % 2 = 0 ∨ d / p % 2 = 1 := by omega
   have : d = (p * 2) * (d / p / 2) + (d / p % 2 * p + d % p) := by
    calc d = p * (d / p) + d % p := e1.symm
     _ = p * (2 * (d / p / 2) + d / p % 2) + d % p := by rw [e2]
     _ = _ := by rw [Int.mul_add, Int.add_assoc, ← Int.mul_assoc]; congr 2; exact Int.mul_comm _ _
   conv => rhs; rw [this]
   rw [Int.mul_add_emod_self_left]
   symm
   apply Int.emod_eq_of_lt
   ·rcases h5 with h | h <;> rw [h] <;> omega
   ·rcases h5 with h | h <;> rw [h] <;> omega
 rw [key, Int.emod_eq_of_lt h0 h]
theorem bitsI_zero (w : Nat) : bitsI w 0 = List.replicate w 0 := by
 induction w with
 | zero => rfl
 | succ w ih => simp [bitsI, ih, List.replicate_succ]
theorem isBits_append {a b : List Int} (ha : isBits a) (hb : isBits b) : isBits (a ++ b) := by
 intro x hx
 rcases List.mem_append.1 hx with h | h
 ·exact ha x h
 ·exact hb x h
theorem isBits_sub {a b : List Int} (h : isBits b) (hs : ∀ x ∈ a, x ∈ b) : isBits a := fun x hx => h x (hs x hx)
theorem byte_mid {bs : List Int} (h : isBits bs) {k : Nat} (hk : 8 * k + 8 ≤ bs.length) : valL ((bs.drop (8 * k)).take 8) = valL bs / 2 ^ (bs.length - (8 * k + 8)) % 256 := by
 have e : bs = bs.take (8 * k) ++ ((bs.drop (8 * k)).take 8 ++ bs.drop (8 * k + 8)) := by
  have h1 := (List.take_append_drop (8 * k) bs).symm
  have h2 := (List.take_append_drop 8 (bs.drop (8 * k))).symm
  rw [List.drop_drop] at h2
  rw [← h2]; exact h1
 have hl : (bs.drop (8 * k + 8)).length = bs.length - (8 * k + 8) := by simp
 have hl2 : ((bs.drop (8 * k)).take 8).length = 8 := by simp; omega
 have b1 := valL_bd (isBits_sub h (fun x hx => List.mem_of_mem_drop (List.mem_of_mem_take hx)) : isBits ((bs.drop (8 * k)).take 8))
 have b2 := valL_bd (isBits_sub h (fun x hx => List.mem_of_mem_drop hx) : isBits (bs.drop (8 * k + 8)))
 rw [hl2] at b1
 rw [hl] at b2
 have hv : valL bs = valL (bs.take (8 * k)) * 2 ^ (8 + (bs.length - (8 * k + 8))) + (valL ((bs.drop (8 * k)).take 8) * 2 ^ (bs.length - (8 * k + 8)) + valL (bs.drop (8 * k + 8))) := by
  conv => lhs; rw [e]
  rw [valL_append, valL_append, List.length_append, hl, hl2]
 rw [hv]
 generalize valL (bs.take (8 * k)) = A at *
 generalize valL ((bs.drop (8 * k)).take 8) = B at *
 generalize valL (bs.drop (8 * k + 8)) = C at *
 rw [Int.pow_add]
 have hp := pow_pos2 (bs.length - (8 * k + 8))
 generalize (2 : Int) ^ (bs.length - (8 * k + 8)) = p at *
 have e3 : A * (2 ^ 8 * p) + (B * p + C) = p * (A * 256 + B) + C := by
  rw [Int.mul_add, Int.add_assoc, Int.mul_comm B p]; congr 1
  rw [show ((2 : Int) ^ 8) = 256 by decide, Int.mul_comm 256 p, ← Int.mul_assoc, Int.mul_comm A p, Int.mul_assoc]
 rw [e3, Int.mul_add_ediv_left _ _ (by omega), Int.ediv_eq_zero_of_lt b2.1 b2.2, Int.add_zero]
 have : B < 256 := by have := b1.2; simpa using this
 omega
theorem bytesN_len (n : Nat) (bs : List Int) : (bytesN n bs).length = n := by induction n generalizing bs with | zero => rfl | succ n ih => simp [bytesN, ih]
theorem bytesN_get (n : Nat) (bs : List Int) {k : Nat} (hk : k < n) : (bytesN n bs)[k]? = some (valL ((bs.drop (8 * k)).take 8)) := by
 induction n generalizing bs k with
 | zero => omega
 | succ n ih =>
  rcases k with _ | k
  ·simp [bytesN]
  ·simp only [bytesN, List.getElem?_cons_succ]
   rw [ih (bs.drop 8) (by omega), List.drop_drop]
   congr 4; omega
theorem bytesN_succ (n : Nat) (bs : List Int) : bytesN (n + 1) bs = bytesN n bs ++ [valL ((bs.drop (8 * n)).take 8)] := by
 induction n generalizing bs with
 | zero => simp [bytesN]
 | succ n ih =>
  rw [show bytesN (n + 1 + 1) bs = valL (bs.take 8) :: bytesN (n + 1) (bs.drop 8) from rfl, ih, List.drop_drop]
  rw [show 8 + 8 * n = 8 * (n + 1) by omega]; rfl
theorem bytesN_append (n : Nat) (a b : List Int) (h : 8 * n ≤ a.length) : bytesN n (a ++ b) = bytesN n a := by
 induction n generalizing a with
 | zero => rfl
 | succ n ih =>
  simp only [bytesN]
  rw [List.take_append_of_le_length (by omega), List.drop_append_of_le_length (by omega), ih _ (by simp; omega)]
theorem padN_lt (n : Nat) : padN n < 8 ∧ (n + padN n) % 8 = 0 := by unfold padN; omega

def wid (n : Int) : Nat := if n ≤ 0 then 0 else if n < 2 then 1 else if n < 4 then 2 else if n < 8 then 3 else if n < 16 then 4 else if n < 32 then 5 else if n < 64 then 6 else if n < 128 then 7 else if n < 256 then 8
 else if n < 512 then 9 else if n < 1024 then 10 else if n < 2048 then 11 else if n < 4096 then 12 else if n < 8192 then 13 else if n < 16384 then 14 else if n < 32768 then 15 else 16
theorem wid_eq (n : Int) : (n ≤ 0 ∧ wid n = 0) ∨ (0 < n ∧ n < 2 ∧ wid n = 1) ∨ (2 ≤ n ∧ n < 4 ∧ wid n = 2) ∨ (4 ≤ n ∧ n < 8 ∧ wid n = 3) ∨ (8 ≤ n ∧ n < 16 ∧ wid n = 4) ∨ (16 ≤ n ∧ n < 32 ∧ wid n = 5) ∨ (32 ≤ n ∧ n < 64 ∧ wid n = 6) ∨ (64 ≤ n ∧ n < 128 ∧ wid n = 7) ∨ (128 ≤ n ∧ n < 256 ∧ wid n = 8)
  ∨ (256 ≤ n ∧ n < 512 ∧ wid n = 9) ∨ (512 ≤ n ∧ n < 1024 ∧ wid n = 10) ∨ (1024 ≤ n ∧ n < 2048 ∧ wid n = 11) ∨ (2048 ≤ n ∧ n < 4096 ∧ wid n = 12) ∨ (4096 ≤ n ∧ n < 8192 ∧ wid n = 13) ∨ (8192 ≤ n ∧ n < 16384 ∧ wid n = 14) ∨ (16384 ≤ n ∧ n < 32768 ∧ wid n = 15) ∨ (32768 ≤ n ∧ wid n = 16) := by
 unfold wid
 by_cases h0 : n ≤ 0
 ·simp [h0]
 by_cases h1 : n < 2
 ·simp [h0, h1]; omega
 by_cases h2 : n < 4
 ·simp [h0, h1, h2]; omega
 by_cases h3 : n < 8
 ·simp [h0, h1, h2, h3]; omega
 by_cases h4 : n < 16
 ·simp [h0, h1, h2, h3, h4]; omega
 by_cases h5 : n < 32
 ·simp [h0, h1, h2, h3, h4, h5]; omega
 by_cases h6 : n < 64
 ·simp [h0, h1, h2, h3, h4, h5, h6]; omega
 by_cases h7 : n < 128
 ·simp [h0, h1, h2, h3, h4, h5, h6, h7]; omega
 by_cases h8 : n < 256
 ·simp [h0, h1, h2, h3, h4, h5, h6, h7, h8]; omega
 by_cases h9 : n < 512
 ·simp [h0, h1, h2, h3, h4, h5, h6, h7, h8, h9]; omega
 by_cases h10 : n < 1024
 ·simp [h0, h1, h2, h3, h4, h5, h6, h7, h8, h9, h10]; omega
 by_cases h11 : n < 2048
 ·simp [h0, h1, h2, h3, h4, h5, h6, h7, h8, h9, h10, h11]; omega
 by_cases h12 : n < 4096
 ·simp [h0, h1, h2, h3, h4, h5, h6, h7, h8, h9, h10, h11, h12]; omega
 by_cases h13 : n < 8192
 ·simp [h0, h1, h2, h3, h4, h5, h6, h7, h8, h9, h10, h11, h12, h13]; omega
 by_cases h14 : n < 16384
 ·simp [h0, h1, h2, h3, h4, h5, h6, h7, h8, h9, h10, h11, h12, h13, h14]; omega
 by_cases h15 : n < 32768
 ·simp [h0, h1, h2, h3, h4, h5, h6, h7, h8, h9, h10, h11, h12, h13, h14, h15]; omega
 ·simp [h0, h1, h2, h3, h4, h5, h6, h7, h8, h9, h10, h11, h12, h13, h14, h15]; omega
theorem wid_le {n : Int} (h : n < 16384) : wid n ≤ 14 := by have := wid_eq n; omega
theorem wid_pow {n : Int} (h0 : 0 ≤ n) (h : n < 16384) : n < 2 ^ wid n := by
 rcases wid_eq n with ⟨h1, e⟩ | ⟨h1, h2, e⟩ | ⟨h1, h2, e⟩ | ⟨h1, h2, e⟩ | ⟨h1, h2, e⟩ | ⟨h1, h2, e⟩ | ⟨h1, h2, e⟩ | ⟨h1, h2, e⟩ | ⟨h1, h2, e⟩ | ⟨h1, h2, e⟩ | ⟨h1, h2, e⟩ | ⟨h1, h2, e⟩ | ⟨h1, h2, e⟩ | ⟨h1, h2, e⟩ | ⟨h1, h2, e⟩ | ⟨h1, h2, e⟩ | ⟨h1, e⟩
 all_goals (rw [e]; simp only [Int.reducePow, Int.pow_zero]; omega)
def lowL (l : List Int) : Int := l.foldl min (l[0]?.getD 0)
def highL (l : List Int) : Int := l.foldl max (l[0]?.getD 0)
theorem foldl_min_le (l : List Int) (a : Int) : l.foldl min a ≤ a ∧ ∀ x ∈ l, l.foldl min a ≤ x := by
 induction l generalizing a with
 | nil => simp
 | cons y l ih =>
  simp only [List.foldl_cons]
  have := ih (min a y)
  refine ⟨by omega, fun x hx => ?_⟩
  rcases List.mem_cons.1 hx with rfl | hx
  ·omega
  ·exact this.2 x hx
theorem foldl_max_ge (l : List Int) (a : Int) : a ≤ l.foldl max a ∧ ∀ x ∈ l, x ≤ l.foldl max a := by
 induction l generalizing a with
 | nil => simp
 | cons y l ih =>
  simp only [List.foldl_cons]
  have := ih (max a y)
  refine ⟨by omega, fun x hx => ?_⟩
  rcases List.mem_cons.1 hx with rfl | hx
  ·omega
  ·exact this.2 x hx
theorem foldl_min_mem (l : List Int) (a : Int) : l.foldl min a = a ∨ l.foldl min a ∈ l := by
 induction l generalizing a with
 | nil => simp
 | cons y l ih =>
  simp only [List.foldl_cons]
  rcases ih (min a y) with h | h
  ·rw [h]
   rcases Int.le_total a y with h2 | h2
   ·left; omega
   ·right; rw [Int.min_eq_right h2]; exact List.mem_cons_self
  ·right; exact List.mem_cons_of_mem _ h
theorem foldl_max_mem (l : List Int) (a : Int) : l.foldl max a = a ∨ l.foldl max a ∈ l := by
 induction l generalizing a with
 | nil => simp
 | cons y l ih =>
  simp only [List.foldl_cons]
  rcases ih (max a y) with h | h
  ·rw [h]
   rcases Int.le_total y a with h2 | h2
   ·left; omega
   ·right; rw [Int.max_eq_right h2]; exact List.mem_cons_self
  ·right; exact List.mem_cons_of_mem _ h
theorem low_bd {l : List Int} (hne : l ≠ []) {a b : Int} (h : ∀ x ∈ l, a ≤ x ∧ x ≤ b) : a ≤ lowL l ∧ lowL l ≤ b ∧ a ≤ highL l ∧ highL l ≤ b ∧ lowL l ≤ highL l ∧ ∀ x ∈ l, lowL l ≤ x ∧ x ≤ highL l := by
 obtain ⟨y, t, rfl⟩ := List.exists_cons_of_ne_nil hne
 have hy : ((y :: t : List Int)[0]?.getD 0) = y := rfl
 have m1 := foldl_min_le (y :: t) y
 have m2 := foldl_max_ge (y :: t) y
 have m3 := foldl_min_mem (y :: t) y
 have m4 := foldl_max_mem (y :: t) y
 unfold lowL highL
 rw [hy]
 have b0 := h y List.mem_cons_self
 have b1 : a ≤ (y :: t).foldl min y ∧ (y :: t).foldl min y ≤ b := by rcases m3 with e | e; rw [e]; exact b0; exact h _ e
 have b2 : a ≤ (y :: t).foldl max y ∧ (y :: t).foldl max y ≤ b := by rcases m4 with e | e; rw [e]; exact b0; exact h _ e
 exact ⟨b1.1, b1.2, b2.1, b2.2, Int.le_trans m1.1 m2.1, fun x hx => ⟨m1.2 x hx, m2.2 x hx⟩⟩
def blkBits (lo : Int) (w : Nat) (l : List Int) : List Int := l.flatMap (fun e => bitsI w (e - lo))
theorem blkBits_len (lo : Int) (w : Nat) (l : List Int) : (blkBits lo w l).length = l.length * w := by
 induction l with
 | nil => simp [blkBits]
 | cons x l ih => simp only [blkBits, List.flatMap_cons, List.length_append, bitsI_len] at ih ⊢; rw [ih, List.length_cons, Nat.succ_mul]; omega
theorem blkBits_bits (lo : Int) (w : Nat) (l : List Int) : isBits (blkBits lo w l) := by
 intro x hx
 obtain ⟨e, _, he⟩ := List.mem_flatMap.1 hx
 exact bitsI_bits _ _ _ he
theorem blkBits_append (lo : Int) (w : Nat) (a b : List Int) : blkBits lo w (a ++ b) = blkBits lo w a ++ blkBits lo w b := List.flatMap_append
def bytesL (bs : List Int) : List Int := bytesN ((padL bs).length / 8) (padL bs)
def widL (l : List Int) : Nat := wid (highL l - lowL l)
def blockL (l : List Int) : List Int := [(widL l : Int), lowL l / 256, lowL l % 256] ++ bytesL (blkBits (lowL l) (widL l) l)
def chunkL (es : List Int) (i : Nat) : List Int := (es.drop (32 * i)).take 32
def blocksL (es : List Int) : Nat → List Int | 0 => [] | k + 1 => blocksL es k ++ blockL (chunkL es k)
def nBlk (n : Nat) : Nat := (n + 31) / 32
def headL (m : Men) : List Int := ((textL m).length : Int) :: (textL m).map (fun c => (c.toNat : Int))
def packL (m : Men) (es : List Int) : List Int := headL m ++ blocksL es (nBlk es.length)
end Go.Proofs.YtddkhnnpeonbgaaGreatDoor
namespace Go.Proofs.YtddkhnnpeonbgaaGreatDoor

def atv (bs : List Int) (i : Nat) : Int := bs[i]?.getD 0
def isBytes (bs : List Int) : Prop := ∀ x ∈ bs, 0 ≤ x ∧ x < 256
theorem atv_bd {bs : List Int} (h : isBytes bs) (i : Nat) : 0 ≤ atv bs i ∧ atv bs i < 256 := by
 unfold atv
 rcases Nat.lt_or_ge i bs.length with hi | hi
 ·rw [List.getElem?_eq_getElem hi]; exact h _ (List.getElem_mem hi)
 ·rw [List.getElem?_eq_none hi]; simp
def toU (bs : List Int) : List UInt8 := bs.map fun n => UInt8.ofNat n.toNat
def headM (bs : List Int) : Option Men :=
 if bs.length = 0 then none else if bs.length < 1 + (atv bs 0).toNat then none else
 match parseC (toU ((bs.drop 1).take (atv bs 0).toNat)) with
 | none => none
 | some m => if countN m ≤ 262144 then some m else none
def headP (bs : List Int) : Nat := 1 + (atv bs 0).toNat
def manyB (n k : Nat) : Nat := min 32 (n - 32 * k)
def posB (bs : List Int) (n : Nat) : Nat → Nat
 | 0 => headP bs
 | k + 1 => posB bs n k + 3 + ((atv bs (posB bs n k)).toNat * manyB n k + 7) / 8
theorem posB_succ (bs : List Int) (n k : Nat) : posB bs n (k + 1) = posB bs n k + 3 + ((atv bs (posB bs n k)).toNat * manyB n k + 7) / 8 := rfl
theorem posB_le (bs : List Int) (n : Nat) {j k : Nat} (h : j ≤ k) : posB bs n j ≤ posB bs n k := by
 induction k with
 | zero => have : j = 0 := by omega
           subst this; exact Nat.le_refl _
 | succ k ih =>
  rcases Nat.lt_or_ge j (k + 1) with h2 | h2
  ·have := ih (by omega)
   rw [posB_succ]; omega
  ·have : j = k + 1 := by omega
   subst this; exact Nat.le_refl _
def hdOk (bs : List Int) (n k : Nat) : Bool := decide (posB bs n k + 3 ≤ bs.length) && decide (atv bs (posB bs n k) ≤ 14)
def blkOk (bs : List Int) (n k : Nat) : Bool := hdOk bs n k && decide (posB bs n (k + 1) ≤ bs.length)
def okTo (bs : List Int) (n : Nat) : Nat → Bool | 0 => true | k + 1 => okTo bs n k && blkOk bs n k
def hdTo (bs : List Int) (n : Nat) : Nat → Bool | 0 => true | k + 1 => hdTo bs n k && hdOk bs n k
theorem okTo_iff (bs : List Int) (n k : Nat) : okTo bs n k = true ↔ ∀ j, j < k → blkOk bs n j = true := by
 induction k with
 | zero => simp [okTo]
 | succ k ih =>
  simp only [okTo, Bool.and_eq_true, ih]
  exact ⟨fun h j hj => (Nat.lt_succ_iff_lt_or_eq.1 hj).elim (h.1 j) (fun e => e ▸ h.2), fun h => ⟨fun j hj => h j (by omega), h k (by omega)⟩⟩
theorem hdTo_iff (bs : List Int) (n k : Nat) : hdTo bs n k = true ↔ ∀ j, j < k → hdOk bs n j = true := by
 induction k with
 | zero => simp [hdTo]
 | succ k ih =>
  simp only [hdTo, Bool.and_eq_true, ih]
  exact ⟨fun h j hj => (Nat.lt_succ_iff_lt_or_eq.1 hj).elim (h.1 j) (fun e => e ▸ h.2), fun h => ⟨fun j hj => h j (by omega), h k (by omega)⟩⟩
theorem okTo_false {bs : List Int} {n k j : Nat} (hj : j < k) (h : blkOk bs n j = false) : okTo bs n k = false := by
 rcases hk : okTo bs n k with _ | _
 ·rfl
 ·rw [(okTo_iff bs n k).1 hk j hj] at h; cases h
theorem hdTo_false {bs : List Int} {n k j : Nat} (hj : j < k) (h : hdOk bs n j = false) : hdTo bs n k = false := by
 rcases hk : hdTo bs n k with _ | _
 ·rfl
 ·rw [(hdTo_iff bs n k).1 hk j hj] at h; cases h
def bodyOk (bs : List Int) (n : Nat) : Bool := okTo bs n (nBlk n) && decide (posB bs n (nBlk n) = bs.length)
theorem bodyOk_hd (bs : List Int) (n : Nat) : bodyOk bs n = (hdTo bs n (nBlk n) && decide (posB bs n (nBlk n) = bs.length)) := by
 unfold bodyOk
 by_cases hp : posB bs n (nBlk n) = bs.length
 ·simp only [hp, decide_true, Bool.and_true]
  rw [Bool.eq_iff_iff, okTo_iff, hdTo_iff]
  refine ⟨fun h j hj => ?_, fun h j hj => ?_⟩
  ·have := h j hj
   simp only [blkOk, Bool.and_eq_true] at this
   exact this.1
  ·simp only [blkOk, Bool.and_eq_true, decide_eq_true_eq]
   refine ⟨h j hj, ?_⟩
   rw [← hp]
   exact posB_le bs n (by omega)
 ·simp [hp]
def outM (bs : List Int) : Option Men :=
 match headM bs with
 | none => none
 | some m => if bodyOk bs (countN m) = true then some m else none
def bitB (bs : List Int) (a k : Nat) : Int := atv bs (a + k / 8) / 2 ^ (7 - k % 8) % 2
def difB (bs : List Int) (a i : Nat) : Nat → Int | 0 => 0 | j + 1 => 2 * difB bs a i j + bitB bs a (i + j)
theorem difB_succ (bs : List Int) (a i j : Nat) : difB bs a i (j + 1) = 2 * difB bs a i j + bitB bs a (i + j) := rfl
theorem bitB_bd (bs : List Int) (a k : Nat) : 0 ≤ bitB bs a k ∧ bitB bs a k ≤ 1 := by unfold bitB; omega
theorem difB_bd (bs : List Int) (a i j : Nat) : 0 ≤ difB bs a i j ∧ difB bs a i j < 2 ^ j := by
 induction j with
 | zero => simp [difB]
 | succ j ih =>
  have := bitB_bd bs a (i + j)
  rw [difB_succ, Int.pow_succ]; omega
theorem two_pow_le {j k : Nat} (h : j ≤ k) : (2 : Int) ^ j ≤ 2 ^ k := by
 have := Nat.pow_le_pow_right (n := 2) (by omega) h
 exact_mod_cast this
theorem difB_small (bs : List Int) (a i : Nat) {j : Nat} (h : j ≤ 14) : 0 ≤ difB bs a i j ∧ difB bs a i j < 16384 := by
 have h1 := difB_bd bs a i j
 have h2 := two_pow_le h
 have : (2 : Int) ^ 14 = 16384 := by decide
 omega
def i16of (x : Int) : Int := if x % 65536 < 32768 then x % 65536 else x % 65536 - 65536
def widB (bs : List Int) (n k : Nat) : Nat := (atv bs (posB bs n k)).toNat
def lowB (bs : List Int) (n k : Nat) : Int := 256 * atv bs (posB bs n k + 1) + atv bs (posB bs n k + 2)
def entB (bs : List Int) (n k i : Nat) : Int := i16of (lowB bs n k + difB bs (posB bs n k + 3) (i * widB bs n k) (widB bs n k))
def entsB (bs : List Int) (n k : Nat) : Nat → List Int | 0 => [] | i + 1 => entsB bs n k i ++ [entB bs n k i]
def entsL (bs : List Int) (n : Nat) : Nat → List Int | 0 => [] | k + 1 => entsL bs n k ++ entsB bs n k (manyB n k)
theorem entsB_len (bs : List Int) (n k i : Nat) : (entsB bs n k i).length = i := by induction i with | zero => rfl | succ i ih => simp [entsB, ih]
theorem entsL_len (bs : List Int) (n k : Nat) (h : k ≤ nBlk n) : (entsL bs n k).length = min n (32 * k) := by
 induction k with
 | zero => simp [entsL]
 | succ k ih =>
  have := ih (by omega)
  simp only [entsL, List.length_append, entsB_len, this, manyB]; omega
theorem entsL_all (bs : List Int) (n : Nat) : (entsL bs n (nBlk n)).length = n := by
 rw [entsL_len _ _ _ (Nat.le_refl _)]; unfold nBlk; omega
theorem entsB_get (bs : List Int) (n k : Nat) {i m : Nat} (h : i < m) : (entsB bs n k m)[i]? = some (entB bs n k i) := by
 induction m with
 | zero => omega
 | succ m ih =>
  simp only [entsB]
  by_cases e : i < m
  ·rw [List.getElem?_append_left (by rw [entsB_len]; exact e)]; exact ih e
  ·have : i = m := by omega
   subst this
   rw [List.getElem?_append_right (by rw [entsB_len]; exact Nat.le_refl _), entsB_len]; simp
theorem entsL_get (bs : List Int) (n : Nat) {j k : Nat} (hk : k ≤ nBlk n) (hj : j < n) (h : j < 32 * k) : (entsL bs n k)[j]? = some (entB bs n (j / 32) (j % 32)) := by
 induction k with
 | zero => omega
 | succ k ih =>
  simp only [entsL]
  have hl := entsL_len bs n k (by omega)
  by_cases e : j < 32 * k
  ·rw [List.getElem?_append_left (by omega)]; exact ih (by omega) e
  ·rw [List.getElem?_append_right (by omega), hl]
   have h1 : j / 32 = k := by omega
   have h2 : j - min n (32 * k) = j % 32 := by omega
   rw [h2, h1]
   exact entsB_get bs n k (by unfold manyB; omega)
end Go.Proofs.YtddkhnnpeonbgaaGreatDoor
