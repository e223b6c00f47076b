/- Plain: reading a set's text. No program in sight. -/
import Derived.Test.YtddkhnnpeonbgaaB1
import Derived.Lib.SplitLaws
namespace Go.Proofs.Ytddkhnnpeonbgaa

def cnt (l : List UInt8) (k : Nat) : Int := (Lib.count l [pnL[k]?.getD 0] : Nat)
/-- the candidate of index.Parse, out of what the two cuts leave -/
def candMen (size white black : List UInt8) : Men :=
  { f := ((size[0]?.getD 0).toNat : Int) - 48, r := ((size[2]?.getD 0).toNat : Int) - 48,
    w0 := cnt white 0, w1 := cnt white 1, w2 := cnt white 2, w3 := cnt white 3, w4 := cnt white 4,
    b0 := cnt black 0, b1 := cnt black 1, b2 := cnt black 2, b3 := cnt black 3, b4 := cnt black 4 }
def c1 (s : List UInt8) := Lib.cut s [32, 75]
def c2 (s : List UInt8) := Lib.cut (c1 s).2.1 [75]
def cand (s : List UInt8) : Men := candMen (c1 s).1 (c2 s).1 (c2 s).2.1
/-- what index.Parse gives: a set, or none -/
def parseC (s : List UInt8) : Option Men :=
  if (c1 s).2.2 = true ∧ (c2 s).2.2 = true ∧ (c1 s).1.length = 3 ∧ (c1 s).2.1.length ≤ 6 ∧ validB (cand s) = true ∧ textL (cand s) = s then some (cand s) else none

theorem pnL_at {k : Nat} (h : k < 5) : pnL[k]?.getD 0 = 80 ∧ k = 0 ∨ pnL[k]?.getD 0 = 78 ∧ k = 1 ∨ pnL[k]?.getD 0 = 66 ∧ k = 2 ∨ pnL[k]?.getD 0 = 82 ∧ k = 3 ∨ pnL[k]?.getD 0 = 81 ∧ k = 4 := by
  rcases five h with rfl | rfl | rfl | rfl | rfl <;> decide
theorem count_sideN (g : Nat → Int) {k j : Nat} (hk : k < 5) (hj : j ≤ 5) : (sideN g j).count (pnL[k]?.getD 0) = if 5 ≤ k + j then (g k).toNat else 0 := by
  induction j with
  | zero =>
    rcases five hk with rfl | rfl | rfl | rfl | rfl <;> rfl
  | succ j ih =>
    simp only [sideN, List.count_append, ih (by omega), List.count_replicate]
    have hne : (pnL[4 - j]?.getD 0 == pnL[k]?.getD 0) = decide (4 - j = k) := by
      have : 4 - j < 5 := by omega
      generalize 4 - j = i at this
      rcases five hk with rfl | rfl | rfl | rfl | rfl <;> rcases five this with rfl | rfl | rfl | rfl | rfl <;> decide
    rw [hne]
    by_cases h1 : 5 ≤ k + j
    · rw [if_pos h1, if_neg (by simp; omega), if_pos (by omega)]; rfl
    · rw [if_neg h1]
      by_cases h2 : 4 - j = k
      · rw [if_pos (by simpa using h2), if_pos (by omega), h2]; simp
      · rw [if_neg (by simpa using h2), if_neg (by omega)]
/-- a side's text without its king -/
def tailN (g : Nat → Int) : Nat → List UInt8 | 0 => [] | j + 1 => tailN g j ++ List.replicate (g (4 - j)).toNat (pnL[4 - j]?.getD 0)
theorem sideN_cons (g : Nat → Int) (j : Nat) : sideN g j = 75 :: tailN g j := by
  induction j with
  | zero => rfl
  | succ j ih => simp [sideN, tailN, ih]
theorem tailN_noK (g : Nat → Int) {j : Nat} (hj : j ≤ 5) : ∀ x ∈ tailN g j, x ≠ 75 ∧ x ≠ 32 := by
  induction j with
  | zero => simp [tailN]
  | succ j ih =>
    intro x hx
    simp only [tailN, List.mem_append] at hx
    rcases hx with hx | hx
    · exact ih (by omega) x hx
    · rw [List.mem_replicate] at hx
      rw [hx.2]
      have : 4 - j < 5 := by omega
      generalize 4 - j = i at this
      rcases five this with rfl | rfl | rfl | rfl | rfl <;> decide
theorem tailN_len {g : Nat → Int} (j : Nat) : (tailN g j).length + 1 = (sideN g j).length := by rw [sideN_cons]; rfl

theorem index_K (l r : List UInt8) (h : ∀ x ∈ l, x ≠ 75) : Lib.index (l ++ 75 :: r) [75] = l.length := by
  induction l with
  | nil => rfl
  | cons x l ih =>
    have hx := h x (by simp)
    have ih := ih (fun y hy => h y (by simp [hy]))
    simp only [List.cons_append, Lib.index, ih]
    rw [if_neg (by simp [List.isPrefixOf]; exact fun e => hx e.symm), if_neg (by simp)]
    simp
theorem cut_K (l r : List UInt8) (h : ∀ x ∈ l, x ≠ 75) : Lib.cut (l ++ 75 :: r) [75] = (l, r, true) := by
  unfold Lib.cut
  rw [index_K l r h, if_pos (by omega)]
  simp
theorem cut_sp (a b c : UInt8) (r : List UInt8) (ha : a ≠ 32) (hb : b ≠ 32) (hc : c ≠ 32) : Lib.cut (a :: b :: c :: 32 :: 75 :: r) [32, 75] = ([a, b, c], r, true) := by
  have e : Lib.index (a :: b :: c :: 32 :: 75 :: r) [32, 75] = 3 := by
    simp only [Lib.index, List.isPrefixOf]
    have h1 : ((32 : UInt8) == a) = false := by simpa using fun e => ha e.symm
    have h2 : ((32 : UInt8) == b) = false := by simpa using fun e => hb e.symm
    have h3 : ((32 : UInt8) == c) = false := by simpa using fun e => hc e.symm
    simp [h1, h2, h3]
  unfold Lib.cut
  rw [e]; rfl

theorem digit_ne {n : Int} (h : 3 ≤ n) (h2 : n ≤ 8) : UInt8.ofNat (48 + n.toNat) ≠ 32 ∧ ((UInt8.ofNat (48 + n.toNat)).toNat : Int) - 48 = n := by
  have : n = 3 ∨ n = 4 ∨ n = 5 ∨ n = 6 ∨ n = 7 ∨ n = 8 := by omega
  rcases this with rfl | rfl | rfl | rfl | rfl | rfl <;> decide

theorem tail_sum {m : Men} (h : validB m = true) : (tailN m.sw 5).length + (tailN m.sb 5).length ≤ 4 := by
  have hs := validB_sum h
  have ho := validB_ok h
  have h0 := menOk_at ho (k := 0) (by omega); have h1 := menOk_at ho (k := 1) (by omega); have h2 := menOk_at ho (k := 2) (by omega); have h3 := menOk_at ho (k := 3) (by omega); have h4 := menOk_at ho (k := 4) (by omega)
  simp only [tailN, List.length_append, List.length_replicate, List.length_nil, Nat.sub_zero, Nat.reduceSub]
  simp only [Men.upto] at hs
  omega

theorem cnt_tail (g : Nat → Int) (hg : ∀ j, j < 5 → 0 ≤ g j) {k : Nat} (hk : k < 5) : cnt (tailN g 5) k = g k := by
  have h1 := count_sideN g hk (Nat.le_refl 5)
  rw [if_pos (by omega), sideN_cons, List.count_cons] at h1
  have h2 : (75 == pnL[k]?.getD 0) = false := by rcases five hk with rfl | rfl | rfl | rfl | rfl <;> decide
  rw [h2] at h1
  unfold cnt
  rw [Lib.count_one, show (tailN g 5).count (pnL[k]?.getD 0) = (g k).toNat from by simpa using h1]
  have := hg k hk
  omega

theorem parse_text {m : Men} (h : validB m = true) : parseC (textL m) = some m := by
  have hz := validB_size h
  have ho := validB_ok h
  have hf := digit_ne hz.1 hz.2.1
  have hr := digit_ne hz.2.2.1 hz.2.2.2
  have e : textL m = UInt8.ofNat (48 + m.f.toNat) :: 120 :: UInt8.ofNat (48 + m.r.toNat) :: 32 :: 75 :: (tailN m.sw 5 ++ 75 :: tailN m.sb 5) := by
    simp [textL, sideL, sideN_cons]
  have h1 : c1 (textL m) = ([UInt8.ofNat (48 + m.f.toNat), 120, UInt8.ofNat (48 + m.r.toNat)], tailN m.sw 5 ++ 75 :: tailN m.sb 5, true) := by
    unfold c1; rw [e]; exact cut_sp _ _ _ _ hf.1 (by decide) hr.1
  have h2 : c2 (textL m) = (tailN m.sw 5, tailN m.sb 5, true) := by
    unfold c2; rw [h1]; exact cut_K _ _ (fun x hx => (tailN_noK _ (Nat.le_refl _) x hx).1)
  have h3 : cand (textL m) = m := by
    unfold cand candMen
    rw [h1, h2]
    have hw : ∀ j, j < 5 → 0 ≤ m.sw j := fun j hj => (menOk_at ho hj).1
    have hb : ∀ j, j < 5 → 0 ≤ m.sb j := fun j hj => (menOk_at ho hj).2.2.1
    simp only [cnt_tail m.sw hw (k := 0) (by omega), cnt_tail m.sw hw (k := 1) (by omega), cnt_tail m.sw hw (k := 2) (by omega), cnt_tail m.sw hw (k := 3) (by omega), cnt_tail m.sw hw (k := 4) (by omega),
      cnt_tail m.sb hb (k := 0) (by omega), cnt_tail m.sb hb (k := 1) (by omega), cnt_tail m.sb hb (k := 2) (by omega), cnt_tail m.sb hb (k := 3) (by omega), cnt_tail m.sb hb (k := 4) (by omega)]
    have e1 : ([UInt8.ofNat (48 + m.f.toNat), (120 : UInt8), UInt8.ofNat (48 + m.r.toNat)][0]?.getD 0) = UInt8.ofNat (48 + m.f.toNat) := rfl
    have e2 : ([UInt8.ofNat (48 + m.f.toNat), (120 : UInt8), UInt8.ofNat (48 + m.r.toNat)][2]?.getD 0) = UInt8.ofNat (48 + m.r.toNat) := rfl
    simp only [e1, e2, hf.2, hr.2]
    rfl
  have ht := tail_sum h
  unfold parseC
  rw [h3, h1, h2]
  simp [h]
  omega
theorem parse_some {s : List UInt8} {m : Men} (h : parseC s = some m) : validB m = true ∧ textL m = s := by
  unfold parseC at h
  split at h
  · rename_i hc
    injection h with h
    subst h
    exact ⟨hc.2.2.2.2.1, hc.2.2.2.2.2⟩
  · cases h
end Go.Proofs.Ytddkhnnpeonbgaa
