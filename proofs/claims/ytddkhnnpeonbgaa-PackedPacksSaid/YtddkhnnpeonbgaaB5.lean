/- Plain: what bytes of a compressed table say: the outline, an entry, the table. No program in sight. -/
import Derived.Test.YtddkhnnpeonbgaaB4
namespace Go.Proofs.Ytddkhnnpeonbgaa

def atv (bs : List Int) (i : Nat) : Int := bs[i]?.getD 0
def isBytes (bs : List Int) : Prop := ∀ x ∈ bs, 0 ≤ x ∧ x < 256
theorem atv_bd {bs : List Int} (h : isBytes bs) (i : Nat) : 0 ≤ atv bs i ∧ atv bs i < 256 := by
  unfold atv
  rcases Nat.lt_or_ge i bs.length with hi | hi
  · rw [List.getElem?_eq_getElem hi]; exact h _ (List.getElem_mem hi)
  · rw [List.getElem?_eq_none hi]; simp
def toU (bs : List Int) : List UInt8 := bs.map fun n => UInt8.ofNat n.toNat
/-- the set with which bytes begin -/
def headM (bs : List Int) : Option Men :=
  if bs.length = 0 then none else if bs.length < 1 + (atv bs 0).toNat then none else
  match parseC (toU ((bs.drop 1).take (atv bs 0).toNat)) with
  | none => none
  | some m => if countN m ≤ 262144 then some m else none
def headP (bs : List Int) : Nat := 1 + (atv bs 0).toNat
/-- how many entries block k has -/
def manyB (n k : Nat) : Nat := min 32 (n - 32 * k)
/-- where block k begins -/
def posB (bs : List Int) (n : Nat) : Nat → Nat
  | 0 => headP bs
  | k + 1 => posB bs n k + 3 + ((atv bs (posB bs n k)).toNat * manyB n k + 7) / 8
theorem posB_succ (bs : List Int) (n k : Nat) : posB bs n (k + 1) = posB bs n k + 3 + ((atv bs (posB bs n k)).toNat * manyB n k + 7) / 8 := rfl
theorem posB_le (bs : List Int) (n : Nat) {j k : Nat} (h : j ≤ k) : posB bs n j ≤ posB bs n k := by
  induction k with
  | zero => have : j = 0 := by omega
            subst this; exact Nat.le_refl _
  | succ k ih =>
    rcases Nat.lt_or_ge j (k + 1) with h2 | h2
    · have := ih (by omega)
      rw [posB_succ]; omega
    · have : j = k + 1 := by omega
      subst this; exact Nat.le_refl _
/-- block k has its head, and a width that is allowed -/
def hdOk (bs : List Int) (n k : Nat) : Bool := decide (posB bs n k + 3 ≤ bs.length) && decide (atv bs (posB bs n k) ≤ 14)
/-- and all its bits -/
def blkOk (bs : List Int) (n k : Nat) : Bool := hdOk bs n k && decide (posB bs n (k + 1) ≤ bs.length)
def okTo (bs : List Int) (n : Nat) : Nat → Bool | 0 => true | k + 1 => okTo bs n k && blkOk bs n k
def hdTo (bs : List Int) (n : Nat) : Nat → Bool | 0 => true | k + 1 => hdTo bs n k && hdOk bs n k
theorem okTo_iff (bs : List Int) (n k : Nat) : okTo bs n k = true ↔ ∀ j, j < k → blkOk bs n j = true := by
  induction k with
  | zero => simp [okTo]
  | succ k ih =>
    simp only [okTo, Bool.and_eq_true, ih]
    exact ⟨fun h j hj => (Nat.lt_succ_iff_lt_or_eq.1 hj).elim (h.1 j) (fun e => e ▸ h.2), fun h => ⟨fun j hj => h j (by omega), h k (by omega)⟩⟩
theorem hdTo_iff (bs : List Int) (n k : Nat) : hdTo bs n k = true ↔ ∀ j, j < k → hdOk bs n j = true := by
  induction k with
  | zero => simp [hdTo]
  | succ k ih =>
    simp only [hdTo, Bool.and_eq_true, ih]
    exact ⟨fun h j hj => (Nat.lt_succ_iff_lt_or_eq.1 hj).elim (h.1 j) (fun e => e ▸ h.2), fun h => ⟨fun j hj => h j (by omega), h k (by omega)⟩⟩
theorem okTo_false {bs : List Int} {n k j : Nat} (hj : j < k) (h : blkOk bs n j = false) : okTo bs n k = false := by
  rcases hk : okTo bs n k with _ | _
  · rfl
  · rw [(okTo_iff bs n k).1 hk j hj] at h; cases h
theorem hdTo_false {bs : List Int} {n k j : Nat} (hj : j < k) (h : hdOk bs n j = false) : hdTo bs n k = false := by
  rcases hk : hdTo bs n k with _ | _
  · rfl
  · rw [(hdTo_iff bs n k).1 hk j hj] at h; cases h
/-- all blocks are there, and nothing behind them -/
def bodyOk (bs : List Int) (n : Nat) : Bool := okTo bs n (nBlk n) && decide (posB bs n (nBlk n) = bs.length)
theorem bodyOk_hd (bs : List Int) (n : Nat) : bodyOk bs n = (hdTo bs n (nBlk n) && decide (posB bs n (nBlk n) = bs.length)) := by
  unfold bodyOk
  by_cases hp : posB bs n (nBlk n) = bs.length
  · simp only [hp, decide_true, Bool.and_true]
    rw [Bool.eq_iff_iff, okTo_iff, hdTo_iff]
    refine ⟨fun h j hj => ?_, fun h j hj => ?_⟩
    · have := h j hj
      simp only [blkOk, Bool.and_eq_true] at this
      exact this.1
    · simp only [blkOk, Bool.and_eq_true, decide_eq_true_eq]
      refine ⟨h j hj, ?_⟩
      rw [← hp]
      exact posB_le bs n (by omega)
  · simp [hp]
/-- the set, if the outline is right -/
def outM (bs : List Int) : Option Men :=
  match headM bs with
  | none => none
  | some m => if bodyOk bs (countN m) = true then some m else none
/-- the bit k behind a place -/
def bitB (bs : List Int) (a k : Nat) : Int := atv bs (a + k / 8) / 2 ^ (7 - k % 8) % 2
def difB (bs : List Int) (a i : Nat) : Nat → Int | 0 => 0 | j + 1 => 2 * difB bs a i j + bitB bs a (i + j)
theorem difB_succ (bs : List Int) (a i j : Nat) : difB bs a i (j + 1) = 2 * difB bs a i j + bitB bs a (i + j) := rfl
theorem bitB_bd (bs : List Int) (a k : Nat) : 0 ≤ bitB bs a k ∧ bitB bs a k ≤ 1 := by unfold bitB; omega
theorem difB_bd (bs : List Int) (a i j : Nat) : 0 ≤ difB bs a i j ∧ difB bs a i j < 2 ^ j := by
  induction j with
  | zero => simp [difB]
  | succ j ih =>
    have := bitB_bd bs a (i + j)
    rw [difB_succ, Int.pow_succ]; omega
theorem two_pow_le {j k : Nat} (h : j ≤ k) : (2 : Int) ^ j ≤ 2 ^ k := by
  have := Nat.pow_le_pow_right (n := 2) (by omega) h
  exact_mod_cast this
theorem difB_small (bs : List Int) (a i : Nat) {j : Nat} (h : j ≤ 14) : 0 ≤ difB bs a i j ∧ difB bs a i j < 16384 := by
  have h1 := difB_bd bs a i j
  have h2 := two_pow_le h
  have : (2 : Int) ^ 14 = 16384 := by decide
  omega
def i16of (x : Int) : Int := if x % 65536 < 32768 then x % 65536 else x % 65536 - 65536
/-- the width and the smallest entry of block k -/
def widB (bs : List Int) (n k : Nat) : Nat := (atv bs (posB bs n k)).toNat
def lowB (bs : List Int) (n k : Nat) : Int := 256 * atv bs (posB bs n k + 1) + atv bs (posB bs n k + 2)
/-- entry i of block k -/
def entB (bs : List Int) (n k i : Nat) : Int := i16of (lowB bs n k + difB bs (posB bs n k + 3) (i * widB bs n k) (widB bs n k))
def entsB (bs : List Int) (n k : Nat) : Nat → List Int | 0 => [] | i + 1 => entsB bs n k i ++ [entB bs n k i]
/-- the entries of the first k blocks -/
def entsL (bs : List Int) (n : Nat) : Nat → List Int | 0 => [] | k + 1 => entsL bs n k ++ entsB bs n k (manyB n k)
theorem entsB_len (bs : List Int) (n k i : Nat) : (entsB bs n k i).length = i := by induction i with | zero => rfl | succ i ih => simp [entsB, ih]
theorem entsL_len (bs : List Int) (n k : Nat) (h : k ≤ nBlk n) : (entsL bs n k).length = min n (32 * k) := by
  induction k with
  | zero => simp [entsL]
  | succ k ih =>
    have := ih (by omega)
    simp only [entsL, List.length_append, entsB_len, this, manyB]; omega
theorem entsL_all (bs : List Int) (n : Nat) : (entsL bs n (nBlk n)).length = n := by
  rw [entsL_len _ _ _ (Nat.le_refl _)]; unfold nBlk; omega
theorem entsB_get (bs : List Int) (n k : Nat) {i m : Nat} (h : i < m) : (entsB bs n k m)[i]? = some (entB bs n k i) := by
  induction m with
  | zero => omega
  | succ m ih =>
    simp only [entsB]
    by_cases e : i < m
    · rw [List.getElem?_append_left (by rw [entsB_len]; exact e)]; exact ih e
    · have : i = m := by omega
      subst this
      rw [List.getElem?_append_right (by rw [entsB_len]; exact Nat.le_refl _), entsB_len]; simp
theorem entsL_get (bs : List Int) (n : Nat) {j k : Nat} (hk : k ≤ nBlk n) (hj : j < n) (h : j < 32 * k) : (entsL bs n k)[j]? = some (entB bs n (j / 32) (j % 32)) := by
  induction k with
  | zero => omega
  | succ k ih =>
    simp only [entsL]
    have hl := entsL_len bs n k (by omega)
    by_cases e : j < 32 * k
    · rw [List.getElem?_append_left (by omega)]; exact ih (by omega) e
    · rw [List.getElem?_append_right (by omega), hl]
      have h1 : j / 32 = k := by omega
      have h2 : j - min n (32 * k) = j % 32 := by omega
      rw [h2, h1]
      exact entsB_get bs n k (by unfold manyB; omega)
end Go.Proofs.Ytddkhnnpeonbgaa
