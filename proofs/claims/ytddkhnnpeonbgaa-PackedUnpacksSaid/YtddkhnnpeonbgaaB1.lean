/- Plain definitions and lemmas on sets of pieces: no program in sight. -/
import Derived.WalkKit
namespace Go.Proofs.Ytddkhnnpeonbgaa
open Go.RowKit

def sideB (n : Int) : Bool := decide (3 ≤ n) && decide (n ≤ 8)
def sizeB (f r : Int) : Bool := sideB f && sideB r

structure Men where
  (f r w0 w1 w2 w3 w4 b0 b1 b2 b3 b4 : Int)
deriving DecidableEq
abbrev Men.cs (m : Men) : List Value := [.int .i64 m.f, .int .i64 m.r, .int .i64 m.w0, .int .i64 m.w1, .int .i64 m.w2, .int .i64 m.w3, .int .i64 m.w4, .int .i64 m.b0, .int .i64 m.b1, .int .i64 m.b2, .int .i64 m.b3, .int .i64 m.b4]

def Men.sw (m : Men) (k : Nat) : Int := match k with | 0 => m.w0 | 1 => m.w1 | 2 => m.w2 | 3 => m.w3 | _ => m.w4
def Men.sb (m : Men) (k : Nat) : Int := match k with | 0 => m.b0 | 1 => m.b1 | 2 => m.b2 | 3 => m.b3 | _ => m.b4
def Men.upto (m : Men) : Nat → Int | 0 => 0 | k + 1 => m.upto k + (m.sw k + m.sb k)

theorem five {k : Nat} (h : k < 5) : k = 0 ∨ k = 1 ∨ k = 2 ∨ k = 3 ∨ k = 4 := by omega
theorem ten {k : Nat} (h : k < 10) : k = 0 ∨ k = 1 ∨ k = 2 ∨ k = 3 ∨ k = 4 ∨ k = 5 ∨ k = 6 ∨ k = 7 ∨ k = 8 ∨ k = 9 := by omega
theorem Men.cs_w (m : Men) {k : Nat} (h : k < 5) : m.cs[2 + k]? = some (.int .i64 (m.sw k)) := by rcases five h with rfl | rfl | rfl | rfl | rfl <;> rfl
theorem Men.cs_b (m : Men) {k : Nat} (h : k < 5) : m.cs[7 + k]? = some (.int .i64 (m.sb k)) := by rcases five h with rfl | rfl | rfl | rfl | rfl <;> rfl

def Men.okAt (m : Men) (k : Nat) : Bool := decide (0 ≤ m.sw k) && decide (m.sw k ≤ 4) && decide (0 ≤ m.sb k) && decide (m.sb k ≤ 4)
def menOk (m : Men) : Bool := m.okAt 0 && m.okAt 1 && m.okAt 2 && m.okAt 3 && m.okAt 4
theorem menOk_iff (m : Men) : menOk m = true ↔ ∀ k, k < 5 → m.okAt k = true := by
  constructor
  · intro h k hk
    simp only [menOk, Bool.and_eq_true] at h
    rcases five hk with rfl | rfl | rfl | rfl | rfl <;> simp [h]
  · intro h
    simp [menOk, h]
theorem menOk_false (m : Men) {k : Nat} (hk : k < 5) (h : m.okAt k = false) : menOk m = false := by
  rcases hm : menOk m with _ | _
  · rfl
  · rw [(menOk_iff m).1 hm k hk] at h; cases h
theorem okAt_bounds {m : Men} {k : Nat} (h : m.okAt k = true) : 0 ≤ m.sw k ∧ m.sw k ≤ 4 ∧ 0 ≤ m.sb k ∧ m.sb k ≤ 4 := by
  simpa [Men.okAt, and_assoc] using h
theorem menOk_at {m : Men} (h : menOk m = true) {k : Nat} (hk : k < 5) : 0 ≤ m.sw k ∧ m.sw k ≤ 4 ∧ 0 ≤ m.sb k ∧ m.sb k ≤ 4 := okAt_bounds ((menOk_iff m).1 h k hk)
theorem upto_bd {m : Men} (h : menOk m = true) {k : Nat} (hk : k ≤ 5) : 0 ≤ m.upto k ∧ m.upto k ≤ 8 * k := by
  induction k with
  | zero => simp [Men.upto]
  | succ k ih =>
    have := ih (by omega)
    have := menOk_at h (k := k) (by omega)
    simp only [Men.upto]; omega

def pawnB (m : Men) : Bool := decide (m.w0 = 0) || decide (m.b0 = 0) || decide (m.r < 6)
def validB (m : Men) : Bool := menOk m && sizeB m.f m.r && decide (m.upto 5 ≤ 4) && pawnB m

def PN : ByteArray := { data := #[80, 78, 66, 82, 81] }

/-- binomials, for k at most 4 -/
def ch (n k : Nat) : Nat := match k with | 0 => 1 | 1 => n | 2 => n * (n - 1) / 2 | 3 => n * (n - 1) * (n - 2) / 6 | 4 => n * (n - 1) * (n - 2) * (n - 3) / 24 | _ => 0
theorem ch_succ {n k : Nat} (hn : n < 64) (hk : k < 4) : ch (n + 1) (k + 1) = ch n k + ch n (k + 1) := by
  have h : ∀ n, n < 64 → ∀ k, k < 4 → ch (n + 1) (k + 1) = ch n k + ch n (k + 1) := by decide +kernel
  exact h n hn k hk
theorem ch_le {n k : Nat} (hn : n ≤ 64) (hk : k ≤ 4) : ch n k ≤ 635376 := by
  have h : ∀ n, n < 65 → ∀ k, k < 5 → ch n k ≤ 635376 := by decide +kernel
  exact h n (by omega) k (by omega)
/-- the table of ways, in a row -/
def chT (j : Nat) : Int := ch (j / 5) (j % 5)
theorem chT_at (n k : Nat) (hk : k < 5) : chT (n * 5 + k) = ch n k := by
  unfold chT; rw [show (n * 5 + k) / 5 = n by omega, show (n * 5 + k) % 5 = k by omega]

/-- the groups of a set of pieces -/
def Men.grp (m : Men) (j : Nat) : Int := if j < 5 then m.sw j else m.sb (j - 5)
def grpPiece (j : Nat) : Int := if j < 5 then (j : Int) + 1 else -((j : Int) - 5 + 1)
def grpCells (m : Men) : Nat → List Value | 0 => [] | j + 1 => grpCells m j ++ [.int .i8 (grpPiece j), .int .i64 (m.grp j)]
theorem grpCells_len (m : Men) (j : Nat) : (grpCells m j).length = j * 2 := by
  induction j with
  | zero => rfl
  | succ j ih => simp [grpCells, ih]; omega
theorem grpCells_get (m : Men) {i j : Nat} (h : i < j) : (grpCells m j)[2 * i]? = some (.int .i8 (grpPiece i)) ∧ (grpCells m j)[2 * i + 1]? = some (.int .i64 (m.grp i)) := by
  induction j with
  | zero => omega
  | succ j ih =>
    have hl := grpCells_len m j
    simp only [grpCells]
    by_cases h2 : i < j
    · rw [List.getElem?_append_left (by omega), List.getElem?_append_left (by omega)]
      exact ih h2
    · obtain rfl : i = j := by omega
      rw [List.getElem?_append_right (by omega), List.getElem?_append_right (by omega), hl]
      exact ⟨by rw [show 2 * i - i * 2 = 0 by omega]; rfl, by rw [show 2 * i + 1 - i * 2 = 1 by omega]; rfl⟩

theorem grp_bd {m : Men} (h : menOk m = true) {j : Nat} (hj : j < 10) : 0 ≤ m.grp j ∧ m.grp j ≤ 4 := by
  unfold Men.grp
  by_cases h5 : j < 5
  · rw [if_pos h5]; have := menOk_at h h5; omega
  · rw [if_neg h5]; have := menOk_at h (k := j - 5) (by omega); omega
/-- the product of the first groups' ways -/
def Men.sq (m : Men) : Nat := (m.f * m.r).toNat
def Men.prod (m : Men) : Nat → Nat | 0 => 2 * m.sq * m.sq | k + 1 => m.prod k * ch m.sq (m.grp k).toNat
/-- the count of a valid set -/
def countN (m : Men) : Nat := m.prod 10

theorem sideB_bd {n : Int} (h : sideB n = true) : 3 ≤ n ∧ n ≤ 8 := by simpa [sideB] using h
theorem validB_ok {m : Men} (h : validB m = true) : menOk m = true := by simp only [validB, Bool.and_eq_true] at h; exact h.1.1.1
theorem validB_size {m : Men} (h : validB m = true) : 3 ≤ m.f ∧ m.f ≤ 8 ∧ 3 ≤ m.r ∧ m.r ≤ 8 := by
  simp only [validB, sizeB, Bool.and_eq_true] at h
  have h1 := sideB_bd h.1.1.2.1
  have h2 := sideB_bd h.1.1.2.2
  omega
theorem validB_sum {m : Men} (h : validB m = true) : m.upto 5 ≤ 4 := by
  simp only [validB, Bool.and_eq_true, decide_eq_true_eq] at h
  exact h.1.2
theorem mul_small {a b : Int} (h1 : 3 ≤ a) (h2 : a ≤ 8) (h3 : 3 ≤ b) (h4 : b ≤ 8) : 9 ≤ a * b ∧ a * b ≤ 64 := by
  have := Int.mul_le_mul h1 h3 (by omega) (by omega)
  have := Int.mul_le_mul h2 h4 (by omega) (by omega)
  omega
theorem validB_sq {m : Men} (h : validB m = true) : m.f * m.r = (m.sq : Int) ∧ 9 ≤ m.sq ∧ m.sq ≤ 64 := by
  have h1 := validB_size h
  have h2 := mul_small h1.1 h1.2.1 h1.2.2.1 h1.2.2.2
  unfold Men.sq
  omega
def Men.gsum (m : Men) : Nat → Nat | 0 => 0 | k + 1 => m.gsum k + (m.grp k).toNat
theorem gsum_le {m : Men} (h : validB m = true) {k : Nat} (hk : k ≤ 10) : m.gsum k ≤ 4 := by
  have hs := validB_sum h
  have ho := validB_ok h
  have hg := fun j (hj : j < 10) => grp_bd ho hj
  have hm : ∀ a b, a ≤ b → m.gsum a ≤ m.gsum b := by
    intro a b hab
    induction b with
    | zero => simp [show a = 0 by omega]
    | succ b ih =>
      by_cases e : a = b + 1
      · subst e; omega
      · have := ih (by omega); simp only [Men.gsum]; omega
  have h10 : (m.gsum 10 : Int) = m.upto 5 := by
    have g : ∀ j, j < 10 → ((m.grp j).toNat : Int) = m.grp j := fun j hj => Int.toNat_of_nonneg (hg j hj).1
    have e0 := g 0 (by omega); have e1 := g 1 (by omega); have e2 := g 2 (by omega); have e3 := g 3 (by omega); have e4 := g 4 (by omega)
    have e5 := g 5 (by omega); have e6 := g 6 (by omega); have e7 := g 7 (by omega); have e8 := g 8 (by omega); have e9 := g 9 (by omega)
    simp only [Men.gsum, Men.upto, Int.natCast_add]
    simp only [e0, e1, e2, e3, e4, e5, e6, e7, e8, e9]
    simp [Men.grp]
    omega
  have := hm k 10 hk
  omega
theorem ch_pow {n k : Nat} (hn : n ≤ 64) (hk : k ≤ 4) : ch n k ≤ 64 ^ k := by
  have h : ∀ n, n < 65 → ∀ k, k < 5 → ch n k ≤ 64 ^ k := by decide +kernel
  exact h n (by omega) k (by omega)
theorem prod_le {m : Men} (h : validB m = true) {k : Nat} (hk : k ≤ 10) : m.prod k ≤ 8192 * 64 ^ m.gsum k := by
  have hs := validB_sq h
  induction k with
  | zero =>
    simp only [Men.prod, Men.gsum]
    have := Nat.mul_le_mul (Nat.mul_le_mul_left 2 hs.2.2) hs.2.2
    omega
  | succ k ih =>
    have := grp_bd (validB_ok h) (j := k) (by omega)
    have := ch_pow hs.2.2 (k := (m.grp k).toNat) (by omega)
    simp only [Men.prod, Men.gsum, Nat.pow_add]
    calc m.prod k * ch m.sq (m.grp k).toNat ≤ (8192 * 64 ^ m.gsum k) * 64 ^ (m.grp k).toNat := Nat.mul_le_mul (ih (by omega)) this
      _ = _ := by rw [Nat.mul_assoc]
theorem prod_bd {m : Men} (h : validB m = true) {k : Nat} (hk : k ≤ 10) : m.prod k ≤ 137438953472 := by
  have h1 := prod_le h hk
  have h2 : 64 ^ m.gsum k ≤ 64 ^ 4 := Nat.pow_le_pow_right (by omega) (gsum_le h hk)
  omega

/-- the count of any set, and the error -/
def cntE (m : Men) : Int × Int := if validB m = true then (if countN m ≤ 1048576 then ((countN m : Int), 0) else (0, 7)) else (0, 2)

theorem choose_step {n k i : Nat} (hn : n ≤ 64) (hk : k ≤ 4) (hkn : k ≤ n) (hi : i < k) : ch (n - k + i) i * (n - k + (i + 1)) / (i + 1) = ch (n - k + (i + 1)) (i + 1) := by
  have h : ∀ n, n < 65 → ∀ k, k < 5 → k ≤ n → ∀ i, i < k → ch (n - k + i) i * (n - k + (i + 1)) / (i + 1) = ch (n - k + (i + 1)) (i + 1) := by decide +kernel
  exact h n (by omega) k (by omega) hkn i hi
theorem choose_bd {n k i : Nat} (hn : n ≤ 64) (hk : k ≤ 4) (hkn : k ≤ n) (hi : i < k) : ch (n - k + i) i * (n - k + (i + 1)) ≤ 40664064 := by
  have := Nat.mul_le_mul (ch_le (n := n - k + i) (k := i) (by omega) (by omega)) (show n - k + (i + 1) ≤ 64 by omega)
  omega
theorem ch_zero {n k : Nat} (hk : k ≤ 4) (h : n < k) : ch n k = 0 := by
  have h' : ∀ k, k < 5 → ∀ n, n < k → ch n k = 0 := by decide
  exact h' k (by omega) n h

/-- texts of sets -/
def pnL : List UInt8 := [80, 78, 66, 82, 81]
def str (l : List UInt8) : ByteArray := ⟨l.toArray⟩
def sideN (g : Nat → Int) : Nat → List UInt8 | 0 => [75] | j + 1 => sideN g j ++ List.replicate (g (4 - j)).toNat (pnL[4 - j]?.getD 0)
def sideL (g : Nat → Int) : List UInt8 := sideN g 5
def textL (m : Men) : List UInt8 := [UInt8.ofNat (48 + m.f.toNat), 120, UInt8.ofNat (48 + m.r.toNat), 32] ++ (sideL m.sw ++ sideL m.sb)
theorem str_append (a b : List UInt8) : str a ++ str b = str (a ++ b) := by
  simp [str, ByteArray.ext_iff]
theorem str_size (l : List UInt8) : (str l).size = l.length := by simp [str, ByteArray.size]
theorem pn_cut {i : Nat} (h : i < 5) : ({ data := #[80, 78, 66, 82, 81] } : ByteArray).extract i (i + 1) = str [pnL[i]?.getD 0] := by
  rcases five h with rfl | rfl | rfl | rfl | rfl <;> decide
theorem sideN_step (a : List UInt8) (k : Nat) {i : Nat} (h : i < 5) : str (a ++ List.replicate k (pnL[i]?.getD 0)) ++ ({ data := #[80, 78, 66, 82, 81] } : ByteArray).extract i (i + 1) = str (a ++ List.replicate (k + 1) (pnL[i]?.getD 0)) := by
  rw [pn_cut h, str_append, List.append_assoc, List.replicate_succ']
theorem sideN_len {g : Nat → Int} (hg : ∀ j, j < 5 → 0 ≤ g j ∧ g j ≤ 4) {j : Nat} (hj : j ≤ 5) : (sideN g j).length ≤ 1 + 4 * j := by
  induction j with
  | zero => simp [sideN]
  | succ j ih =>
    have := ih (by omega)
    have := hg (4 - j) (by omega)
    simp only [sideN, List.length_append, List.length_replicate]; omega
end Go.Proofs.Ytddkhnnpeonbgaa
