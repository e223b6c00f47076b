/- Plain: bits, bytes and blocks of a compressed table. No program in sight. -/
import Derived.Test.YtddkhnnpeonbgaaB3
namespace Go.Proofs.Ytddkhnnpeonbgaa

/-- the number of a list of bits, the highest first -/
def valL (bs : List Int) : Int := bs.foldl (fun b x => 2 * b + x) 0
/-- the lowest w bits of a number, the highest first -/
def bitsI : Nat → Int → List Int | 0, _ => [] | w + 1, d => (d / 2 ^ w % 2) :: bitsI w d
/-- the first n bytes of a list of bits -/
def bytesN : Nat → List Int → List Int | 0, _ => [] | n + 1, bs => valL (bs.take 8) :: bytesN n (bs.drop 8)
def padN (n : Nat) : Nat := (8 - n % 8) % 8
def padL (bs : List Int) : List Int := bs ++ List.replicate (padN bs.length) 0
def isBits (bs : List Int) : Prop := ∀ x ∈ bs, x = 0 ∨ x = 1

theorem valL_foldl (bs : List Int) (a : Int) : bs.foldl (fun b x => 2 * b + x) a = a * 2 ^ bs.length + valL bs := by
  unfold valL
  induction bs generalizing a with
  | nil => simp
  | cons x bs ih =>
    simp only [List.foldl_cons, List.length_cons]
    rw [ih, ih (2 * 0 + x), Int.pow_succ, Int.add_mul]
    simp only [Int.mul_zero, Int.zero_add, Int.add_assoc, Int.mul_comm 2 a, Int.mul_assoc]
    congr 2
    exact Int.mul_comm _ _
theorem valL_append (a b : List Int) : valL (a ++ b) = valL a * 2 ^ b.length + valL b := by
  conv => lhs; unfold valL
  rw [List.foldl_append, valL_foldl]; rfl
theorem valL_cons (x : Int) (b : List Int) : valL (x :: b) = x * 2 ^ b.length + valL b := by
  have := valL_append [x] b
  simpa [valL] using this
theorem pow_pos2 (n : Nat) : (0 : Int) < 2 ^ n := Int.pow_pos (by decide)
theorem valL_bd {bs : List Int} (h : isBits bs) : 0 ≤ valL bs ∧ valL bs < 2 ^ bs.length := by
  induction bs with
  | nil => simp [valL]
  | cons x bs ih =>
    rw [valL_cons]
    have h1 := ih (fun y hy => h y (List.mem_cons_of_mem _ hy))
    simp only [List.length_cons, Int.pow_succ]
    rcases h x List.mem_cons_self with rfl | rfl <;> omega
theorem bitsI_len (w : Nat) (d : Int) : (bitsI w d).length = w := by induction w with | zero => rfl | succ w ih => simp [bitsI, ih]
theorem bitsI_bits (w : Nat) (d : Int) : isBits (bitsI w d) := by
  induction w with
  | zero => intro x hx; cases hx
  | succ w ih =>
    intro x hx
    rcases List.mem_cons.1 hx with rfl | hx
    · omega
    · exact ih x hx
theorem bitsI_val (w : Nat) (d : Int) (h0 : 0 ≤ d) (h : d < 2 ^ w) : valL (bitsI w d) = d := by
  have key : ∀ w, valL (bitsI w d) = d % 2 ^ w := by
    intro w
    induction w with
    | zero => simp [bitsI, valL, Int.emod_one]
    | succ w ih =>
      simp only [bitsI]
      rw [valL_cons, ih, bitsI_len, Int.pow_succ]
      have hp := pow_pos2 w
      generalize (2 : Int) ^ w = p at *
      have e1 := Int.mul_ediv_add_emod d p
      have e2 := Int.mul_ediv_add_emod (d / p) 2
      have h3 := Int.emod_nonneg d (show p ≠ 0 by omega)
      have h4 := Int.emod_lt_of_pos d hp
      have h5 : d / p % 2 = 0 ∨ d / p % 2 = 1 := by omega
      have : d = (p * 2) * (d / p / 2) + (d / p % 2 * p + d % p) := by
        calc d = p * (d / p) + d % p := e1.symm
          _ = p * (2 * (d / p / 2) + d / p % 2) + d % p := by rw [e2]
          _ = _ := by rw [Int.mul_add, Int.add_assoc, ← Int.mul_assoc]; congr 2; exact Int.mul_comm _ _
      conv => rhs; rw [this]
      rw [Int.mul_add_emod_self_left]
      symm
      apply Int.emod_eq_of_lt
      · rcases h5 with h | h <;> rw [h] <;> omega
      · rcases h5 with h | h <;> rw [h] <;> omega
  rw [key, Int.emod_eq_of_lt h0 h]
theorem bitsI_zero (w : Nat) : bitsI w 0 = List.replicate w 0 := by
  induction w with
  | zero => rfl
  | succ w ih => simp [bitsI, ih, List.replicate_succ]
theorem isBits_append {a b : List Int} (ha : isBits a) (hb : isBits b) : isBits (a ++ b) := by
  intro x hx
  rcases List.mem_append.1 hx with h | h
  · exact ha x h
  · exact hb x h
theorem isBits_sub {a b : List Int} (h : isBits b) (hs : ∀ x ∈ a, x ∈ b) : isBits a := fun x hx => h x (hs x hx)
/-- a byte in the middle of the bits, out of the number of all of them -/
theorem byte_mid {bs : List Int} (h : isBits bs) {k : Nat} (hk : 8 * k + 8 ≤ bs.length) : valL ((bs.drop (8 * k)).take 8) = valL bs / 2 ^ (bs.length - (8 * k + 8)) % 256 := by
  have e : bs = bs.take (8 * k) ++ ((bs.drop (8 * k)).take 8 ++ bs.drop (8 * k + 8)) := by
    have h1 := (List.take_append_drop (8 * k) bs).symm
    have h2 := (List.take_append_drop 8 (bs.drop (8 * k))).symm
    rw [List.drop_drop] at h2
    rw [← h2]; exact h1
  have hl : (bs.drop (8 * k + 8)).length = bs.length - (8 * k + 8) := by simp
  have hl2 : ((bs.drop (8 * k)).take 8).length = 8 := by simp; omega
  have b1 := valL_bd (isBits_sub h (fun x hx => List.mem_of_mem_drop (List.mem_of_mem_take hx)) : isBits ((bs.drop (8 * k)).take 8))
  have b2 := valL_bd (isBits_sub h (fun x hx => List.mem_of_mem_drop hx) : isBits (bs.drop (8 * k + 8)))
  rw [hl2] at b1
  rw [hl] at b2
  have hv : valL bs = valL (bs.take (8 * k)) * 2 ^ (8 + (bs.length - (8 * k + 8))) + (valL ((bs.drop (8 * k)).take 8) * 2 ^ (bs.length - (8 * k + 8)) + valL (bs.drop (8 * k + 8))) := by
    conv => lhs; rw [e]
    rw [valL_append, valL_append, List.length_append, hl, hl2]
  rw [hv]
  generalize valL (bs.take (8 * k)) = A at *
  generalize valL ((bs.drop (8 * k)).take 8) = B at *
  generalize valL (bs.drop (8 * k + 8)) = C at *
  rw [Int.pow_add]
  have hp := pow_pos2 (bs.length - (8 * k + 8))
  generalize (2 : Int) ^ (bs.length - (8 * k + 8)) = p at *
  have e3 : A * (2 ^ 8 * p) + (B * p + C) = p * (A * 256 + B) + C := by
    rw [Int.mul_add, Int.add_assoc, Int.mul_comm B p]; congr 1
    rw [show ((2 : Int) ^ 8) = 256 by decide, Int.mul_comm 256 p, ← Int.mul_assoc, Int.mul_comm A p, Int.mul_assoc]
  rw [e3, Int.mul_add_ediv_left _ _ (by omega), Int.ediv_eq_zero_of_lt b2.1 b2.2, Int.add_zero]
  have : B < 256 := by have := b1.2; simpa using this
  omega
theorem bytesN_len (n : Nat) (bs : List Int) : (bytesN n bs).length = n := by induction n generalizing bs with | zero => rfl | succ n ih => simp [bytesN, ih]
theorem bytesN_get (n : Nat) (bs : List Int) {k : Nat} (hk : k < n) : (bytesN n bs)[k]? = some (valL ((bs.drop (8 * k)).take 8)) := by
  induction n generalizing bs k with
  | zero => omega
  | succ n ih =>
    rcases k with _ | k
    · simp [bytesN]
    · simp only [bytesN, List.getElem?_cons_succ]
      rw [ih (bs.drop 8) (by omega), List.drop_drop]
      congr 4; omega
theorem bytesN_succ (n : Nat) (bs : List Int) : bytesN (n + 1) bs = bytesN n bs ++ [valL ((bs.drop (8 * n)).take 8)] := by
  induction n generalizing bs with
  | zero => simp [bytesN]
  | succ n ih =>
    rw [show bytesN (n + 1 + 1) bs = valL (bs.take 8) :: bytesN (n + 1) (bs.drop 8) from rfl, ih, List.drop_drop]
    rw [show 8 + 8 * n = 8 * (n + 1) by omega]; rfl
theorem bytesN_append (n : Nat) (a b : List Int) (h : 8 * n ≤ a.length) : bytesN n (a ++ b) = bytesN n a := by
  induction n generalizing a with
  | zero => rfl
  | succ n ih =>
    simp only [bytesN]
    rw [List.take_append_of_le_length (by omega), List.drop_append_of_le_length (by omega), ih _ (by simp; omega)]
theorem padN_lt (n : Nat) : padN n < 8 ∧ (n + padN n) % 8 = 0 := by unfold padN; omega

/-- the number of bits of a difference -/
def wid (n : Int) : Nat := if n ≤ 0 then 0 else if n < 2 then 1 else if n < 4 then 2 else if n < 8 then 3 else if n < 16 then 4 else if n < 32 then 5 else if n < 64 then 6 else if n < 128 then 7 else if n < 256 then 8
  else if n < 512 then 9 else if n < 1024 then 10 else if n < 2048 then 11 else if n < 4096 then 12 else if n < 8192 then 13 else if n < 16384 then 14 else if n < 32768 then 15 else 16
theorem wid_eq (n : Int) : (n ≤ 0 ∧ wid n = 0) ∨ (0 < n ∧ n < 2 ∧ wid n = 1) ∨ (2 ≤ n ∧ n < 4 ∧ wid n = 2) ∨ (4 ≤ n ∧ n < 8 ∧ wid n = 3) ∨ (8 ≤ n ∧ n < 16 ∧ wid n = 4) ∨ (16 ≤ n ∧ n < 32 ∧ wid n = 5) ∨ (32 ≤ n ∧ n < 64 ∧ wid n = 6) ∨ (64 ≤ n ∧ n < 128 ∧ wid n = 7) ∨ (128 ≤ n ∧ n < 256 ∧ wid n = 8)
   ∨ (256 ≤ n ∧ n < 512 ∧ wid n = 9) ∨ (512 ≤ n ∧ n < 1024 ∧ wid n = 10) ∨ (1024 ≤ n ∧ n < 2048 ∧ wid n = 11) ∨ (2048 ≤ n ∧ n < 4096 ∧ wid n = 12) ∨ (4096 ≤ n ∧ n < 8192 ∧ wid n = 13) ∨ (8192 ≤ n ∧ n < 16384 ∧ wid n = 14) ∨ (16384 ≤ n ∧ n < 32768 ∧ wid n = 15) ∨ (32768 ≤ n ∧ wid n = 16) := by
  unfold wid
  by_cases h0 : n ≤ 0
  · simp [h0]
  by_cases h1 : n < 2
  · simp [h0, h1]; omega
  by_cases h2 : n < 4
  · simp [h0, h1, h2]; omega
  by_cases h3 : n < 8
  · simp [h0, h1, h2, h3]; omega
  by_cases h4 : n < 16
  · simp [h0, h1, h2, h3, h4]; omega
  by_cases h5 : n < 32
  · simp [h0, h1, h2, h3, h4, h5]; omega
  by_cases h6 : n < 64
  · simp [h0, h1, h2, h3, h4, h5, h6]; omega
  by_cases h7 : n < 128
  · simp [h0, h1, h2, h3, h4, h5, h6, h7]; omega
  by_cases h8 : n < 256
  · simp [h0, h1, h2, h3, h4, h5, h6, h7, h8]; omega
  by_cases h9 : n < 512
  · simp [h0, h1, h2, h3, h4, h5, h6, h7, h8, h9]; omega
  by_cases h10 : n < 1024
  · simp [h0, h1, h2, h3, h4, h5, h6, h7, h8, h9, h10]; omega
  by_cases h11 : n < 2048
  · simp [h0, h1, h2, h3, h4, h5, h6, h7, h8, h9, h10, h11]; omega
  by_cases h12 : n < 4096
  · simp [h0, h1, h2, h3, h4, h5, h6, h7, h8, h9, h10, h11, h12]; omega
  by_cases h13 : n < 8192
  · simp [h0, h1, h2, h3, h4, h5, h6, h7, h8, h9, h10, h11, h12, h13]; omega
  by_cases h14 : n < 16384
  · simp [h0, h1, h2, h3, h4, h5, h6, h7, h8, h9, h10, h11, h12, h13, h14]; omega
  by_cases h15 : n < 32768
  · simp [h0, h1, h2, h3, h4, h5, h6, h7, h8, h9, h10, h11, h12, h13, h14, h15]; omega
  · simp [h0, h1, h2, h3, h4, h5, h6, h7, h8, h9, h10, h11, h12, h13, h14, h15]; omega
theorem wid_le {n : Int} (h : n < 16384) : wid n ≤ 14 := by have := wid_eq n; omega
theorem wid_pow {n : Int} (h0 : 0 ≤ n) (h : n < 16384) : n < 2 ^ wid n := by
  rcases wid_eq n with ⟨h1, e⟩ | ⟨h1, h2, e⟩ | ⟨h1, h2, e⟩ | ⟨h1, h2, e⟩ | ⟨h1, h2, e⟩ | ⟨h1, h2, e⟩ | ⟨h1, h2, e⟩ | ⟨h1, h2, e⟩ | ⟨h1, h2, e⟩ | ⟨h1, h2, e⟩ | ⟨h1, h2, e⟩ | ⟨h1, h2, e⟩ | ⟨h1, h2, e⟩ | ⟨h1, h2, e⟩ | ⟨h1, h2, e⟩ | ⟨h1, h2, e⟩ | ⟨h1, e⟩
  all_goals (rw [e]; simp only [Int.reducePow, Int.pow_zero]; omega)
def lowL (l : List Int) : Int := l.foldl min (l[0]?.getD 0)
def highL (l : List Int) : Int := l.foldl max (l[0]?.getD 0)
theorem foldl_min_le (l : List Int) (a : Int) : l.foldl min a ≤ a ∧ ∀ x ∈ l, l.foldl min a ≤ x := by
  induction l generalizing a with
  | nil => simp
  | cons y l ih =>
    simp only [List.foldl_cons]
    have := ih (min a y)
    refine ⟨by omega, fun x hx => ?_⟩
    rcases List.mem_cons.1 hx with rfl | hx
    · omega
    · exact this.2 x hx
theorem foldl_max_ge (l : List Int) (a : Int) : a ≤ l.foldl max a ∧ ∀ x ∈ l, x ≤ l.foldl max a := by
  induction l generalizing a with
  | nil => simp
  | cons y l ih =>
    simp only [List.foldl_cons]
    have := ih (max a y)
    refine ⟨by omega, fun x hx => ?_⟩
    rcases List.mem_cons.1 hx with rfl | hx
    · omega
    · exact this.2 x hx
theorem foldl_min_mem (l : List Int) (a : Int) : l.foldl min a = a ∨ l.foldl min a ∈ l := by
  induction l generalizing a with
  | nil => simp
  | cons y l ih =>
    simp only [List.foldl_cons]
    rcases ih (min a y) with h | h
    · rw [h]
      rcases Int.le_total a y with h2 | h2
      · left; omega
      · right; rw [Int.min_eq_right h2]; exact List.mem_cons_self
    · right; exact List.mem_cons_of_mem _ h
theorem foldl_max_mem (l : List Int) (a : Int) : l.foldl max a = a ∨ l.foldl max a ∈ l := by
  induction l generalizing a with
  | nil => simp
  | cons y l ih =>
    simp only [List.foldl_cons]
    rcases ih (max a y) with h | h
    · rw [h]
      rcases Int.le_total y a with h2 | h2
      · left; omega
      · right; rw [Int.max_eq_right h2]; exact List.mem_cons_self
    · right; exact List.mem_cons_of_mem _ h
theorem low_bd {l : List Int} (hne : l ≠ []) {a b : Int} (h : ∀ x ∈ l, a ≤ x ∧ x ≤ b) : a ≤ lowL l ∧ lowL l ≤ b ∧ a ≤ highL l ∧ highL l ≤ b ∧ lowL l ≤ highL l ∧ ∀ x ∈ l, lowL l ≤ x ∧ x ≤ highL l := by
  obtain ⟨y, t, rfl⟩ := List.exists_cons_of_ne_nil hne
  have hy : ((y :: t : List Int)[0]?.getD 0) = y := rfl
  have m1 := foldl_min_le (y :: t) y
  have m2 := foldl_max_ge (y :: t) y
  have m3 := foldl_min_mem (y :: t) y
  have m4 := foldl_max_mem (y :: t) y
  unfold lowL highL
  rw [hy]
  have b0 := h y List.mem_cons_self
  have b1 : a ≤ (y :: t).foldl min y ∧ (y :: t).foldl min y ≤ b := by rcases m3 with e | e; rw [e]; exact b0; exact h _ e
  have b2 : a ≤ (y :: t).foldl max y ∧ (y :: t).foldl max y ≤ b := by rcases m4 with e | e; rw [e]; exact b0; exact h _ e
  exact ⟨b1.1, b1.2, b2.1, b2.2, Int.le_trans m1.1 m2.1, fun x hx => ⟨m1.2 x hx, m2.2 x hx⟩⟩
/-- the bits of a block -/
def blkBits (lo : Int) (w : Nat) (l : List Int) : List Int := l.flatMap (fun e => bitsI w (e - lo))
theorem blkBits_len (lo : Int) (w : Nat) (l : List Int) : (blkBits lo w l).length = l.length * w := by
  induction l with
  | nil => simp [blkBits]
  | cons x l ih => simp only [blkBits, List.flatMap_cons, List.length_append, bitsI_len] at ih ⊢; rw [ih, List.length_cons, Nat.succ_mul]; omega
theorem blkBits_bits (lo : Int) (w : Nat) (l : List Int) : isBits (blkBits lo w l) := by
  intro x hx
  obtain ⟨e, _, he⟩ := List.mem_flatMap.1 hx
  exact bitsI_bits _ _ _ he
theorem blkBits_append (lo : Int) (w : Nat) (a b : List Int) : blkBits lo w (a ++ b) = blkBits lo w a ++ blkBits lo w b := List.flatMap_append
/-- the bytes of a list of bits, filled up -/
def bytesL (bs : List Int) : List Int := bytesN ((padL bs).length / 8) (padL bs)
def widL (l : List Int) : Nat := wid (highL l - lowL l)
/-- the bytes of a block -/
def blockL (l : List Int) : List Int := [(widL l : Int), lowL l / 256, lowL l % 256] ++ bytesL (blkBits (lowL l) (widL l) l)
/-- the blocks of entries -/
def chunkL (es : List Int) (i : Nat) : List Int := (es.drop (32 * i)).take 32
def blocksL (es : List Int) : Nat → List Int | 0 => [] | k + 1 => blocksL es k ++ blockL (chunkL es k)
def nBlk (n : Nat) : Nat := (n + 31) / 32
def headL (m : Men) : List Int := ((textL m).length : Int) :: (textL m).map (fun c => (c.toNat : Int))
def packL (m : Men) (es : List Int) : List Int := headL m ++ blocksL es (nBlk es.length)
end Go.Proofs.Ytddkhnnpeonbgaa
