/- Plain: the reference's way of reading a set's text gives the same. No program in sight. -/
import Derived.Test.YtddkhnnpeonbgaaB2
namespace Go.Proofs.Ytddkhnnpeonbgaa

def hit (b : Bool) (c : UInt8) (k j : Nat) : Int := if b = true ∧ j < k ∧ c = pnL[j]?.getD 0 then 1 else 0
/-- the counts behind the first k rounds of the inner loop -/
def inA (m : Men) (wh : Bool) (c : UInt8) (k : Nat) : Men :=
  ⟨m.f, m.r, m.w0 + hit wh c k 0, m.w1 + hit wh c k 1, m.w2 + hit wh c k 2, m.w3 + hit wh c k 3, m.w4 + hit wh c k 4,
   m.b0 + hit (!wh) c k 0, m.b1 + hit (!wh) c k 1, m.b2 + hit (!wh) c k 2, m.b3 + hit (!wh) c k 3, m.b4 + hit (!wh) c k 4⟩
def kgs (k : Int) (c : UInt8) : Int := if c = 75 then k + 1 else k
def stp (st : Men × Int) (c : UInt8) : Men × Int := (inA st.1 (decide (kgs st.2 c = 1)) c 5, kgs st.2 c)
def refSt (x y : Int) (l : List UInt8) (i : Nat) : Men × Int := ((l.drop 4).take i).foldl stp (⟨x, y, 0, 0, 0, 0, 0, 0, 0, 0, 0, 0⟩, 0)
theorem refSt_succ (x y : Int) (l : List UInt8) {i : Nat} (h : i + 4 < l.length) : refSt x y l (i + 1) = stp (refSt x y l i) (l[i + 4]?.getD 0) := by
  unfold refSt
  rw [List.take_succ_eq_append_getElem (by simp; omega), List.foldl_append]
  simp only [List.getElem_drop, List.foldl_cons, List.foldl_nil]
  rw [List.getElem?_eq_getElem h]
  simp [Nat.add_comm]
theorem inA_zero (m : Men) (b : Bool) (c : UInt8) : inA m b c 0 = m := by
  simp [inA, hit]
theorem hit_le (b : Bool) (c : UInt8) (k j : Nat) : 0 ≤ hit b c k j ∧ hit b c k j ≤ 1 := by unfold hit; split <;> omega
theorem inA_sw (m : Men) (b : Bool) (c : UInt8) (n : Nat) {k : Nat} (hk : k < 5) : (inA m b c n).sw k = m.sw k + hit b c n k := by rcases five hk with rfl | rfl | rfl | rfl | rfl <;> rfl
theorem inA_sb (m : Men) (b : Bool) (c : UInt8) (n : Nat) {k : Nat} (hk : k < 5) : (inA m b c n).sb k = m.sb k + hit (!b) c n k := by rcases five hk with rfl | rfl | rfl | rfl | rfl <;> rfl
theorem hit_self (b : Bool) (c : UInt8) (k : Nat) : hit b c k k = 0 := by simp [hit]
theorem hit_off (c : UInt8) (k j : Nat) : hit false c k j = 0 := by simp [hit]
theorem hit_next {b : Bool} {c : UInt8} {k j : Nat} (h : j ≠ k) : hit b c (k + 1) j = hit b c k j := by
  unfold hit; congr 1; simp only [eq_iff_iff]
  constructor
  · rintro ⟨h1, h2, h3⟩; exact ⟨h1, by omega, h3⟩
  · rintro ⟨h1, h2, h3⟩; exact ⟨h1, by omega, h3⟩
theorem hit_miss {b : Bool} {c : UInt8} {k : Nat} (h : c ≠ pnL[k]?.getD 0) (j : Nat) : hit b c (k + 1) j = hit b c k j := by
  unfold hit; congr 1; simp only [eq_iff_iff]
  constructor
  · rintro ⟨h1, h2, h3⟩
    refine ⟨h1, ?_, h3⟩
    rcases Nat.lt_or_ge j k with h4 | h4
    · exact h4
    · obtain rfl : j = k := by omega
      exact absurd h3 h
  · rintro ⟨h1, h2, h3⟩; exact ⟨h1, by omega, h3⟩
theorem hit_now {c : UInt8} {k : Nat} (h : c = pnL[k]?.getD 0) : hit true c (k + 1) k = 1 := by simp [hit, ← h]
theorem inA_miss {m : Men} {b : Bool} {c : UInt8} {k : Nat} (h : c ≠ pnL[k]?.getD 0) : inA m b c (k + 1) = inA m b c k := by
  simp only [inA, hit_miss h]
theorem inA_w {m : Men} {c : UInt8} {k : Nat} (hk : k < 5) (h : c = pnL[k]?.getD 0) : (inA m true c k).cs.toArray.setIfInBounds (2 + k) (.int .i64 (m.sw k + 1)) = (inA m true c (k + 1)).cs.toArray := by
  have h1 := hit_now h
  have h0 := hit_self true c k
  simp only [inA, Bool.not_true, hit_off]
  rcases five hk with rfl | rfl | rfl | rfl | rfl <;> simp (disch := decide) only [hit_next, h1] <;> rfl
theorem inA_b {m : Men} {c : UInt8} {k : Nat} (hk : k < 5) (h : c = pnL[k]?.getD 0) : (inA m false c k).cs.toArray.setIfInBounds (7 + k) (.int .i64 (m.sb k + 1)) = (inA m false c (k + 1)).cs.toArray := by
  have h1 := hit_now h
  have h0 := hit_self true c k
  simp only [inA, Bool.not_false, hit_off]
  rcases five hk with rfl | rfl | rfl | rfl | rfl <;> simp (disch := decide) only [hit_next, h1] <;> rfl
theorem refSt_bd (x y : Int) (l : List UInt8) (i : Nat) : (∀ k, k < 5 → 0 ≤ (refSt x y l i).1.sw k ∧ (refSt x y l i).1.sw k ≤ i ∧ 0 ≤ (refSt x y l i).1.sb k ∧ (refSt x y l i).1.sb k ≤ i) ∧ 0 ≤ (refSt x y l i).2 ∧ (refSt x y l i).2 ≤ i := by
  induction i with
  | zero =>
    refine ⟨fun k hk => ?_, by simp [refSt], by simp [refSt]⟩
    rcases five hk with rfl | rfl | rfl | rfl | rfl <;> simp [refSt, Men.sw, Men.sb]
  | succ i ih =>
    by_cases h : i + 4 < l.length
    · rw [refSt_succ x y l h]
      refine ⟨fun k hk => ?_, ?_⟩
      · have := ih.1 k hk
        simp only [stp, inA_sw _ _ _ _ hk, inA_sb _ _ _ _ hk]
        have h1 := hit_le (decide (kgs (refSt x y l i).2 (l[i + 4]?.getD 0) = 1)) (l[i + 4]?.getD 0) 5 k
        have h2 := hit_le (!decide (kgs (refSt x y l i).2 (l[i + 4]?.getD 0) = 1)) (l[i + 4]?.getD 0) 5 k
        omega
      · have := ih.2
        simp only [stp, kgs]
        split <;> omega
    · have e : refSt x y l (i + 1) = refSt x y l i := by
        unfold refSt
        rw [List.take_of_length_le (by simp; omega), List.take_of_length_le (by simp; omega)]
      rw [e]
      refine ⟨fun k hk => ?_, by omega, by omega⟩
      have := ih.1 k hk
      omega
/-- the reference's candidate -/
def refCand (s : List UInt8) : Men := (refSt (((s[0]?.getD 0).toNat : Int) - 48) (((s[2]?.getD 0).toNat : Int) - 48) s (s.length - 4)).1

def addW (m : Men) (k : Nat) (n : Int) : Men := match k with | 0 => { m with w0 := m.w0 + n } | 1 => { m with w1 := m.w1 + n } | 2 => { m with w2 := m.w2 + n } | 3 => { m with w3 := m.w3 + n } | _ => { m with w4 := m.w4 + n }
def addB (m : Men) (k : Nat) (n : Int) : Men := match k with | 0 => { m with b0 := m.b0 + n } | 1 => { m with b1 := m.b1 + n } | 2 => { m with b2 := m.b2 + n } | 3 => { m with b3 := m.b3 + n } | _ => { m with b4 := m.b4 + n }
theorem stp_w (m : Men) {k : Nat} (hk : k < 5) : stp (m, 1) (pnL[k]?.getD 0) = (addW m k 1, 1) := by
  rcases five hk with rfl | rfl | rfl | rfl | rfl <;> simp [stp, inA, hit, kgs, pnL, addW]
theorem stp_b (m : Men) {k : Nat} (hk : k < 5) : stp (m, 2) (pnL[k]?.getD 0) = (addB m k 1, 2) := by
  rcases five hk with rfl | rfl | rfl | rfl | rfl <;> simp [stp, inA, hit, kgs, pnL, addB]
theorem stp_K (m : Men) (k : Int) : stp (m, k) 75 = (m, k + 1) := by
  simp [stp, inA, hit, kgs, pnL]
theorem rep_w (m : Men) {k : Nat} (hk : k < 5) (n : Nat) : (List.replicate n (pnL[k]?.getD 0)).foldl stp (m, 1) = (addW m k n, 1) := by
  induction n generalizing m with
  | zero => rcases five hk with rfl | rfl | rfl | rfl | rfl <;> simp [addW]
  | succ n ih =>
    rw [List.replicate_succ, List.foldl_cons, stp_w m hk, ih]
    rcases five hk with rfl | rfl | rfl | rfl | rfl <;> simp [addW] <;> omega
theorem rep_b (m : Men) {k : Nat} (hk : k < 5) (n : Nat) : (List.replicate n (pnL[k]?.getD 0)).foldl stp (m, 2) = (addB m k n, 2) := by
  induction n generalizing m with
  | zero => rcases five hk with rfl | rfl | rfl | rfl | rfl <;> simp [addB]
  | succ n ih =>
    rw [List.replicate_succ, List.foldl_cons, stp_b m hk, ih]
    rcases five hk with rfl | rfl | rfl | rfl | rfl <;> simp [addB] <;> omega
theorem refCand_text {m : Men} (h : validB m = true) : refCand (textL m) = m := by
  have hz := validB_size h
  have ho := validB_ok h
  have hg : ∀ k, k < 5 → (((m.sw k).toNat : Nat) : Int) = m.sw k ∧ (((m.sb k).toNat : Nat) : Int) = m.sb k := fun k hk => by have := menOk_at ho hk; omega
  have d1 := digit_ne (n := m.f) (by omega) (by omega)
  have d2 := digit_ne (n := m.r) (by omega) (by omega)
  unfold refCand refSt
  have e0 : (textL m)[0]?.getD 0 = UInt8.ofNat (48 + m.f.toNat) := rfl
  have e2 : (textL m)[2]?.getD 0 = UInt8.ofNat (48 + m.r.toNat) := rfl
  have ed : (textL m).drop 4 = sideL m.sw ++ sideL m.sb := rfl
  rw [e0, e2, d1.2, d2.2, ed, List.take_of_length_le (by rw [← ed]; simp)]
  unfold sideL
  simp only [sideN, List.foldl_append, List.foldl_cons, List.foldl_nil, stp_K]
  simp only [Nat.sub_zero, Nat.reduceSub]
  simp only [show (0 : Int) + 1 = 1 from rfl, rep_w _ (show 4 < 5 by decide), rep_w _ (show 3 < 5 by decide), rep_w _ (show 2 < 5 by decide), rep_w _ (show 1 < 5 by decide), rep_w _ (show 0 < 5 by decide)]
  simp only [stp_K, show (1 : Int) + 1 = 2 from rfl, rep_b _ (show 4 < 5 by decide), rep_b _ (show 3 < 5 by decide), rep_b _ (show 2 < 5 by decide), rep_b _ (show 1 < 5 by decide), rep_b _ (show 0 < 5 by decide)]
  simp only [(hg 0 (by decide)).1, (hg 0 (by decide)).2, (hg 1 (by decide)).1, (hg 1 (by decide)).2, (hg 2 (by decide)).1, (hg 2 (by decide)).2, (hg 3 (by decide)).1, (hg 3 (by decide)).2, (hg 4 (by decide)).1, (hg 4 (by decide)).2]
  simp [addW, addB, Men.sw, Men.sb]
theorem parse_ref (s : List UInt8) : parseC s = if validB (refCand s) = true ∧ textL (refCand s) = s then some (refCand s) else none := by
  by_cases h : validB (refCand s) = true ∧ textL (refCand s) = s
  · rw [if_pos h]
    have := parse_text h.1
    rw [h.2] at this; exact this
  · rw [if_neg h]
    rcases hp : parseC s with _ | m
    · rfl
    · exfalso
      have := parse_some hp
      refine h ?_
      rw [← this.2, refCand_text this.1]
      exact ⟨this.1, rfl⟩
theorem parse_len {s : List UInt8} (h : s.length < 6 ∨ 10 < s.length) : parseC s = none := by
  rcases hp : parseC s with _ | m
  · rfl
  · exfalso
    have := parse_some hp
    have h2 := tail_sum this.1
    have h3 := tailN_len (g := m.sw) 5
    have h4 := tailN_len (g := m.sb) 5
    have : (textL m).length = s.length := by rw [this.2]
    simp only [textL, sideL, List.length_append, List.length_cons, List.length_nil] at this
    omega
end Go.Proofs.Ytddkhnnpeonbgaa
