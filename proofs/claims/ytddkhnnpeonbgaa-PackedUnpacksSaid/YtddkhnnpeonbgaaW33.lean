import Derived.Test.YtddkhnnpeonbgaaW31
namespace Go.Proofs.Ytddkhnnpeonbgaa
open Go.RowKit

theorem Try.info56 : (Try.prog.info? 56).map (fun i => (i.zero, i.size, i.bytes)) = some (some (.int .i16 0), 1, 2) := by kernel_rfl
abbrev tabV (m : Men) (v : Value) : List Value := m.cs ++ [v]
/-- what a round of Unpack's inner loop keeps -/
def unpC (wB : World) (qt qb : Nat) (m : Men) (blk : List Value) (W : World) : Prop :=
  Below qt wB W ∧ HasO W qb (.cells blk.toArray 76 (0, 0)) ∧ ∃ u, HasO W qt (.cells (tabV m u).toArray 29 (0, 0))
def unpR (wB : World) (qt qb : Nat) (m : Men) (blk : List Value) (vals : Nat → Value) (v : Value) (L : Nat) (es : List Int) (x : Int) (S : Nat → Bool) (f : Nat → Value) (W : World) : Prop :=
  unpC wB qt qb m blk W ∧ (∀ i, i < 8 → i ≠ 5 → i ≠ 6 → S i = true → f i = vals i) ∧ (S 6 = false → W.ownsRow qt 56 1 v L (es.map (.int .i16)) ∧ HasO W qt (.cells (tabV m v).toArray 29 (0, 0))) ∧
  (S 5 = true → S 6 = false → ∃ q, f 5 = .slice (some ⟨q, 0, none⟩) 1 1 ∧ W.cell? ⟨q, 0, none⟩ = some (.int .i16 x)) ∧
  (S 6 = true → W.ownsRow qt 56 1 (f 6) (L + 1) ((es ++ [x]).map (.int .i16))) ∧ (S 8 = true → HasO W qt (.cells (tabV m (f 6)).toArray 29 (0, 0)))
theorem unpR_congr {wB : World} {qt qb : Nat} {m : Men} {blk : List Value} {vals : Nat → Value} {v : Value} {L : Nat} {es : List Int} {x : Int} (S S' : Nat → Bool) (f : Nat → Value) (W : World) (h : ∀ i, i < 9 → S i = S' i) (hR : unpR wB qt qb m blk vals v L es x S f W) :
    unpR wB qt qb m blk vals v L es x S' f W := by
  unfold unpR at hR ⊢
  simp only [← h 5 (by omega), ← h 6 (by omega), ← h 8 (by omega)]
  exact ⟨hR.1, fun i hi h5 h6 hS => hR.2.1 i hi h5 h6 (by rw [h i (by omega)]; exact hS), hR.2.2⟩
theorem unpC_below {wB : World} {qt qb : Nat} {m : Men} {blk : List Value} {W W' : World} (h : unpC wB qt qb m blk W) (hb : Below W.heap.size W W') (hq : qt ≤ W.heap.size) : unpC wB qt qb m blk W' := by
  obtain ⟨h1, h2, u, h3⟩ := h
  exact ⟨below_call h1 hq hb, h2.call hb, u, h3.call hb⟩
/-- an operation that makes memory at most -/
theorem unpR_step {wB : World} {qt qb : Nat} {m : Men} {blk : List Value} {vals : Nat → Value} {v : Value} {L : Nat} {es : List Int} {x : Int} {S : Nat → Bool} {f : Nat → Value} {W W' : World} (hR : unpR wB qt qb m blk vals v L es x S f W) (i : Nat) (hi : i ≠ 5 ∧ i ≠ 6 ∧ i ≠ 8) (hb : Below W.heap.size W W') :
    unpR wB qt qb m blk vals v L es x (upd S i) (fun j => if j = i then vals i else f j) W' := by
  obtain ⟨hC, h1, h2, h3, h4, h5⟩ := hR
  have hq : qt ≤ W.heap.size := Nat.le_of_lt (hC.2.2.choose_spec).lt
  have e5 : upd S i 5 = S 5 := by unfold upd; rw [if_neg (fun e => hi.1 e.symm)]
  have e6 : upd S i 6 = S 6 := by unfold upd; rw [if_neg (fun e => hi.2.1 e.symm)]
  have e8 : upd S i 8 = S 8 := by unfold upd; rw [if_neg (fun e => hi.2.2 e.symm)]
  unfold unpR
  have n5 : ¬ (5 : Nat) = i := fun e => hi.1 e.symm
  have n6 : ¬ (6 : Nat) = i := fun e => hi.2.1 e.symm
  simp only [n5, n6, if_false]
  rw [e5, e6, e8]
  refine ⟨unpC_below hC hb hq, fun j hj hj5 hj6 hS => ?_, fun h => ⟨own_call (h2 h).1 hb, (h2 h).2.call hb⟩, fun ha hc => ?_, fun h => own_call (h4 h) hb, fun h => (h5 h).call hb⟩
  · by_cases e : j = i
    · subst e; simp
    · simp only [e, if_false]
      exact h1 j hj hj5 hj6 (by simpa [upd, e] using hS)
  · obtain ⟨q, e1, e2⟩ := h3 ha hc
    exact ⟨q, e1, by rw [hb.cell (p := ⟨q, 0, none⟩) (block_lt_of_cell e2)]; exact e2⟩
theorem unpR_5 {wB : World} {qt qb : Nat} {m : Men} {blk : List Value} {vals : Nat → Value} {v : Value} {L : Nat} {es : List Int} {x : Int} {S : Nat → Bool} {f : Nat → Value} {W : World} (hR : unpR wB qt qb m blk vals v L es x S f W) :
    unpR wB qt qb m blk vals v L es x (upd S 5) (fun j => if j = 5 then .slice (some ⟨W.heap.size, 0, none⟩) 1 1 else f j) (W.alloc (.cells #[.int .i16 x] 56)) := by
  have hb := below_box W (.cells #[.int .i16 x] 56)
  obtain ⟨hC, h1, h2, h3, h4, h5⟩ := hR
  have hq : qt ≤ W.heap.size := Nat.le_of_lt (hC.2.2.choose_spec).lt
  have e6 : upd S 5 6 = S 6 := rfl
  have e8 : upd S 5 8 = S 8 := rfl
  unfold unpR
  rw [e6, e8]
  refine ⟨unpC_below hC hb hq, fun j hj hj5 hj6 hS => ?_, fun h => ⟨own_call (h2 h).1 hb, (h2 h).2.call hb⟩, fun _ _ => ⟨W.heap.size, rfl, ?_⟩, fun h => own_call (h4 h) hb, fun h => (h5 h).call hb⟩
  · simp only [hj5, if_false]
    exact h1 j hj hj5 hj6 (by simpa [upd, hj5] using hS)
  · exact (HasO.new W (.cells #[.int .i16 x] 56)).cells 0
theorem unpR_6 {wB : World} {qt qb : Nat} {m : Men} {blk : List Value} {vals : Nat → Value} {v v' : Value} {L : Nat} {es : List Int} {x : Int} {S : Nat → Bool} {f : Nat → Value} {W W' : World} (hR : unpR wB qt qb m blk vals v L es x S f W) (h6 : S 6 = false) (h8 : S 8 = false)
    (hown : W'.ownsRow qt 56 1 v' (L + 1) ((es ++ [x]).map (.int .i16))) (hg : W.grownBy W' v.ownBlock) :
    unpR wB qt qb m blk vals v L es x (upd S 6) (fun j => if j = 6 then v' else f j) W' := by
  obtain ⟨hC, h1, h2, h3, h4, h5⟩ := hR
  obtain ⟨c1, c2, u, c3⟩ := hC
  have hq : qt ≤ W.heap.size := Nat.le_of_lt c3.lt
  have e8 : upd S 6 8 = false := h8
  have e6 : upd S 6 6 = true := by simp [upd]
  have hv := (h2 h6).1
  unfold unpR
  rw [e6, e8]
  refine ⟨⟨c1.grown hg hq (fun k e => (hv.lt k e).1), c2.grown hg (own_ne hv c2 (by simp)), u, c3.grown hg (own_ne hv c3 (by simp))⟩, fun j hj hj5 hj6 hS => ?_, (fun h => by cases h), (fun _ h => by cases h), fun _ => hown, (fun h => by cases h)⟩
  simp only [hj6, if_false]
  exact h1 j hj hj5 hj6 (by simpa [upd, hj6] using hS)
theorem tabV_set (m : Men) (u v : Value) : (tabV m u).toArray.setIfInBounds 12 v = (tabV m v).toArray := rfl
theorem unpR_8 {wB : World} {qt qb : Nat} {m : Men} {blk : List Value} {vals : Nat → Value} {v : Value} {L : Nat} {es : List Int} {x : Int} {S : Nat → Bool} {f : Nat → Value} {W : World} {d : Value} (hR : unpR wB qt qb m blk vals v L es x S f W) (h6 : S 6 = true) (hqb : qb ≠ qt) :
    unpR wB qt qb m blk vals v L es x (upd S 8) (fun j => if j = 8 then d else f j) (W.setCell ⟨qt, 12, none⟩ (f 6)) := by
  obtain ⟨hC, h1, h2, h3, h4, h5⟩ := hR
  obtain ⟨c1, c2, u, c3⟩ := hC
  have hq : qt ≤ W.heap.size := Nat.le_of_lt c3.lt
  have e6 : upd S 8 6 = true := h6
  have hA : Alt qt (qt + 1) W (W.setCell ⟨qt, 12, none⟩ (f 6)) := Alt.setCell (by simp)
  have hT : HasO (W.setCell ⟨qt, 12, none⟩ (f 6)) qt (.cells (tabV m (f 6)).toArray 29 (0, 0)) := by
    have := c3.set_ 12 (f 6)
    rw [tabV_set] at this; exact this
  unfold unpR
  rw [e6]
  have hne := own_ne (h4 h6) c3 (by simp)
  refine ⟨⟨c1.setCell (by simp) _, hA.hasO c2 (by omega), _, hT⟩, fun j hj hj5 hj6 hS => ?_, (fun h => by cases h), (fun _ h => by cases h), fun _ => hA.own (h4 h6) (fun k e => by rcases Nat.lt_trichotomy k qt with h | h | h; exact .inl h; exact absurd (by rw [← h]; exact e) hne; exact .inr h), fun _ => hT⟩
  have : j ≠ 8 := by omega
  simp only [this, if_false]
  exact h1 j hj hj5 hj6 (by simpa [upd, this] using hS)
theorem bs27 (x : Int) (W : World) : (Instr.buildSlice 27 1 #[(0, .int .i16 x)]).run Try.prog W = .ok (.slice (some ⟨W.heap.size, 0, none⟩) 1 1) (W.alloc (.cells #[.int .i16 x] 56)) := by
  kernel_rfl

/-- what Unpack gives -/
def UnpR (w : World) (r : Option (Men × List Int)) (er : Bool → Value) (e : Ending) (w' : World) : Prop :=
  Below w.heap.size w w' ∧ ((r = none ∧ e = .returned (.tuple #[.agg (tabCs zeroMen none 0 0).toArray, er false])) ∨
    ∃ m es p c, r = some (m, es) ∧ es.length ≤ c ∧ e = .returned (.tuple #[.agg (tabCs m p es.length c).toArray, er true]) ∧ w'.ownsRow w.heap.size 56 1 (.slice p es.length c) es.length (es.map (.int .i16)))
/-- the table with a compressed form -/
def tabB (bs : List Int) : Option (Men × List Int) :=
  match outM bs with
  | none => none
  | some m => if tabOk m (entsL bs (countN m) (nBlk (countN m))) = true ∧ packL m (entsL bs (countN m) (nBlk (countN m))) = bs then some (m, entsL bs (countN m) (nBlk (countN m))) else none

theorem own_arr {W : World} {base : Nat} {t : TypeId} {v : Value} {k : IntKind} {xs : List Int} (h : W.ownsRow base t 1 v xs.length (xs.map (.int k))) : ∃ p c, v = .slice p xs.length c ∧ xs.length ≤ c ∧ Arr k W p xs := by
  have h' := h
  rcases h.2 with ⟨rfl, h2⟩ | ⟨g, cap, cur, rfl, hg, hh, hc, _⟩
  · have : xs = [] := List.eq_nil_of_length_eq_zero h2
    subst this
    exact ⟨none, 0, rfl, Nat.le_refl _, .inl rfl⟩
  · refine ⟨_, cap, rfl, hc, .inr ⟨g, 0, rfl, (h'.lt g rfl).2, fun j hj => ?_⟩⟩
    rw [Nat.zero_add, h'.cellAt _ (by omega)]
    simp [hj]
theorem isBytes_append {a b : List Int} (ha : isBytes a) (hb : isBytes b) : isBytes (a ++ b) := fun x hx => by
  rcases List.mem_append.1 hx with h | h
  · exact ha x h
  · exact hb x h
theorem bytesN_bytes (n : Nat) {bs : List Int} (h : isBits bs) : isBytes (bytesN n bs) := by
  induction n generalizing bs with
  | zero => intro x hx; cases hx
  | succ n ih =>
    intro x hx
    simp only [bytesN] at hx
    rcases List.mem_cons.1 hx with rfl | hx
    · have h1 := valL_bd (isBits_sub h (fun x hx => List.mem_of_mem_take hx) : isBits (bs.take 8))
      have h2 : (2 : Int) ^ (bs.take 8).length ≤ 2 ^ 8 := two_pow_le (by simp; omega)
      have : (2 : Int) ^ 8 = 256 := by decide
      omega
    · exact ih (isBits_sub h (fun x hx => List.mem_of_mem_drop hx)) x hx
theorem blockL_bytes {l : List Int} (hne : l ≠ []) (h : ∀ x ∈ l, 0 ≤ x ∧ x ≤ 10002) : isBytes (blockL l) := by
  obtain ⟨b1, b2, b3, b4, b5, b6⟩ := low_bd hne h
  have hw := wid_le (n := highL l - lowL l) (by omega)
  unfold blockL
  refine isBytes_append ?_ (bytesN_bytes _ ?_)
  · intro x hx
    simp only [List.mem_cons, List.not_mem_nil, or_false] at hx
    unfold widL at hx
    rcases hx with rfl | rfl | rfl <;> omega
  · unfold padL
    refine isBits_append (blkBits_bits _ _ _) (fun x hx => ?_)
    have := List.eq_of_mem_replicate hx
    exact .inl this
theorem blocksL_bytes (es : List Int) (h : ∀ x ∈ es, 0 ≤ x ∧ x ≤ 10002) (k : Nat) (hk : k ≤ nBlk es.length) : isBytes (blocksL es k) := by
  induction k with
  | zero => intro x hx; cases hx
  | succ k ih =>
    simp only [blocksL]
    refine isBytes_append (ih (by omega)) (blockL_bytes ?_ (fun x hx => h x (chunkL_mem hx)))
    intro e
    have := chunkL_len es k
    rw [e] at this
    unfold nBlk at hk
    simp at this; omega
theorem packL_bytes {m : Men} {es : List Int} (h : tabOk m es = true) : isBytes (packL m es) := by
  obtain ⟨hv, _, _, _, hent⟩ := tabOk_facts h
  have ht := textL_len hv
  unfold packL
  refine isBytes_append ?_ (blocksL_bytes es hent _ (Nat.le_refl _))
  intro x hx
  unfold headL at hx
  rcases List.mem_cons.1 hx with rfl | hx
  · omega
  · obtain ⟨c, _, rfl⟩ := List.mem_map.1 hx
    have := c.toNat_lt
    omega
theorem packL_len (m : Men) (es : List Int) : 0 < (packL m es).length := by
  unfold packL
  rw [List.length_append, headL_len]; omega
end Go.Proofs.Ytddkhnnpeonbgaa
