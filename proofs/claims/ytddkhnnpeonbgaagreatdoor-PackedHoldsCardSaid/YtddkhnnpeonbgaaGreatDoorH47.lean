import Derived.Test.YtddkhnnpeonbgaaGreatDoorH20
import Derived.Test.YtddkhnnpeonbgaaGreatDoorH44
import Derived.Test.YtddkhnnpeonbgaaGreatDoorH45
import Derived.Test.YtddkhnnpeonbgaaGreatDoorH46
namespace Go.Proofs.YtddkhnnpeonbgaaGreatDoor

theorem blocksL_split (es : List Int) (k K : Nat) (h : k < K) : ∃ rest, blocksL es K = blocksL es k ++ (blockL (chunkL es k) ++ rest) := by
 induction K with
 | zero => omega
 | succ K ih =>
  simp only [blocksL]
  rcases Nat.lt_or_ge k K with h2 | h2
  ·obtain ⟨rest, e⟩ := ih h2
   exact ⟨rest ++ blockL (chunkL es K), by rw [e]; simp⟩
  ·obtain rfl : k = K := by omega
   exact ⟨[], by simp⟩
theorem packL_split (m : Men) (es : List Int) {k : Nat} (h : k < nBlk es.length) : ∃ rest, packL m es = (headL m ++ blocksL es k) ++ (blockL (chunkL es k) ++ rest) := by
 obtain ⟨rest, e⟩ := blocksL_split es k _ h
 exact ⟨rest, by unfold packL; rw [e]; simp⟩
theorem atv_split {A B C : List Int} {j : Nat} (h : j < B.length) : atv (A ++ (B ++ C)) (A.length + j) = B[j]?.getD 0 := by
 unfold atv
 rw [List.getElem?_append_right (by omega), List.getElem?_append_left (by omega)]
 congr 2; omega
theorem bytesL_len (bs : List Int) : (bytesL bs).length = (bs.length + 7) / 8 := by
 unfold bytesL
 rw [bytesN_len]
 unfold padL padN
 simp only [List.length_append, List.length_replicate]
 omega
theorem blockL_len2 (l : List Int) : (blockL l).length = 3 + (l.length * widL l + 7) / 8 := by
 unfold blockL
 rw [List.length_append, bytesL_len, blkBits_len]; rfl
theorem bit_of {l : List Int} (hb : isBits l) (h8 : l.length = 8) {r : Nat} (hr : r < 8) : valL l / 2 ^ (7 - r) % 2 = l[r]?.getD 0 := by
 have e : l = l.take r ++ (l[r]?.getD 0 :: l.drop (r + 1)) := by
  conv => lhs; rw [← List.take_append_drop r l]
  congr 1
  rw [List.drop_eq_getElem_cons (by omega), List.getElem?_eq_getElem (by omega)]; rfl
 have hd : (l.drop (r + 1)).length = 7 - r := by simp; omega
 have b2 := valL_bd (isBits_sub hb (fun x hx => List.mem_of_mem_drop hx) : isBits (l.drop (r + 1)))
 rw [hd] at b2
 have hx : l[r]?.getD 0 = 0 ∨ l[r]?.getD 0 = 1 := by
  rw [List.getElem?_eq_getElem (by omega)]; exact hb _ (List.getElem_mem _)
 conv => lhs; rw [e]
 rw [valL_append, valL_cons, List.length_cons, hd]
 generalize valL (l.take r) = A at *
 generalize valL (l.drop (r + 1)) = B at *
 generalize l[r]?.getD 0 = x at *
 have hp := pow_pos2 (7 - r)
 rw [Int.pow_succ]
 generalize (2 : Int) ^ (7 - r) = p at *
 have e3 : A * (p * 2) + (x * p + B) = p * (A * 2 + x) + B := by
  rw [Int.mul_add, Int.add_assoc, Int.mul_comm x p]; congr 1
  rw [Int.mul_comm p 2, ← Int.mul_assoc, Int.mul_comm (A * 2) p]
 rw [e3, Int.mul_add_ediv_left _ _ (by omega), Int.ediv_eq_zero_of_lt b2.1 b2.2, Int.add_zero]
 omega
theorem padL_bits {bs : List Int} (h : isBits bs) : isBits (padL bs) := isBits_append h (fun x hx => by rw [List.mem_replicate] at hx; exact .inl hx.2)
theorem padL_len8 (bs : List Int) : (padL bs).length = 8 * ((bs.length + 7) / 8) := by
 unfold padL padN
 simp only [List.length_append, List.length_replicate]
 omega
theorem bytesL_bit {bs : List Int} (h : isBits bs) {j : Nat} (hj : j < bs.length) : (bytesL bs)[j / 8]?.getD 0 / 2 ^ (7 - j % 8) % 2 = bs[j]?.getD 0 := by
 have hl := padL_len8 bs
 unfold bytesL
 rw [bytesN_get _ _ (by omega)]
 simp only [Option.getD_some]
 have h8 : (((padL bs).drop (8 * (j / 8))).take 8).length = 8 := by simp; omega
 rw [bit_of (isBits_sub (padL_bits h) (fun x hx => List.mem_of_mem_drop (List.mem_of_mem_take hx))) h8 (by omega)]
 rw [List.getElem?_take_of_lt (by omega), List.getElem?_drop]
 unfold padL
 rw [List.getElem?_append_left (by omega)]
 congr 2; omega
theorem difB_val {bs l : List Int} {a : Nat} (h : ∀ j, j < l.length → bitB bs a j = l[j]?.getD 0) (i k : Nat) (hk : i + k ≤ l.length) : difB bs a i k = valL ((l.drop i).take k) := by
 induction k with
 | zero => simp [difB, valL]
 | succ k ih =>
  rw [difB_succ, ih (by omega), h _ (by omega), List.take_succ_eq_append_getElem (by simp; omega), valL_append]
  rw [List.getElem_drop, List.getElem?_eq_getElem (by omega)]
  simp [valL, Int.mul_comm]
theorem blkBits_at (lo : Int) (w : Nat) (l : List Int) {i : Nat} (hi : i < l.length) : ((blkBits lo w l).drop (i * w)).take w = bitsI w (l[i]?.getD 0 - lo) := by
 induction l generalizing i with
 | nil => simp at hi
 | cons x l ih =>
  have e : blkBits lo w (x :: l) = bitsI w (x - lo) ++ blkBits lo w l := rfl
  rw [e]
  have hw := bitsI_len w (x - lo)
  rcases i with _ | i
  ·simp only [Nat.zero_mul, List.drop_zero, List.getElem?_cons_zero, Option.getD_some]
   rw [List.take_append_of_le_length (by omega), List.take_of_length_le (by omega)]
  ·have := ih (i := i) (by simpa using hi)
   rw [Nat.succ_mul, List.drop_append, hw]
   rw [List.drop_eq_nil_of_le (by omega)]
   simpa using this
theorem bytesA {bs : List Int} {A l C : List Int} (hbs : bs = A ++ (blockL l ++ C)) {j : Nat} (hj : j < l.length * widL l) :
  bitB bs (A.length + 3) j = (blkBits (lowL l) (widL l) l)[j]?.getD 0 := by
 unfold bitB
 have hb := blkBits_bits (lowL l) (widL l) l
 have hl := blkBits_len (lowL l) (widL l) l
 rw [hbs, show A.length + 3 + j / 8 = A.length + (3 + j / 8) by omega, atv_split (by rw [blockL_len2]; omega)]
 rw [← bytesL_bit hb (by omega)]
 unfold blockL
 rw [List.getElem?_append_right (by simp)]
 simp
section
variable {m : Men} {es : List Int}
theorem chunk_ne {k : Nat} (h : k < nBlk es.length) : chunkL es k ≠ [] := by
 intro e
 have := chunkL_len es k
 rw [e] at this
 unfold nBlk at h
 simp at this; omega
theorem chunk_bd (he : ∀ x ∈ es, 0 ≤ x ∧ x ≤ 10002) {k : Nat} (h : k < nBlk es.length) :
  0 ≤ lowL (chunkL es k) ∧ lowL (chunkL es k) ≤ 10002 ∧ widL (chunkL es k) ≤ 14 ∧ ∀ x ∈ chunkL es k, 0 ≤ x - lowL (chunkL es k) ∧ x - lowL (chunkL es k) < 2 ^ widL (chunkL es k) := by
 have hb := low_bd (chunk_ne h) (fun x hx => he x (chunkL_mem hx))
 refine ⟨hb.1, hb.2.1, wid_le (by omega), fun x hx => ?_⟩
 have h1 := hb.2.2.2.2.2 x hx
 have h2 := wid_pow (n := highL (chunkL es k) - lowL (chunkL es k)) (by omega) (by omega)
 unfold widL
 omega
theorem head_atv (_h : validB m = true) (B : List Int) : atv (headL m ++ B) 0 = ((textL m).length : Int) ∧ headP (headL m ++ B) = (headL m).length := by
 have : atv (headL m ++ B) 0 = ((textL m).length : Int) := by simp [atv, headL]
 refine ⟨this, ?_⟩
 unfold headP
 rw [this, headL_len]; simp; omega
theorem pos_pack (hv : validB m = true) (_he : ∀ x ∈ es, 0 ≤ x ∧ x ≤ 10002) : ∀ k, k ≤ nBlk es.length → posB (packL m es) es.length k = (headL m ++ blocksL es k).length := by
 intro k
 induction k with
 | zero => intro _; simp only [posB]; rw [show packL m es = headL m ++ blocksL es (nBlk es.length) from rfl, (head_atv hv _).2]; simp [blocksL]
 | succ k ih =>
  intro hk
  have h1 := ih (by omega)
  obtain ⟨rest, e⟩ := packL_split m es (k := k) (by omega)
  have hw : atv (packL m es) (posB (packL m es) es.length k) = (widL (chunkL es k) : Int) := by
   rw [h1, e]
   have := atv_split (A := headL m ++ blocksL es k) (B := blockL (chunkL es k)) (C := rest) (j := 0) (by rw [blockL_len2]; omega)
   rw [Nat.add_zero] at this
   rw [this]; rfl
  rw [posB_succ, hw, h1]
  simp only [blocksL, List.length_append, blockL_len2, Int.toNat_natCast]
  have : manyB es.length k = (chunkL es k).length := by rw [chunkL_len]; rfl
  rw [this, Nat.mul_comm (widL _)]; omega
theorem blk_pack (hv : validB m = true) (he : ∀ x ∈ es, 0 ≤ x ∧ x ≤ 10002) {k : Nat} (hk : k < nBlk es.length) :
  widB (packL m es) es.length k = widL (chunkL es k) ∧ lowB (packL m es) es.length k = lowL (chunkL es k) ∧
  ∀ i, i < (chunkL es k).length → entB (packL m es) es.length k i = (chunkL es k)[i]?.getD 0 := by
 have hp := pos_pack hv he k (by omega)
 obtain ⟨rest, e⟩ := packL_split m es hk
 obtain ⟨b1, b2, b3, b4⟩ := chunk_bd he hk
 have hat : ∀ j, j < (blockL (chunkL es k)).length → atv (packL m es) (posB (packL m es) es.length k + j) = (blockL (chunkL es k))[j]?.getD 0 := fun j hj => by rw [hp, e]; exact atv_split hj
 have hl3 := blockL_len2 (chunkL es k)
 have hw : widB (packL m es) es.length k = widL (chunkL es k) := by
  unfold widB
  have := hat 0 (by omega)
  rw [Nat.add_zero] at this
  rw [this]; simp [blockL]
 have hlo : lowB (packL m es) es.length k = lowL (chunkL es k) := by
  unfold lowB
  rw [hat 1 (by omega), hat 2 (by omega)]
  simp [blockL]; omega
 refine ⟨hw, hlo, fun i hi => ?_⟩
 have hmem : (chunkL es k)[i]?.getD 0 ∈ chunkL es k := by rw [List.getElem?_eq_getElem hi]; exact List.getElem_mem hi
 have hd := b4 _ hmem
 have hx := he _ (chunkL_mem hmem)
 have hbit : ∀ j, j < (blkBits (lowL (chunkL es k)) (widL (chunkL es k)) (chunkL es k)).length → bitB (packL m es) (posB (packL m es) es.length k + 3) j = (blkBits (lowL (chunkL es k)) (widL (chunkL es k)) (chunkL es k))[j]?.getD 0 := by
  intro j hj
  rw [blkBits_len] at hj
  rw [hp]
  exact bytesA e hj
 unfold entB
 rw [hw, hlo, difB_val hbit _ _ (by rw [blkBits_len]; have := Nat.mul_le_mul_right (widL (chunkL es k)) (show i + 1 ≤ (chunkL es k).length by omega); rw [Nat.succ_mul] at this; exact this), blkBits_at _ _ _ hi, bitsI_val _ _ hd.1 hd.2]
 have : lowL (chunkL es k) + ((chunkL es k)[i]?.getD 0 - lowL (chunkL es k)) = (chunkL es k)[i]?.getD 0 := by omega
 rw [this]
 unfold i16of
 rw [if_pos (by omega)]; omega
theorem head_pack (hv : validB m = true) (hc : countN m ≤ 262144) (B : List Int) : headM (headL m ++ B) = some m := by
 have h0 := (head_atv hv B).1
 have hlen : (headL m ++ B).length = 1 + (textL m).length + B.length := by rw [List.length_append, headL_len]; omega
 have hu : toU (((headL m ++ B).drop 1).take (textL m).length) = textL m := by
  have : (headL m ++ B).drop 1 = (textL m).map (fun c => (c.toNat : Int)) ++ B := rfl
  rw [this, List.take_append_of_le_length (by simp), List.take_of_length_le (by simp)]
  unfold toU
  rw [List.map_map]
  conv => rhs; rw [← List.map_id (textL m)]
  apply List.map_congr_left
  intro c _
  simp
 unfold headM
 rw [h0, if_neg (by omega), if_neg (by rw [hlen]; simp only [Int.toNat_natCast]; omega)]
 rw [Int.toNat_natCast, hu, parse_text hv]
 simp only
 rw [if_pos hc]
theorem body_pack (hv : validB m = true) (he : ∀ x ∈ es, 0 ≤ x ∧ x ≤ 10002) : bodyOk (packL m es) es.length = true := by
 have hall := pos_pack hv he
 have hN : posB (packL m es) es.length (nBlk es.length) = (packL m es).length := hall _ (Nat.le_refl _)
 unfold bodyOk
 rw [hN]
 simp only [decide_true, Bool.and_true]
 rw [okTo_iff]
 intro k hk
 have hle := posB_le (packL m es) es.length (show k + 1 ≤ nBlk es.length by omega)
 rw [hN] at hle
 have hs := posB_succ (packL m es) es.length k
 obtain ⟨hw, _, _⟩ := blk_pack hv he hk
 have h14 := (chunk_bd he hk).2.2.1
 have h0 : 0 ≤ atv (packL m es) (posB (packL m es) es.length k) := by
  obtain ⟨rest, e⟩ := packL_split m es hk
  rw [hall k (by omega), e]
  have := atv_split (A := headL m ++ blocksL es k) (B := blockL (chunkL es k)) (C := rest) (j := 0) (by rw [blockL_len2]; omega)
  rw [Nat.add_zero] at this
  rw [this]; simp [blockL]
 unfold widB at hw
 simp only [blkOk, hdOk, Bool.and_eq_true, decide_eq_true_eq]
 exact ⟨⟨by omega, by omega⟩, by omega⟩
theorem outM_pack (hok : tabOk m es = true) : outM (packL m es) = some m := by
 obtain ⟨hv, hcnt, _, hle, he⟩ := tabOk_facts hok
 unfold outM
 rw [show packL m es = headL m ++ blocksL es (nBlk es.length) from rfl, head_pack hv (by omega)]
 simp only
 have := body_pack (m := m) hv he
 rw [show packL m es = headL m ++ blocksL es (nBlk es.length) from rfl] at this
 rw [hcnt, this]; rfl
theorem ent_pack (hok : tabOk m es = true) {j : Nat} (hj : j < es.length) : entB (packL m es) (countN m) (j / 32) (j % 32) = es[j]?.getD 0 := by
 obtain ⟨hv, hcnt, _, hle, he⟩ := tabOk_facts hok
 have hk : j / 32 < nBlk es.length := by unfold nBlk; omega
 rw [hcnt, (blk_pack hv he hk).2.2 (j % 32) (by rw [chunkL_len]; omega), chunkL_get _ _ (by rw [chunkL_len]; omega)]
 congr 2; omega
theorem entsL_pack (hok : tabOk m es = true) : entsL (packL m es) (countN m) (nBlk (countN m)) = es := by
 obtain ⟨hv, hcnt, _, hle, he⟩ := tabOk_facts hok
 apply List.ext_getElem?
 intro j
 rcases Nat.lt_or_ge j es.length with h | h
 ·rw [entsL_get _ _ (Nat.le_refl _) (by omega) (by unfold nBlk; omega), ent_pack hok h, List.getElem?_eq_getElem h]; rfl
 ·rw [List.getElem?_eq_none (by rw [entsL_all]; omega), List.getElem?_eq_none h]
theorem tabB_pack (hok : tabOk m es = true) : tabB (packL m es) = some (m, es) := by
 unfold tabB
 rw [outM_pack hok]
 simp only
 rw [entsL_pack hok, if_pos ⟨hok, rfl⟩]
theorem tabB_some {bs : List Int} (h : tabB bs = some (m, es)) : tabOk m es = true ∧ packL m es = bs := by
 unfold tabB at h
 rcases hM : outM bs with _ | m'
 ·rw [hM] at h; cases h
 ·rw [hM] at h
  simp only at h
  generalize entsL bs (countN m') (nBlk (countN m')) = es' at h
  by_cases hc : tabOk m' es' = true ∧ packL m' es' = bs
  ·rw [if_pos hc] at h
   obtain ⟨h1, h2⟩ := Prod.mk.inj (Option.some.inj h)
   rw [← h1, ← h2]
   exact hc
  ·rw [if_neg hc] at h; cases h
theorem packL_len59 (hok : tabOk m es = true) : (packL m es).length ≤ 1 + (atv (packL m es) 0).toNat + 59 * nBlk es.length ∧ 0 < (packL m es).length ∧ atv (packL m es) 0 = ((textL m).length : Int) ∧ (textL m).length ≤ 10 := by
 obtain ⟨hv, hcnt, _, hle, he⟩ := tabOk_facts hok
 have h1 := blocksL_len es (nBlk es.length) (fun _ _ => he) (Nat.le_refl _)
 have h2 := (head_atv hv (blocksL es (nBlk es.length))).1
 have h3 := textL_len hv
 have e : packL m es = headL m ++ blocksL es (nBlk es.length) := rfl
 refine ⟨?_, ?_, ?_, h3.2⟩
 ·rw [e, h2, List.length_append, headL_len]; simp; omega
 ·rw [e, List.length_append, headL_len]; omega
 ·rw [e]; exact h2
end
end Go.Proofs.YtddkhnnpeonbgaaGreatDoor
namespace Go.Proofs.YtddkhnnpeonbgaaGreatDoor
open Go.RowKit

def lookV (bs : List Int) (f r : Int) (xs : List Int) (bl : Bool) (ca pa ha fu : Int) : Int × Int :=
 if pvB f r xs bl ca pa ha fu then (match outM bs with
  | none => (0, 6)
  | some m => if (numE f r xs bl ca pa ha fu).2 ≠ 0 then (0, (numE f r xs bl ca pa ha fu).2) else if ofM f r xs xs.length ≠ m then (0, 9) else getV bs (numE f r xs bl ca pa ha fu).1) else (0, 2)
theorem numE_ok {f r : Int} {xs : List Int} {bl : Bool} {ca pa ha fu : Int} (h : (numE f r xs bl ca pa ha fu).2 = 0) : pvB f r xs bl ca pa ha fu = true ∧ validB (ofM f r xs xs.length) = true := by
 unfold numE at h
 rcases h1 : pvB f r xs bl ca pa ha fu with _ | _
 ·rw [h1] at h; simp at h
 ·rcases h2 : validB (ofM f r xs xs.length) with _ | _
  ·rw [h1, h2] at h; simp at h
  ·exact ⟨rfl, rfl⟩
theorem look_pos {bs : List Int} {f r : Int} {xs : List Int} {bl : Bool} {ca pa ha fu : Int} {m : Men} {n e : Int} (h : pvB f r xs bl ca pa ha fu = true) (hM : outM bs = some m) (hn : numE f r xs bl ca pa ha fu = (n, e)) :
  lookV bs f r xs bl ca pa ha fu = if e ≠ 0 then (0, e) else if ofM f r xs xs.length ≠ m then (0, 9) else getV bs n := by
 unfold lookV; rw [h, hM, hn]; rfl
set_option maxRecDepth 100000 in
set_option maxHeartbeats 3200000 in
theorem look_any (f r ca pa ha fu : Int) (bl : Bool) (p : Option Addr) (c : Nat) (xs : List Int) (hca : 0 ≤ ca ∧ ca < 256) (hl : xs.length ≤ 1000) (hcap : xs.length ≤ c) (h8 : ∀ x ∈ xs, -128 ≤ x ∧ x ≤ 127)
  (pb : Option Addr) (cb : Nat) (bs : List Int) (hbs : isBytes bs) (hlb : bs.length ≤ 2000000) (hcb : bs.length ≤ cb) (w : World) (hg : GlobOk w) (hm : MaxOk w) (hx : Arr .i8 w p xs) (hb : Arr .u8 w pb bs) :
  Calls Tryz.prog 8 #[.slice pb bs.length cb, .agg (posCs f r p xs.length c bl ca pa ha fu).toArray] w fun e w' => e = .returned (.tuple #[.int .i16 (lookV bs f r xs bl ca pa ha fu).1, .int .i64 (lookV bs f r xs bl ca pa ha fu).2]) ∧ Below w.heap.size w w' := by
 have hms : 1 < w.heap.size := by obtain ⟨_, _, h⟩ := hm; exact h
 have hA := HasO.new w (.cells (posCs f r p xs.length c bl ca pa ha fu).toArray 27)
 have hB := below_box w (.cells (posCs f r p xs.length c bl ca pa ha fu).toArray 27)
 have hpv := fun W hg hx => posValid_any f r ca pa ha fu bl p c xs hca hl hcap W hg hx
 rw [pv_eq] at hpv
 have hnu := fun W hg hx => idxNumber_any f r ca pa ha fu bl p c xs hca hl hcap h8 (fun h1 _ => ⟨(pv_fac h1).2.1, (pv_fac h1).2.2⟩) W hg hx
 have hofp := fun W hg hx => idxOfP_any f r ca pa ha fu bl p c xs hca hl hcap h8 W hg hx
 have hnok := numE_ok (f := f) (r := r) (xs := xs) (bl := bl) (ca := ca) (pa := pa) (ha := ha) (fu := fu)
 have hlp := fun m n e => look_pos (bs := bs) (f := f) (r := r) (xs := xs) (bl := bl) (ca := ca) (pa := pa) (ha := ha) (fu := fu) (m := m) (n := n) (e := e)
 have hl0 : pvB f r xs bl ca pa ha fu = false → lookV bs f r xs bl ca pa ha fu = (0, 2) := fun h => by unfold lookV; rw [h]; rfl
 have hl6 : pvB f r xs bl ca pa ha fu = true → outM bs = none → lookV bs f r xs bl ca pa ha fu = (0, 6) := fun h h2 => by unfold lookV; rw [h, h2]; rfl
 have hOf : pvB f r xs bl ca pa ha fu = true → validB (ofM f r xs xs.length) = true → ofV f r xs bl ca pa ha fu = .tuple #[.agg (ofM f r xs xs.length).cs.toArray, .int .i64 0] := fun h1 h2 => by unfold ofV ofE; rw [h1, h2]; rfl
 generalize lookV bs f r xs bl ca pa ha fu = V at *
 generalize hnE : numE f r xs bl ca pa ha fu = NE at *
 obtain ⟨nn, ne⟩ := NE
 generalize pvB f r xs bl ca pa ha fu = D at *
 generalize ofV f r xs bl ca pa ha fu = OV at *
 generalize ofM f r xs xs.length = mo at *
 clear hnE
 simp only [] at hnu hnok
 replace hnok := Lib.hid hnok
 replace hlp := Lib.hid hlp
 replace hl0 := Lib.hid hl0
 replace hl6 := Lib.hid hl6
 replace hOf := Lib.hid hOf
 have hx1 := hx.call hB
 have hb1 := hb.call hB
 have hg1 := hg.call hB
 have hm1 := hm.call hB hms
 have hc := hA.cells
 have hlc := hA.lt
 clear hx hb hg
 go_enter Tryz.func8, Tryz.ntmps8
 go_wp2_with fail
 show Calls _ _ _ (w.alloc (.cells (posCs f r p xs.length c bl ca pa ha fu).toArray 27)) _
 generalize w.alloc (.cells (posCs f r p xs.length c bl ca pa ha fu).toArray 27) = w1 at *
 refine (hpv w1 hg1 hx1).mono ?_
 rintro e w2 ⟨rfl, hb2⟩
 have hA2 := hA.call hb2
 have hB2 := below_call hB hB.size hb2
 have hx2 := hx1.call hb2
 have hbb2 := hb1.call hb2
 have hg2 := hg1.call hb2
 have hm2 := hm.call hB2 hms
 clear hA hB hx1 hb1 hg1 hpv hc hlc hb2 hm1
 rcases D with _ | _
 ·have e0 : Hid (V = (0, 2)) := Lib.hid (hl0.out rfl)
  go_wp2_with fail
  go_ret2
  exact ⟨by rw [e0.out]; rfl, hB2⟩
 ·go_wp2_with fail
  refine (pof_S pb cb bs w2 hbb2 hbs hlb hcb hm2).mono ?_
  rintro e w3 ⟨hb3, vp, vn, vc, rfl, _, _⟩
  have hA3 := hA2.call hb3
  have hB3 := below_call hB2 hB2.size hb3
  have hx3 := hx2.call hb3
  have hbb3 := hbb2.call hb3
  have hg3 := hg2.call hb3
  clear hA2 hB2 hx2 hbb2 hg2 hb3 hm2
  rcases hM : outM bs with _ | m
  ·have e0 : Hid (V = (0, 6)) := Lib.hid (hl6.out (by simp) hM)
   have hV : outV bs = (zeroMen, 0, 6) := by unfold outV; rw [hM]
   rw [hV]
   clear hM hV
   have hb4 := hB3.alloc hB3.size (.cells (outCs zeroMen 0 (.slice vp vn vc)).toArray 65)
   go_wp2_with fail
   go_ret2
   exact ⟨by rw [e0.out]; rfl, hb4⟩
  ·have e0 : Hid (V = if ne ≠ 0 then (0, ne) else if mo ≠ m then (0, 9) else getV bs nn) := Lib.hid (hlp.out m nn ne (by simp) hM rfl)
   have hV : outV bs = (m, (countN m : Int), 0) := by unfold outV; rw [hM]
   rw [hV]
   clear hM hV hlp
   have hT := HasO.new w3 (.cells zeroOut 65)
   have hi65 : Hid ((Tryz.prog.info? 65).map (·.size) = some (outCs m (countN m) (.slice vp vn vc)).toArray.size) := Lib.hid (by kernel_rfl)
   obtain ⟨w4, hw4⟩ : ∃ x, x = (w3.alloc (.cells zeroOut 65)).setRow w3.heap.size (outCs m (countN m) (.slice vp vn vc)).toArray := ⟨_, rfl⟩
   obtain ⟨q, hq⟩ : ∃ q, q = w3.heap.size := ⟨_, rfl⟩
   have hT4 : HasO w4 q (.cells (outCs m (countN m) (.slice vp vn vc)).toArray 65 (0, 0)) := by rw [hw4, hq]; exact setRow_hasO hT
   have hb4 : Below w3.heap.size w3 w4 := by rw [hw4]; exact setRow_below (below_box _ _) (Nat.le_refl _) (by simp)
   have hA4 := hA3.call hb4
   have hB4 := below_call hB3 hB3.size hb4
   have hx4 := hx3.call hb4
   have hbb4 := hbb3.call hb4
   have hg4 := hg3.call hb4
   have hc := hA4.cells
   have hlc := hA4.lt
   have hnu4 := hnu w4 hg4 hx4
   have hone : Hid ((outCs m (countN m) (.slice vp vn vc)).toArray.all (·.oneCell') = true) := Lib.hid (by first | kernel_rfl | simp [Value.oneCell'])
   replace hw4 := Lib.hid hw4
   clear hA3 hB3 hx3 hbb3 hg3 hb4
   go_wp2_with (first | (refine wpList_storeTo hw4 rfl 65 (.tmp 6) (.tmp 17) rfl rfl rfl 65 _ hT hi65.out rfl hone.out ?_) | fail)
   rw [← hq]
   clear hT hw4 hi65 hq hone
   refine hnu4.mono ?_
   rintro e w5 ⟨rfl, hb5⟩
   have hT5 := hT4.call hb5
   have hA5 := hA4.call hb5
   have hB5 := below_call hB4 hB4.size hb5
   have hx5 := hx4.call hb5
   have hbb5 := hbb4.call hb5
   have hg5 := hg4.call hb5
   have hc := hA5.cells
   have hlc := hA5.lt
   clear hT4 hA4 hB4 hx4 hbb4 hg4 hb5
   by_cases hne : ne = 0
   ·subst hne
    obtain ⟨_, hvb⟩ := hnok.out rfl
    replace e0 : Hid (V = if mo ≠ m then (0, 9) else getV bs nn) := Lib.hid (by rw [e0.out, if_neg (by simp)])
    go_wp2_with fail
    have ho := hofp w5 hg5 hx5
    rw [hOf.out (by simp) hvb] at ho
    refine ho.mono ?_
    rintro e w6 ⟨rfl, hb6⟩
    have hi41 : Hid ((Tryz.prog.info? 41).map (·.size) = some zeroMen.cs.toArray.size) := Lib.hid (by kernel_rfl)
    have hT := HasO.new w6 (.cells zeroMen.cs.toArray 41)
    obtain ⟨w7, hw7⟩ : ∃ x, x = (w6.alloc (.cells zeroMen.cs.toArray 41)).setRow w6.heap.size mo.cs.toArray := ⟨_, rfl⟩
    have hM7 : HasO w7 w6.heap.size (.cells mo.cs.toArray 41 (0, 0)) := by rw [hw7]; exact setRow_hasO hT
    have hb7 : Below w6.heap.size w6 w7 := by rw [hw7]; exact setRow_below (below_box _ _) (Nat.le_refl _) (by simp)
    have hT7 := (hT5.call hb6).call hb7
    have hB7 := below_call (below_call hB5 hB5.size hb6) (below_call hB5 hB5.size hb6).size hb7
    have hbb7 := (hbb5.call hb6).call hb7
    have hm7 := hm.call hB7 hms
    replace hw7 := Lib.hid hw7
    have k1 := hM7.cells
    have l1 := hM7.lt
    have k2 := hT7.cells
    have l2 := hT7.lt
    clear hT5 hA5 hB5 hx5 hbb5 hg5 hc hlc hb6 hb7 ho
    by_cases hmm : mo = m
    ·replace e0 : Hid (V = getV bs nn) := Lib.hid (by rw [e0.out, if_neg (fun h => h hmm)])
     subst hmm
     have he := fun W => (men_neq mo mo W).trans (show _ = Result.ok (Value.bool false) W by simp)
     have hgd := fun x y W => men_guard .neq x y mo.cs.toArray mo.cs.toArray W
     go_wp2_with (first | (refine wpList_storeTo hw7 rfl 41 (.tmp 9) (.tmp 33) rfl rfl rfl 41 _ hT hi41.out rfl (men_one mo) ?_) | fail)
     refine (Get_any pb cb bs nn w7 hbb7 hbs hlb hcb hm7).mono ?_
     rintro e w8 ⟨rfl, hb8⟩
     go_wp2_with fail
     go_ret2
     exact ⟨by rw [e0.out]; rfl, below_call hB7 hB7.size hb8⟩
    ·replace e0 : Hid (V = (0, 9)) := Lib.hid (by rw [e0.out, if_pos hmm])
     have he := fun W => (men_neq mo m W).trans (show _ = Result.ok (Value.bool true) W by simp [hmm])
     have hgd := fun x y W => men_guard .neq x y mo.cs.toArray m.cs.toArray W
     clear hmm
     go_wp2_with (first | (refine wpList_storeTo hw7 rfl 41 (.tmp 9) (.tmp 33) rfl rfl rfl 41 _ hT hi41.out rfl (men_one mo) ?_) | fail)
     go_ret2
     exact ⟨by rw [e0.out]; rfl, hB7⟩
   ·replace e0 : Hid (V = (0, ne)) := Lib.hid (by rw [e0.out, if_pos hne])
    go_wp2_with fail
    go_ret2
    exact ⟨by rw [e0.out]; rfl, hB5⟩
set_option maxRecDepth 100000 in
set_option maxHeartbeats 3200000 in
theorem refLook_any (f r ca pa ha fu : Int) (bl : Bool) (p : Option Addr) (c : Nat) (xs : List Int) (hca : 0 ≤ ca ∧ ca < 256) (hl : xs.length ≤ 1000) (_hcap : xs.length ≤ c) (h8 : ∀ x ∈ xs, -128 ≤ x ∧ x ≤ 127)
  (pb : Option Addr) (cb : Nat) (bs : List Int) (hbs : isBytes bs) (hlb : bs.length ≤ 2000000) (hcb : bs.length ≤ cb) (w : World) (hg : GlobOk w) (hm : MaxOk w) (hx : Arr .i8 w p xs) (hb : Arr .u8 w pb bs) :
  Calls Tryz.prog 9 #[.slice pb bs.length cb, .agg (posCs f r p xs.length c bl ca pa ha fu).toArray] w fun e w' => e = .returned (.tuple #[.int .i16 (lookV bs f r xs bl ca pa ha fu).1, .int .i64 (lookV bs f r xs bl ca pa ha fu).2]) ∧ Below w.heap.size w w' := by
 have hms : 1 < w.heap.size := by obtain ⟨_, _, h⟩ := hm; exact h
 have hA := HasO.new w (.cells (posCs f r p xs.length c bl ca pa ha fu).toArray 27)
 have hB := below_box w (.cells (posCs f r p xs.length c bl ca pa ha fu).toArray 27)
 have hpv := fun W hx => refPos_any f r ca pa ha fu bl p c xs hca.1 W hx
 have hnu := fun W hx => refIdxNumber_any f r ca pa ha fu bl p c xs hca hl h8 W hx
 have hofp := fun W hx => refIdxOf_any f r ca pa ha fu bl p c xs hl h8 W hx
 have hnok := numE_ok (f := f) (r := r) (xs := xs) (bl := bl) (ca := ca) (pa := pa) (ha := ha) (fu := fu)
 have hlp := fun m n e => look_pos (bs := bs) (f := f) (r := r) (xs := xs) (bl := bl) (ca := ca) (pa := pa) (ha := ha) (fu := fu) (m := m) (n := n) (e := e)
 have hl0 : pvB f r xs bl ca pa ha fu = false → lookV bs f r xs bl ca pa ha fu = (0, 2) := fun h => by unfold lookV; rw [h]; rfl
 have hl6 : pvB f r xs bl ca pa ha fu = true → outM bs = none → lookV bs f r xs bl ca pa ha fu = (0, 6) := fun h h2 => by unfold lookV; rw [h, h2]; rfl
 generalize lookV bs f r xs bl ca pa ha fu = V at *
 generalize hnE : numE f r xs bl ca pa ha fu = NE at *
 obtain ⟨nn, ne⟩ := NE
 generalize pvB f r xs bl ca pa ha fu = D at *
 generalize ofM f r xs xs.length = mo at *
 clear hnE
 simp only [] at hnu hnok
 replace hnok := Lib.hid hnok
 replace hlp := Lib.hid hlp
 replace hl0 := Lib.hid hl0
 replace hl6 := Lib.hid hl6
 have hx1 := hx.call hB
 have hb1 := hb.call hB
 have hg1 := hg.call hB
 have hm1 := hm.call hB hms
 have hc := hA.cells
 have hlc := hA.lt
 clear hx hb hg
 go_enter Tryz.func9, Tryz.ntmps9
 go_wp2_with fail
 show Calls _ _ _ (w.alloc (.cells (posCs f r p xs.length c bl ca pa ha fu).toArray 27)) _
 generalize w.alloc (.cells (posCs f r p xs.length c bl ca pa ha fu).toArray 27) = w1 at *
 refine (hpv w1 hx1).mono ?_
 rintro e w2 ⟨rfl, hb2⟩
 have hA2 := hA.call hb2
 have hB2 := below_call hB hB.size hb2
 have hx2 := hx1.call hb2
 have hbb2 := hb1.call hb2
 have hg2 := hg1.call hb2
 have hm2 := hm.call hB2 hms
 clear hA hB hx1 hb1 hg1 hpv hc hlc hb2 hm1
 rcases D with _ | _
 ·have e0 : Hid (V = (0, 2)) := Lib.hid (hl0.out rfl)
  go_wp2_with fail
  go_ret2
  exact ⟨by rw [e0.out]; rfl, hB2⟩
 ·go_wp2_with fail
  refine (refOutline_any pb cb bs w2 hbb2 hbs hlb hcb).mono ?_
  rintro e w3 ⟨hb3, hor⟩
  have hA3 := hA2.call hb3
  have hB3 := below_call hB2 hB2.size hb3
  have hx3 := hx2.call hb3
  have hbb3 := hbb2.call hb3
  have hg3 := hg2.call hb3
  clear hA2 hB2 hx2 hbb2 hg2 hb3 hm2
  rcases hM : outM bs with _ | m
  ·have e0 : Hid (V = (0, 6)) := Lib.hid (hl6.out (by simp) hM)
   obtain ⟨_, rfl⟩ : outM bs = none ∧ e = .returned (.tuple #[.agg zeroMen.cs.toArray, .slice none 0 0, .bool false]) := by
    rcases hor with h | ⟨m', v', h, _⟩
    ·exact h
    ·rw [hM] at h; cases h
   clear hM hor
   have hb4 := hB3.alloc hB3.size (.cells zeroMen.cs.toArray 41)
   have hT := HasO.new w3 (.cells zeroMen.cs.toArray 41)
   have hb5 := setRow_below (g := w3.heap.size) (cells := zeroMen.cs.toArray) hb4 hB3.size hb4.size
   go_wp2_with (first | (refine wpList_storeAgg rfl 41 (.tmp 6) (.tmp 17) rfl w3.heap.size _ rfl rfl 41 _ hT (by kernel_rfl) rfl (men_one zeroMen) ?_; rintro w' rfl) | fail)
   go_ret2
   exact ⟨by rw [e0.out]; rfl, hb5⟩
  ·have e0 : Hid (V = if ne ≠ 0 then (0, ne) else if mo ≠ m then (0, 9) else getV bs nn) := Lib.hid (hlp.out m nn ne (by simp) hM rfl)
   obtain ⟨v, rfl⟩ : ∃ v, e = .returned (.tuple #[.agg m.cs.toArray, v, .bool true]) := by
    rcases hor with ⟨h, _⟩ | ⟨m', v', h, h2, _⟩
    ·rw [hM] at h; cases h
    ·rw [hM] at h; injection h with h; subst h; exact ⟨v', h2⟩
   clear hM hlp hor
   have hT := HasO.new w3 (.cells zeroMen.cs.toArray 41)
   have hi41 : Hid ((Tryz.prog.info? 41).map (·.size) = some zeroMen.cs.toArray.size) := Lib.hid (by kernel_rfl)
   obtain ⟨w4, hw4⟩ : ∃ x, x = (w3.alloc (.cells zeroMen.cs.toArray 41)).setRow w3.heap.size m.cs.toArray := ⟨_, rfl⟩
   obtain ⟨q, hq⟩ : ∃ q, q = w3.heap.size := ⟨_, rfl⟩
   have hT4 : HasO w4 q (.cells m.cs.toArray 41 (0, 0)) := by rw [hw4, hq]; exact setRow_hasO hT
   have hb4 : Below w3.heap.size w3 w4 := by rw [hw4]; exact setRow_below (below_box _ _) (Nat.le_refl _) (by simp)
   have hA4 := hA3.call hb4
   have hB4 := below_call hB3 hB3.size hb4
   have hx4 := hx3.call hb4
   have hbb4 := hbb3.call hb4
   have hg4 := hg3.call hb4
   have hc := hA4.cells
   have hlc := hA4.lt
   have hnu4 := hnu w4 hx4
   replace hw4 := Lib.hid hw4
   clear hA3 hB3 hx3 hbb3 hg3 hb4
   go_wp2_with (first | (refine wpList_storeTo hw4 rfl 41 (.tmp 6) (.tmp 17) rfl rfl rfl 41 _ hT hi41.out rfl (men_one m) ?_) | fail)
   rw [← hq]
   clear hT hw4 hi41 hq
   refine hnu4.mono ?_
   rintro e w5 ⟨rfl, hb5⟩
   have hT5 := hT4.call hb5
   have hA5 := hA4.call hb5
   have hB5 := below_call hB4 hB4.size hb5
   have hx5 := hx4.call hb5
   have hbb5 := hbb4.call hb5
   have hg5 := hg4.call hb5
   have hc := hA5.cells
   have hlc := hA5.lt
   clear hT4 hA4 hB4 hx4 hbb4 hg4 hb5
   by_cases hne : ne = 0
   ·subst hne
    obtain ⟨_, hvb⟩ := hnok.out rfl
    replace e0 : Hid (V = if mo ≠ m then (0, 9) else getV bs nn) := Lib.hid (by rw [e0.out, if_neg (by simp)])
    go_wp2_with fail
    refine wp_region_valsL (by kernel_rfl) (by kernel_rfl) [some 30, some 31, some 32, some 33] (by rfl) (by rfl) (fun i8 => match i8 with | 0 => .agg (posCs f r p xs.length c bl ca pa ha fu).toArray | 1 => .agg mo.cs.toArray | 2 => .agg m.cs.toArray | 3 => .bool (!decide (mo = m)) | _ => undef) (fun W => Below w5.heap.size w5 W) ((Below.refl _ _).drew) ?hstep ?hend
    case hstep =>
     intro i9 o9 f9 W ho hi hC hf K hK
     have hi : i9 < 4 := hi
     rcases (by omega : i9 = 0 ∨ i9 = 1 ∨ i9 = 2 ∨ i9 = 3) with rfl | rfl | rfl | rfl
     ·exact st_loadA (og ho rfl) 27 (.tmp 3) (oo ho rfl) (rd_out rfl rfl) (posCs f r p xs.length c bl ca pa ha fu) (by kernel_rfl) (fun j v hv => by rw [Nat.zero_add, (hA5.call hC).cells j]; simpa using hv) (hK _ hC)
     ·exact st_call1 (og ho rfl) 19 (.tmp 30) #[27] (oo ho rfl) (ri 0 (hf ⟨0, .data⟩ (oa ho rfl) rfl)) (fun _ _ => rfl) (hofp W (hx5.call hC)) (by rintro u w9 ⟨h9, hb9⟩; injection h9 with h9; subst h9; exact hK _ (below_call hC hC.size hb9)) (by rintro ch w9 h9; revert h9; rintro ⟨h9, _⟩; cases h9) (by rintro w9 h9; revert h9; rintro ⟨h9, _⟩; cases h9)
     ·exact st_loadA (og ho rfl) 41 (.tmp 6) (oo ho rfl) (rd_out rfl rfl) m.cs (by kernel_rfl) (fun j v hv => by rw [Nat.zero_add, (hT5.call hC).cells j]; simpa using hv) (hK _ hC)
     ·exact st_bin (og ho rfl) .neq 41 41 (.tmp 31) (.tmp 32) (oo ho rfl) (ri 1 (hf ⟨1, .data⟩ (oa ho rfl) rfl)) (ri 2 (hf ⟨2, .data⟩ (oa ho rfl) rfl)) (men_guard .neq _ _ _ _ _) (men_neq mo m _) (hK _ hC)
    case hend =>
     intro W hC
     simp only [putL, Act.put, List.setIfInBounds_toArray, List.set_cons_succ, List.set_cons_zero]
     have hBW := below_call hB5 hB5.size hC
     have hbbW := hbb5.call hC
     clear hT5 hA5 hB5 hx5 hbb5 hg5 hc hlc hC
     by_cases hmm : mo = m
     ·replace e0 : Hid (V = getV bs nn) := Lib.hid (by rw [e0.out, if_neg (fun h => h hmm)])
      have hdd : (!decide (mo = m)) = false := by simp [hmm]
      rw [hdd]
      clear hmm hdd
      go_wp2_with fail
      refine (refGet_any pb cb bs nn W hbbW hbs hlb hcb).mono ?_
      rintro e w8 ⟨rfl, hb8⟩
      go_wp2_with fail
      go_ret2
      exact ⟨by rw [e0.out]; rfl, below_call hBW hBW.size hb8⟩
     ·replace e0 : Hid (V = (0, 9)) := Lib.hid (by rw [e0.out, if_pos hmm])
      have hdd : (!decide (mo = m)) = true := by simp [hmm]
      rw [hdd]
      clear hmm hdd
      go_wp2_with fail
      go_ret2
      exact ⟨by rw [e0.out]; rfl, hBW⟩
   ·replace e0 : Hid (V = (0, ne)) := Lib.hid (by rw [e0.out, if_pos hne])
    go_wp2_with fail
    go_ret2
    exact ⟨by rw [e0.out]; rfl, hB5⟩
end Go.Proofs.YtddkhnnpeonbgaaGreatDoor
