import Derived.Test.YtddkhnnpeonbgaaGreatDoorH18
namespace Go.Proofs.YtddkhnnpeonbgaaGreatDoor
open Go.RowKit

def widsL (bs : List Int) (n : Nat) : Nat → List Int | 0 => [] | k + 1 => widsL bs n k ++ [(widB bs n k : Int)]
theorem Tryz.info3 : (Tryz.prog.info? 3).map (fun i => (i.zero, i.size, i.bytes)) = some (some (.int .i64 0), 1, 8) := by kernel_rfl
def WidR (w : World) (bs : List Int) (e : Ending) (w' : World) : Prop :=
 Below w.heap.size w w' ∧ ∃ v, e = .returned (.tuple #[v, .int .i64 (outV bs).2.2]) ∧ (outM bs = none → v = .slice none 0 0) ∧ ∀ m, outM bs = some m → w'.ownsRow w.heap.size 3 1 v (nBlk (countN m)) ((widsL bs (countN m) (nBlk (countN m))).map (.int .i64))
theorem outM_fact {bs : List Int} {m : Men} (h : outM bs = some m) : validB m = true ∧ 0 < countN m ∧ countN m ≤ 262144 ∧ bodyOk bs (countN m) = true ∧ headM bs = some m := by
 unfold outM at h
 rcases hM : headM bs with _ | m'
 ·rw [hM] at h; cases h
 ·rw [hM] at h
  simp only at h
  split at h
  ·rename_i hb
   injection h with h
   subst h
   unfold headM at hM
   split at hM
   ·cases hM
   ·split at hM
    ·cases hM
    ·split at hM
     ·cases hM
     ·rename_i m2 hp
      split at hM
      ·rename_i hn
       injection hM with hM; subst hM
       have hv := (parse_some hp).1
       exact ⟨hv, countN_pos hv, hn, hb, rfl⟩
      ·cases hM
  ·cases h

set_option maxHeartbeats 1000000 in
set_option maxRecDepth 100000 in
theorem Widths_any (p : Option Addr) (c : Nat) (bs : List Int) (w : World) (hx : Arr .u8 w p bs) (hbs : isBytes bs) (hl : bs.length ≤ 2000000) (hc : bs.length ≤ c) (hm : MaxOk w) :
  Calls Tryz.prog 15 #[.slice p bs.length c] w (WidR w bs) := by
 obtain ⟨i0, hi0, hz0, hz1, hz2⟩ := info_parts Tryz.info3
 go_enter Tryz.func15, Tryz.ntmps15
 go_wp2_with fail
 refine (pof_S p c bs _ hx hbs hl hc hm).mono ?_
 rintro e w1 ⟨hb1, vp, vn, vc, rfl, hno, hyes⟩
 generalize hV : outV bs = V at *
 obtain ⟨m0, n0, er⟩ := V
 have hT := HasO.new w1 (.cells (outCs m0 n0 (.slice vp vn vc)).toArray 65)
 have hb2 := hb1.alloc hb1.size (.cells (outCs m0 n0 (.slice vp vn vc)).toArray 65)
 have hT12 := hT.cells 13
 have hTl := hT.lt
 replace hV := Lib.hid hV
 rcases hM : outM bs with _ | m
 ·have hvn := hno hM
  subst hvn
  clear hno hyes
  have hM2 := Lib.hid hM
  clear hM
  go_wp2_with fail
  go_loopw [6, 17] (fun v i wr => v = .slice none 0 0 ∧ i = .int .i64 0 ∧ Below w.heap.size w wr) (fun _ _ _ => 0)
  case atStart => exact ⟨rfl, rfl, hb2⟩
  case round =>
   clear hT hT12 hTl hb2
   obtain ⟨rfl, rfl, hbw⟩ := hrel
   go_wp2_with fail
   go_ret2
   exact ⟨hbw, _, by first | rfl | (rw [hV.out]; rfl), fun _ => rfl, fun m h => by rw [hM2.out] at h; cases h⟩
 ·obtain ⟨g, o, rfl, hown⟩ := hyes m hM
  obtain ⟨hv, hnpos, hn, _⟩ := outM_fact hM
  have hM2 := Lib.hid hM
  clear hM hno hyes
  have hN : 0 < nBlk (countN m) := by unfold nBlk; omega
  have hNb : nBlk (countN m) ≤ 8193 := by unfold nBlk; omega
  obtain ⟨gb, cap, ev, hgb, hgl, hcap, hcells⟩ := blk_slice hown hN
  injection ev with ev1 ev2 ev3
  subst ev1; subst ev2; subst ev3
  obtain ⟨n, hn2⟩ : ∃ n, n = countN m := ⟨_, rfl⟩
  rw [← hn2] at hown hcells hN hNb hnpos hn hT hT12 hTl hb2
  rw [← hn2]
  obtain ⟨N, hN2⟩ : ∃ N, N = nBlk n := ⟨_, rfl⟩
  rw [← hN2] at hown hcells hN hNb hT hT12 hTl hb2
  rw [← hN2]
  replace hN2 := Lib.hid hN2
  replace hn2 := Lib.hid hn2
  have hNi : (N : Int) ≤ 8193 := by omega
  have hbB := below_box w1 (.cells (outCs m0 n0 (.slice (some ⟨gb, 0, none⟩) N vc)).toArray 65)
  go_wp2_with fail
  show Code.wp _ _ _ _ (w1.alloc (.cells (outCs m0 n0 (.slice (some ⟨gb, 0, none⟩) N vc)).toArray 65))
  generalize w1.alloc (.cells (outCs m0 n0 (.slice (some ⟨gb, 0, none⟩) N vc)).toArray 65) = wB at *
  have hzB := hbB.size
  clear hT hT12 hTl hown
  go_loopw [6, 17] (fun v i wr => ∃ k : Nat, k ≤ N ∧ i = .int .i64 k ∧ Below wB.heap.size wB wr ∧ wr.ownsRow wB.heap.size 3 1 v k ((widsL bs n k).map (.int .i64))) (fun _ i _ => N - (intOf i).toNat)
  case atStart => exact ⟨0, Nat.zero_le _, rfl, Below.refl _ _, World.ownsRow_nil _ _ _ _⟩
  case round =>
   obtain ⟨k, hk, rfl, hbw, hown⟩ := hrel
   by_cases hlt : k < N
   ·have hlt2 : (k : Int) < N := by omega
    obtain ⟨k0, k1, k2, k3⟩ := hcells k hlt
    have hbk := hbB.trans (hbw.mono hzB)
    have hzr := hbk.size
    have x0 := (hbk.cell (p := ⟨gb, k * 4, none⟩) hgl).trans k0
    have x1 := (hbk.cell (p := ⟨gb, k * 4 + 1, none⟩) hgl).trans k1
    have x2 := (hbk.cell (p := ⟨gb, k * 4 + 2, none⟩) hgl).trans k2
    have x3 := (hbk.cell (p := ⟨gb, k * 4 + 3, none⟩) hgl).trans k3
    have hnext : (widsL bs n (k + 1)).map (Value.int .i64) = (widsL bs n k).map (.int .i64) ++ [.int .i64 (widB bs n k)] := by simp [widsL]
    replace hnext := Lib.hid hnext
    have hbA := hbw.alloc hbw.size (.cells (blkCs (widB bs n k) (lowB bs n k) (some ⟨g, blkOff bs o c n k, none⟩) (nbB bs n k) (c - posB bs n k - 3) (manyB n k)).toArray 70)
    have hownA := hown.alloc (.cells (blkCs (widB bs n k) (lowB bs n k) (some ⟨g, blkOff bs o c n k, none⟩) (nbB bs n k) (c - posB bs n k - 3) (manyB n k)).toArray 70)
    have hzw := hbw.size
    have hgw : gb < wr.heap.size := by omega
    clear k0 k1 k2 k3 hbk hcells
    have hwA : wB.heap.size ≤ (wr.alloc (.cells (blkCs (widB bs n k) (lowB bs n k) (some ⟨g, blkOff bs o c n k, none⟩) (nbB bs n k) (c - posB bs n k - 3) (manyB n k)).toArray 70)).heap.size := by simp; omega
    go_wp2_with (at_builtin; refine wpList_push rfl (.tmp 21) (.tmp 24) 53 rfl wB.heap.size 3 i0 _ 1 8 Tryz.underlying53 hi0 hz0 hz1 hz2 rfl (by decide) _ k _ rfl hownA [_] rfl ?_ _ (by simp) rfl ?_ hwA ?_)
    ·intro u hu; simp at hu; subst hu; rfl
    ·omega
    intro v' w3 hown3 hg3 _
    have hb3 := hbA.grown hg3 hwA (fun j e => (hownA.lt j e).1)
    rw [← hnext.out] at hown3
    clear hownA hg3 hbA x0 x1 x2 x3 hown
    go_wp2_with fail
    go_roundw
    case rel => exact ⟨k + 1, by omega, by go_num, hb3, hown3⟩
    case measure => simp [intOf]; omega
   ·obtain rfl : k = N := by omega
    have hlt2 : ¬ ((k : Nat) : Int) < k := by omega
    have hfin := hb2.trans (hbw.mono hb2.size)
    have hown' := own_mono hown hb2.size
    clear hcells
    go_wp2_with fail
    go_ret2
    refine ⟨hfin, _, by first | rfl | (rw [hV.out]; rfl), (fun h => by rw [hM2.out] at h; cases h), fun m' h => ?_⟩
    rw [hM2.out] at h
    injection h with h
    subst h
    rw [← hn2.out, ← hN2.out]
    exact hown'
end Go.Proofs.YtddkhnnpeonbgaaGreatDoor
namespace Go.Proofs.YtddkhnnpeonbgaaGreatDoor
open Go.RowKit

theorem lowB_bd {bs : List Int} (h : isBytes bs) (n k : Nat) : 0 ≤ lowB bs n k ∧ lowB bs n k < 65536 := by
 have h1 := atv_bd h (posB bs n k + 1)
 have h2 := atv_bd h (posB bs n k + 2)
 unfold lowB; omega
theorem blk_facts {bs : List Int} (hbs : isBytes bs) {n k : Nat} (h : bodyOk bs n = true) (hk : k < nBlk n) : posB bs n k + 3 + nbB bs n k ≤ bs.length ∧ widB bs n k ≤ 14 := by
 have hb := hbs
 unfold bodyOk at h
 simp only [Bool.and_eq_true] at h
 have h1 := (okTo_iff bs n (nBlk n)).1 h.1 k hk
 simp only [blkOk, hdOk, Bool.and_eq_true, decide_eq_true_eq] at h1
 have h2 := posB_succ bs n k
 have h3 := atv_bd hb (posB bs n k)
 unfold nbB widB
 omega
theorem blk_bytes {W : World} {g o c n k : Nat} {bs : List Int} (hb : BytesAt W g o bs 0 bs.length) (hc : bs.length ≤ c) (hf : posB bs n k + 3 + nbB bs n k ≤ bs.length) : BytesAt W g (blkOff bs o c n k) bs (posB bs n k + 3) (nbB bs n k) := by
 intro j hj
 have e : blkOff bs o c n k = o + posB bs n k + 3 := by unfold blkOff adv; rw [if_neg (by omega)]
 rw [e]
 have := hb (posB bs n k + 3 + j) (by omega)
 rw [Nat.zero_add] at this
 rw [show o + posB bs n k + 3 + j = o + (posB bs n k + 3 + j) by omega]
 exact this
theorem blk_get {bs : List Int} {g o c n k i : Nat} (W : World) (hbs : isBytes bs) (hbody : bodyOk bs n = true) (hk : k < nBlk n) (hi : i < manyB n k) (hb : BytesAt W g o bs 0 bs.length) (hg : g < W.heap.size) (hc : bs.length ≤ c) :
  Calls Tryz.prog 23 #[.agg (blkCs (widB bs n k) (lowB bs n k) (some ⟨g, blkOff bs o c n k, none⟩) (nbB bs n k) (c - posB bs n k - 3) (manyB n k)).toArray, .int .i64 i] W fun e w' => e = .returned (.int .i16 (entB bs n k i)) ∧ Below W.heap.size W w' := by
 obtain ⟨h1, h2⟩ := blk_facts hbs hbody hk
 have h3 : (i + 1) * widB bs n k ≤ 8 * nbB bs n k := by
  have : (i + 1) * widB bs n k ≤ manyB n k * widB bs n k := Nat.mul_le_mul_right _ hi
  rw [Nat.mul_comm (manyB n k)] at this
  have e : nbB bs n k = (widB bs n k * manyB n k + 7) / 8 := rfl
  omega
 have h4 : manyB n k ≤ 32 := by unfold manyB; omega
 exact get_any (widB bs n k) (nbB bs n k) (c - posB bs n k - 3) (manyB n k) g (blkOff bs o c n k) i (lowB bs n k) bs (posB bs n k + 3) W hbs hg (blk_bytes hb hc h1) h2 h3 (by omega) (lowB_bd hbs n k)
theorem bytesAt_arr {W : World} {g o : Nat} {bs : List Int} (h : Arr .u8 W (some ⟨g, o, none⟩) bs) (h0 : 0 < bs.length) : BytesAt W g o bs 0 bs.length ∧ g < W.heap.size := by
 obtain ⟨g', o', ea, hl, hc⟩ := h.at h0
 injection ea with ea
 injection ea with ea1 ea2
 subst ea1; subst ea2
 exact ⟨fun j hj => by rw [Nat.zero_add]; exact hc j hj, hl⟩
theorem outM_len {bs : List Int} {m : Men} (h : outM bs = some m) : 0 < bs.length := by
 have := (outM_fact h).2.2.2.2
 rcases Nat.eq_zero_or_pos bs.length with h0 | h0
 ·rw [headM_nil h0] at this; cases this
 ·exact h0

def getV (bs : List Int) (n : Int) : Int × Int := match outM bs with
 | none => (0, 6)
 | some m => if n < 0 ∨ (countN m : Int) ≤ n then (0, 3) else (entB bs (countN m) (n.toNat / 32) (n.toNat % 32), 0)

set_option maxHeartbeats 1000000 in
set_option maxRecDepth 100000 in
theorem Get_any (p : Option Addr) (c : Nat) (bs : List Int) (n : Int) (w : World) (hx : Arr .u8 w p bs) (hbs : isBytes bs) (hl : bs.length ≤ 2000000) (hc : bs.length ≤ c) (hm : MaxOk w) :
  Calls Tryz.prog 6 #[.slice p bs.length c, .int .i64 n] w fun e w' => e = .returned (.tuple #[.int .i16 (getV bs n).1, .int .i64 (getV bs n).2]) ∧ Below w.heap.size w w' := by
 go_enter Tryz.func6, Tryz.ntmps6
 go_wp2_with fail
 refine (pof_S p c bs _ hx hbs hl hc hm).mono ?_
 rintro e w1 ⟨hb1, vp, vn, vc, rfl, hno, hyes⟩
 rcases hM : outM bs with _ | m
 ·have hV : outV bs = (zeroMen, 0, 6) := by unfold outV; rw [hM]
  have hG : Hid (getV bs n = (0, 6)) := Lib.hid (by unfold getV; rw [hM])
  rw [hV]
  have hb2 := hb1.alloc hb1.size (.cells (outCs zeroMen 0 (.slice vp vn vc)).toArray 65)
  clear hno hyes hM hV
  go_wp2_with fail
  go_ret2
  exact ⟨by rw [hG.out]; rfl, hb2⟩
 ·have hV : outV bs = (m, (countN m : Int), 0) := by unfold outV; rw [hM]
  have hG : getV bs n = if n < 0 ∨ (countN m : Int) ≤ n then (0, 3) else (entB bs (countN m) (n.toNat / 32) (n.toNat % 32), 0) := by unfold getV; rw [hM]
  obtain ⟨g, o, rfl, hown⟩ := hyes m hM
  obtain ⟨hv, hnpos, hn, hbody, _⟩ := outM_fact hM
  have hlen := outM_len hM
  rw [hV]
  simp only []
  have hT := HasO.new w1 (.cells (outCs m (countN m) (.slice vp vn vc)).toArray 65)
  have hb2 := hb1.alloc hb1.size (.cells (outCs m (countN m) (.slice vp vn vc)).toArray 65)
  clear hno hyes hM hV
  have hbody := Lib.hid hbody
  by_cases hr : n < 0 ∨ (countN m : Int) ≤ n
  ·rw [if_pos hr] at hG
   replace hG := Lib.hid hG
   by_cases h0 : n < 0
   ·clear hr hT hown
    go_wp2_with fail
    go_ret2
    exact ⟨by rw [hG.out]; rfl, hb2⟩
   ·have h1 : (countN m : Int) ≤ n := by rcases hr with h | h; exact absurd h h0; exact h
    have hT12 := hT.cells 12
    have hTl := hT.lt
    clear hr hT hown
    go_wp2_with fail
    go_ret2
    exact ⟨by rw [hG.out]; rfl, hb2⟩
  ·rw [if_neg hr] at hG
   have h0 : ¬ n < 0 := fun h => hr (.inl h)
   have h1 : ¬ (countN m : Int) ≤ n := fun h => hr (.inr h)
   obtain ⟨i, rfl⟩ := Int.eq_ofNat_of_zero_le (by omega : 0 ≤ n)
   rw [Int.toNat_natCast] at hG
   replace hG := Lib.hid hG
   have hN : 0 < nBlk (countN m) := by unfold nBlk; omega
   have hk : i / 32 < nBlk (countN m) := by unfold nBlk; omega
   have hi : i % 32 < manyB (countN m) (i / 32) := by unfold manyB; omega
   have hNb : nBlk (countN m) ≤ 8193 := by unfold nBlk; omega
   obtain ⟨gb, cap, ev, hgb, hgl, hcap, hcells⟩ := blk_slice hown hN
   injection ev with ev1 ev2 ev3
   subst ev1; subst ev2; subst ev3
   have hbB := below_box w1 (.cells (outCs m (countN m) (.slice (some ⟨gb, 0, none⟩) (nBlk (countN m)) vc)).toArray 65)
   obtain ⟨k0, k1, k2, k3⟩ := hcells _ hk
   have hk2 : (i : Int) / 32 < nBlk (countN m) := by omega
   have hT12 := hT.cells 12
   have hT13 := hT.cells 13
   have hTl := hT.lt
   obtain ⟨hby, hgw⟩ := bytesAt_arr (hx.call hb2) hlen
   have hib : (i : Int) ≤ 262144 := by omega
   have hgl0 : 0 ≤ (i : Int) % 32 := by omega
   clear hr hT hown hcells
   go_wp2_with fail
   show Calls _ 23 _ (w1.alloc (.cells (outCs m (countN m) (.slice (some ⟨gb, 0, none⟩) (nBlk (countN m)) vc)).toArray 65)) _
   rw [show ((i : Int) % 32) = ((i % 32 : Nat) : Int) from rfl]
   refine (blk_get _ hbs hbody.out hk hi hby hgw hc).mono ?_
   rintro e w3 ⟨rfl, hb3⟩
   have hb4 := below_call hb2 hb2.size hb3
   go_wp2_with fail
   go_ret2
   exact ⟨by rw [hG.out]; rfl, hb4⟩

theorem gets_any (p : Option Addr) (c : Nat) (bs : List Int) (n want : Int) (w : World) (hx : Arr .u8 w p bs) (hbs : isBytes bs) (hl : bs.length ≤ 2000000) (hc : bs.length ≤ c) (hm : MaxOk w) :
  Calls Tryz.prog 16 #[.slice p bs.length c, .int .i64 n, .int .i16 want] w fun e w' => e = .returned (.bool (decide (getV bs n = (want, 0)))) ∧ Below w.heap.size w w' := by
 go_enter Tryz.func16, Tryz.ntmps16
 go_wp2_with fail
 refine (Get_any p c bs n _ hx hbs hl hc hm).mono ?_
 rintro e w1 ⟨rfl, hb⟩
 obtain ⟨a, ha⟩ : ∃ x, x = (getV bs n).1 := ⟨_, rfl⟩
 obtain ⟨f, hf⟩ : ∃ x, x = (getV bs n).2 := ⟨_, rfl⟩
 rw [← ha, ← hf]
 have hG : Hid (getV bs n = (a, f)) := Lib.hid (by rw [ha, hf])
 clear ha hf
 by_cases h1 : a = want
 ·subst h1
  by_cases h2 : f = 0
  ·subst h2
   go_wp2_with fail
   go_ret
   exact ⟨ret_bool (by rw [hG.out]; simp), hb⟩
  ·have h3 : (f == 0) = false := by simp [h2]
   go_wp2_with fail
   go_ret
   exact ⟨ret_bool (by rw [hG.out]; simp [h2]), hb⟩
 ·have h3 : (a == want) = false := by simp [h1]
  go_wp2_with fail
  go_ret
  exact ⟨ret_bool (by rw [hG.out]; simp [h1]), hb⟩
end Go.Proofs.YtddkhnnpeonbgaaGreatDoor
namespace Go.Proofs.YtddkhnnpeonbgaaGreatDoor
open Go.RowKit

theorem Tryz.info56 : (Tryz.prog.info? 30).map (fun i => (i.zero, i.size, i.bytes)) = some (some (.int .i16 0), 1, 2) := by kernel_rfl
abbrev tabV (m : Men) (v : Value) : List Value := m.cs ++ [v]
def unpC (wB : World) (qt qb : Nat) (m : Men) (blk : List Value) (W : World) : Prop :=
 Below qt wB W ∧ HasO W qb (.cells blk.toArray 70 (0, 0)) ∧ ∃ u, HasO W qt (.cells (tabV m u).toArray 44 (0, 0))
def unpR (wB : World) (qt qb : Nat) (m : Men) (blk : List Value) (vals : Nat → Value) (v : Value) (L : Nat) (es : List Int) (x : Int) (S : Nat → Bool) (f : Nat → Value) (W : World) : Prop :=
 unpC wB qt qb m blk W ∧ (∀ i, i < 8 → i ≠ 5 → i ≠ 6 → S i = true → f i = vals i) ∧ (S 6 = false → W.ownsRow qt 30 1 v L (es.map (.int .i16)) ∧ HasO W qt (.cells (tabV m v).toArray 44 (0, 0))) ∧
 (S 5 = true → S 6 = false → ∃ q, f 5 = .slice (some ⟨q, 0, none⟩) 1 1 ∧ W.cell? ⟨q, 0, none⟩ = some (.int .i16 x)) ∧
 (S 6 = true → W.ownsRow qt 30 1 (f 6) (L + 1) ((es ++ [x]).map (.int .i16))) ∧ (S 8 = true → HasO W qt (.cells (tabV m (f 6)).toArray 44 (0, 0)))
theorem unpR_congr {wB : World} {qt qb : Nat} {m : Men} {blk : List Value} {vals : Nat → Value} {v : Value} {L : Nat} {es : List Int} {x : Int} (S S' : Nat → Bool) (f : Nat → Value) (W : World) (h : ∀ i, i < 9 → S i = S' i) (hR : unpR wB qt qb m blk vals v L es x S f W) :
  unpR wB qt qb m blk vals v L es x S' f W := by
 unfold unpR at hR ⊢
 simp only [← h 5 (by omega), ← h 6 (by omega), ← h 8 (by omega)]
 exact ⟨hR.1, fun i hi h5 h6 hS => hR.2.1 i hi h5 h6 (by rw [h i (by omega)]; exact hS), hR.2.2⟩
theorem unpC_below {wB : World} {qt qb : Nat} {m : Men} {blk : List Value} {W W' : World} (h : unpC wB qt qb m blk W) (hb : Below W.heap.size W W') (hq : qt ≤ W.heap.size) : unpC wB qt qb m blk W' := by
 obtain ⟨h1, h2, u, h3⟩ := h
 exact ⟨below_call h1 hq hb, h2.call hb, u, h3.call hb⟩
theorem unpR_step {wB : World} {qt qb : Nat} {m : Men} {blk : List Value} {vals : Nat → Value} {v : Value} {L : Nat} {es : List Int} {x : Int} {S : Nat → Bool} {f : Nat → Value} {W W' : World} (hR : unpR wB qt qb m blk vals v L es x S f W) (i : Nat) (hi : i ≠ 5 ∧ i ≠ 6 ∧ i ≠ 8) (hb : Below W.heap.size W W') :
  unpR wB qt qb m blk vals v L es x (upd S i) (fun j => if j = i then vals i else f j) W' := by
 obtain ⟨hC, h1, h2, h3, h4, h5⟩ := hR
 have hq : qt ≤ W.heap.size := Nat.le_of_lt (hC.2.2.choose_spec).lt
 have e5 : upd S i 5 = S 5 := by unfold upd; rw [if_neg (fun e => hi.1 e.symm)]
 have e6 : upd S i 6 = S 6 := by unfold upd; rw [if_neg (fun e => hi.2.1 e.symm)]
 have e8 : upd S i 8 = S 8 := by unfold upd; rw [if_neg (fun e => hi.2.2 e.symm)]
 unfold unpR
 have n5 : ¬ (5 : Nat) = i := fun e => hi.1 e.symm
 have n6 : ¬ (6 : Nat) = i := fun e => hi.2.1 e.symm
 simp only [n5, n6, if_false]
 rw [e5, e6, e8]
 refine ⟨unpC_below hC hb hq, fun j hj hj5 hj6 hS => ?_, fun h => ⟨own_call (h2 h).1 hb, (h2 h).2.call hb⟩, fun ha hc => ?_, fun h => own_call (h4 h) hb, fun h => (h5 h).call hb⟩
 ·by_cases e : j = i
  ·subst e; simp
  ·simp only [e, if_false]
   exact h1 j hj hj5 hj6 (by simpa [upd, e] using hS)
 ·obtain ⟨q, e1, e2⟩ := h3 ha hc
  exact ⟨q, e1, by rw [hb.cell (p := ⟨q, 0, none⟩) (block_lt_of_cell e2)]; exact e2⟩
theorem unpR_5 {wB : World} {qt qb : Nat} {m : Men} {blk : List Value} {vals : Nat → Value} {v : Value} {L : Nat} {es : List Int} {x : Int} {S : Nat → Bool} {f : Nat → Value} {W : World} (hR : unpR wB qt qb m blk vals v L es x S f W) :
  unpR wB qt qb m blk vals v L es x (upd S 5) (fun j => if j = 5 then .slice (some ⟨W.heap.size, 0, none⟩) 1 1 else f j) (W.alloc (.cells #[.int .i16 x] 30)) := by
 have hb := below_box W (.cells #[.int .i16 x] 30)
 obtain ⟨hC, h1, h2, h3, h4, h5⟩ := hR
 have hq : qt ≤ W.heap.size := Nat.le_of_lt (hC.2.2.choose_spec).lt
 have e6 : upd S 5 6 = S 6 := rfl
 have e8 : upd S 5 8 = S 8 := rfl
 unfold unpR
 rw [e6, e8]
 refine ⟨unpC_below hC hb hq, fun j hj hj5 hj6 hS => ?_, fun h => ⟨own_call (h2 h).1 hb, (h2 h).2.call hb⟩, fun _ _ => ⟨W.heap.size, rfl, ?_⟩, fun h => own_call (h4 h) hb, fun h => (h5 h).call hb⟩
 ·simp only [hj5, if_false]
  exact h1 j hj hj5 hj6 (by simpa [upd, hj5] using hS)
 ·exact (HasO.new W (.cells #[.int .i16 x] 30)).cells 0
theorem unpR_6 {wB : World} {qt qb : Nat} {m : Men} {blk : List Value} {vals : Nat → Value} {v v' : Value} {L : Nat} {es : List Int} {x : Int} {S : Nat → Bool} {f : Nat → Value} {W W' : World} (hR : unpR wB qt qb m blk vals v L es x S f W) (h6 : S 6 = false) (h8 : S 8 = false)
  (hown : W'.ownsRow qt 30 1 v' (L + 1) ((es ++ [x]).map (.int .i16))) (hg : W.grownBy W' v.ownBlock) :
  unpR wB qt qb m blk vals v L es x (upd S 6) (fun j => if j = 6 then v' else f j) W' := by
 obtain ⟨hC, h1, h2, h3, h4, h5⟩ := hR
 obtain ⟨c1, c2, u, c3⟩ := hC
 have hq : qt ≤ W.heap.size := Nat.le_of_lt c3.lt
 have e8 : upd S 6 8 = false := h8
 have e6 : upd S 6 6 = true := by simp [upd]
 have hv := (h2 h6).1
 unfold unpR
 rw [e6, e8]
 refine ⟨⟨c1.grown hg hq (fun k e => (hv.lt k e).1), c2.grown hg (own_ne hv c2 (by simp)), u, c3.grown hg (own_ne hv c3 (by simp))⟩, fun j hj hj5 hj6 hS => ?_, (fun h => by cases h), (fun _ h => by cases h), fun _ => hown, (fun h => by cases h)⟩
 simp only [hj6, if_false]
 exact h1 j hj hj5 hj6 (by simpa [upd, hj6] using hS)
theorem tabV_set (m : Men) (u v : Value) : (tabV m u).toArray.setIfInBounds 12 v = (tabV m v).toArray := rfl
theorem unpR_8 {wB : World} {qt qb : Nat} {m : Men} {blk : List Value} {vals : Nat → Value} {v : Value} {L : Nat} {es : List Int} {x : Int} {S : Nat → Bool} {f : Nat → Value} {W : World} {d : Value} (hR : unpR wB qt qb m blk vals v L es x S f W) (h6 : S 6 = true) (hqb : qb ≠ qt) :
  unpR wB qt qb m blk vals v L es x (upd S 8) (fun j => if j = 8 then d else f j) (W.setCell ⟨qt, 12, none⟩ (f 6)) := by
 obtain ⟨hC, h1, h2, h3, h4, h5⟩ := hR
 obtain ⟨c1, c2, u, c3⟩ := hC
 have hq : qt ≤ W.heap.size := Nat.le_of_lt c3.lt
 have e6 : upd S 8 6 = true := h6
 have hA : Alt qt (qt + 1) W (W.setCell ⟨qt, 12, none⟩ (f 6)) := Alt.setCell (by simp)
 have hT : HasO (W.setCell ⟨qt, 12, none⟩ (f 6)) qt (.cells (tabV m (f 6)).toArray 44 (0, 0)) := by
  have := c3.set_ 12 (f 6)
  rw [tabV_set] at this; exact this
 unfold unpR
 rw [e6]
 have hne := own_ne (h4 h6) c3 (by simp)
 refine ⟨⟨c1.setCell (by simp) _, hA.hasO c2 (by omega), _, hT⟩, fun j hj hj5 hj6 hS => ?_, (fun h => by cases h), (fun _ h => by cases h), fun _ => hA.own (h4 h6) (fun k e => by rcases Nat.lt_trichotomy k qt with h | h | h; exact .inl h; exact absurd (by rw [← h]; exact e) hne; exact .inr h), fun _ => hT⟩
 have : j ≠ 8 := by omega
 simp only [this, if_false]
 exact h1 j hj hj5 hj6 (by simpa [upd, this] using hS)
theorem bs27 (x : Int) (W : World) : (Instr.buildSlice 42 1 #[(0, .int .i16 x)]).run Tryz.prog W = .ok (.slice (some ⟨W.heap.size, 0, none⟩) 1 1) (W.alloc (.cells #[.int .i16 x] 30)) := by
 kernel_rfl

def UnpR (w : World) (r : Option (Men × List Int)) (er : Bool → Value) (e : Ending) (w' : World) : Prop :=
 Below w.heap.size w w' ∧ ((r = none ∧ e = .returned (.tuple #[.agg (tabCs zeroMen none 0 0).toArray, er false])) ∨
  ∃ m es p c, r = some (m, es) ∧ es.length ≤ c ∧ e = .returned (.tuple #[.agg (tabCs m p es.length c).toArray, er true]) ∧ w'.ownsRow w.heap.size 30 1 (.slice p es.length c) es.length (es.map (.int .i16)))
def tabB (bs : List Int) : Option (Men × List Int) :=
 match outM bs with
 | none => none
 | some m => if tabOk m (entsL bs (countN m) (nBlk (countN m))) = true ∧ packL m (entsL bs (countN m) (nBlk (countN m))) = bs then some (m, entsL bs (countN m) (nBlk (countN m))) else none

theorem own_arr {W : World} {base : Nat} {t : TypeId} {v : Value} {k : IntKind} {xs : List Int} (h : W.ownsRow base t 1 v xs.length (xs.map (.int k))) : ∃ p c, v = .slice p xs.length c ∧ xs.length ≤ c ∧ Arr k W p xs := by
 have h' := h
 rcases h.2 with ⟨rfl, h2⟩ | ⟨g, cap, cur, rfl, hg, hh, hc, _⟩
 ·have : xs = [] := List.eq_nil_of_length_eq_zero h2
  subst this
  exact ⟨none, 0, rfl, Nat.le_refl _, .inl rfl⟩
 ·refine ⟨_, cap, rfl, hc, .inr ⟨g, 0, rfl, (h'.lt g rfl).2, fun j hj => ?_⟩⟩
  rw [Nat.zero_add, h'.cellAt _ (by omega)]
  simp [hj]
theorem isBytes_append {a b : List Int} (ha : isBytes a) (hb : isBytes b) : isBytes (a ++ b) := fun x hx => by
 rcases List.mem_append.1 hx with h | h
 ·exact ha x h
 ·exact hb x h
theorem bytesN_bytes (n : Nat) {bs : List Int} (h : isBits bs) : isBytes (bytesN n bs) := by
 induction n generalizing bs with
 | zero => intro x hx; cases hx
 | succ n ih =>
  intro x hx
  simp only [bytesN] at hx
  rcases List.mem_cons.1 hx with rfl | hx
  ·have h1 := valL_bd (isBits_sub h (fun x hx => List.mem_of_mem_take hx) : isBits (bs.take 8))
   have h2 : (2 : Int) ^ (bs.take 8).length ≤ 2 ^ 8 := two_pow_le (by simp; omega)
   have : (2 : Int) ^ 8 = 256 := by decide
   omega
  ·exact ih (isBits_sub h (fun x hx => List.mem_of_mem_drop hx)) x hx
theorem blockL_bytes {l : List Int} (hne : l ≠ []) (h : ∀ x ∈ l, 0 ≤ x ∧ x ≤ 10002) : isBytes (blockL l) := by
 obtain ⟨b1, b2, b3, b4, b5, b6⟩ := low_bd hne h
 have hw := wid_le (n := highL l - lowL l) (by omega)
 unfold blockL
 refine isBytes_append ?_ (bytesN_bytes _ ?_)
 ·intro x hx
  simp only [List.mem_cons, List.not_mem_nil, or_false] at hx
  unfold widL at hx
  rcases hx with rfl | rfl | rfl <;> omega
 ·unfold padL
  refine isBits_append (blkBits_bits _ _ _) (fun x hx => ?_)
  have := List.eq_of_mem_replicate hx
  exact .inl this
theorem blocksL_bytes (es : List Int) (h : ∀ x ∈ es, 0 ≤ x ∧ x ≤ 10002) (k : Nat) (hk : k ≤ nBlk es.length) : isBytes (blocksL es k) := by
 induction k with
 | zero => intro x hx; cases hx
 | succ k ih =>
  simp only [blocksL]
  refine isBytes_append (ih (by omega)) (blockL_bytes ?_ (fun x hx => h x (chunkL_mem hx)))
  intro e
  have := chunkL_len es k
  rw [e] at this
  unfold nBlk at hk
  simp at this; omega
theorem packL_bytes {m : Men} {es : List Int} (h : tabOk m es = true) : isBytes (packL m es) := by
 obtain ⟨hv, _, _, _, hent⟩ := tabOk_facts h
 have ht := textL_len hv
 unfold packL
 refine isBytes_append ?_ (blocksL_bytes es hent _ (Nat.le_refl _))
 intro x hx
 unfold headL at hx
 rcases List.mem_cons.1 hx with rfl | hx
 ·omega
 ·obtain ⟨c, _, rfl⟩ := List.mem_map.1 hx
  have := c.toNat_lt
  omega
end Go.Proofs.YtddkhnnpeonbgaaGreatDoor
