import Derived.Test.YtddkhnnpeonbgaaW29
namespace Go.Proofs.Ytddkhnnpeonbgaa
open Go.RowKit

def widsL (bs : List Int) (n : Nat) : Nat → List Int | 0 => [] | k + 1 => widsL bs n k ++ [(widB bs n k : Int)]
theorem widsL_len (bs : List Int) (n k : Nat) : (widsL bs n k).length = k := by induction k with | zero => rfl | succ k ih => simp [widsL, ih]
theorem widsL_get (bs : List Int) (n : Nat) {i k : Nat} (h : i < k) : (widsL bs n k)[i]? = some (widB bs n i : Int) := by
  induction k with
  | zero => omega
  | succ k ih =>
    simp only [widsL]
    by_cases e : i < k
    · rw [List.getElem?_append_left (by rw [widsL_len]; exact e)]; exact ih e
    · obtain rfl : i = k := by omega
      rw [List.getElem?_append_right (by rw [widsL_len]; exact Nat.le_refl _), widsL_len]; simp
theorem Try.info3 : (Try.prog.info? 3).map (fun i => (i.zero, i.size, i.bytes)) = some (some (.int .i64 0), 1, 8) := by kernel_rfl
/-- what Widths gives -/
def WidR (w : World) (bs : List Int) (e : Ending) (w' : World) : Prop :=
  Below w.heap.size w w' ∧ ∃ v, e = .returned (.tuple #[v, .int .i64 (outV bs).2.2]) ∧ (outM bs = none → v = .slice none 0 0) ∧ ∀ m, outM bs = some m → w'.ownsRow w.heap.size 3 1 v (nBlk (countN m)) ((widsL bs (countN m) (nBlk (countN m))).map (.int .i64))
theorem outM_fact {bs : List Int} {m : Men} (h : outM bs = some m) : validB m = true ∧ 0 < countN m ∧ countN m ≤ 262144 ∧ bodyOk bs (countN m) = true ∧ headM bs = some m := by
  unfold outM at h
  rcases hM : headM bs with _ | m'
  · rw [hM] at h; cases h
  · rw [hM] at h
    simp only at h
    split at h
    · rename_i hb
      injection h with h
      subst h
      unfold headM at hM
      split at hM
      · cases hM
      · split at hM
        · cases hM
        · split at hM
          · cases hM
          · rename_i m2 hp
            split at hM
            · rename_i hn
              injection hM with hM; subst hM
              have hv := (parse_some hp).1
              exact ⟨hv, countN_pos hv, hn, hb, rfl⟩
            · cases hM
    · cases h

set_option maxHeartbeats 1000000 in
set_option maxRecDepth 100000 in
theorem Widths_any (p : Option Addr) (c : Nat) (bs : List Int) (w : World) (hx : Arr .u8 w p bs) (hbs : isBytes bs) (hl : bs.length ≤ 2000000) (hc : bs.length ≤ c) (hm : MaxOk w) :
    Calls Try.prog 16 #[.slice p bs.length c] w (WidR w bs) := by
  obtain ⟨i0, hi0, hz0, hz1, hz2⟩ := info_parts Try.info3
  go_enter Try.func16, Try.ntmps16
  go_wp2_with fail
  refine (pof_S p c bs _ hx hbs hl hc hm).mono ?_
  rintro e w1 ⟨hb1, vp, vn, vc, rfl, hno, hyes⟩
  generalize hV : outV bs = V at *
  obtain ⟨m0, n0, er⟩ := V
  have hT := HasO.new w1 (.cells (outCs m0 n0 (.slice vp vn vc)).toArray 71)
  have hb2 := hb1.alloc hb1.size (.cells (outCs m0 n0 (.slice vp vn vc)).toArray 71)
  have hT12 := hT.cells 13
  have hTl := hT.lt
  replace hV := Lib.hid hV
  rcases hM : outM bs with _ | m
  · have hvn := hno hM
    subst hvn
    clear hno hyes
    have hM2 := Lib.hid hM
    clear hM
    go_wp2_with fail
    go_loopw [6, 17] (fun v i wr => v = .slice none 0 0 ∧ i = .int .i64 0 ∧ Below w.heap.size w wr) (fun _ _ _ => 0)
    case atStart => exact ⟨rfl, rfl, hb2⟩
    case round =>
      clear hT hT12 hTl hb2
      obtain ⟨rfl, rfl, hbw⟩ := hrel
      go_wp2_with fail
      go_ret2
      exact ⟨hbw, _, by first | rfl | (rw [hV.out]; rfl), fun _ => rfl, fun m h => by rw [hM2.out] at h; cases h⟩
  · obtain ⟨g, o, rfl, hown⟩ := hyes m hM
    obtain ⟨hv, hnpos, hn, _⟩ := outM_fact hM
    have hM2 := Lib.hid hM
    clear hM hno hyes
    have hN : 0 < nBlk (countN m) := by unfold nBlk; omega
    have hNb : nBlk (countN m) ≤ 8193 := by unfold nBlk; omega
    obtain ⟨gb, cap, ev, hgb, hgl, hcap, hcells⟩ := blk_slice hown hN
    injection ev with ev1 ev2 ev3
    subst ev1; subst ev2; subst ev3
    obtain ⟨n, hn2⟩ : ∃ n, n = countN m := ⟨_, rfl⟩
    rw [← hn2] at hown hcells hN hNb hnpos hn hT hT12 hTl hb2
    rw [← hn2]
    obtain ⟨N, hN2⟩ : ∃ N, N = nBlk n := ⟨_, rfl⟩
    rw [← hN2] at hown hcells hN hNb hT hT12 hTl hb2
    rw [← hN2]
    replace hN2 := Lib.hid hN2
    replace hn2 := Lib.hid hn2
    have hNi : (N : Int) ≤ 8193 := by omega
    have hbB := below_box w1 (.cells (outCs m0 n0 (.slice (some ⟨gb, 0, none⟩) N vc)).toArray 71)
    go_wp2_with fail
    show Code.wp _ _ _ _ (w1.alloc (.cells (outCs m0 n0 (.slice (some ⟨gb, 0, none⟩) N vc)).toArray 71))
    generalize w1.alloc (.cells (outCs m0 n0 (.slice (some ⟨gb, 0, none⟩) N vc)).toArray 71) = wB at *
    have hzB := hbB.size
    clear hT hT12 hTl hown
    go_loopw [6, 17] (fun v i wr => ∃ k : Nat, k ≤ N ∧ i = .int .i64 k ∧ Below wB.heap.size wB wr ∧ wr.ownsRow wB.heap.size 3 1 v k ((widsL bs n k).map (.int .i64))) (fun _ i _ => N - (intOf i).toNat)
    case atStart => exact ⟨0, Nat.zero_le _, rfl, Below.refl _ _, World.ownsRow_nil _ _ _ _⟩
    case round =>
      obtain ⟨k, hk, rfl, hbw, hown⟩ := hrel
      by_cases hlt : k < N
      · have hlt2 : (k : Int) < N := by omega
        obtain ⟨k0, k1, k2, k3⟩ := hcells k hlt
        have hbk := hbB.trans (hbw.mono hzB)
        have hzr := hbk.size
        have x0 := (hbk.cell (p := ⟨gb, k * 4, none⟩) hgl).trans k0
        have x1 := (hbk.cell (p := ⟨gb, k * 4 + 1, none⟩) hgl).trans k1
        have x2 := (hbk.cell (p := ⟨gb, k * 4 + 2, none⟩) hgl).trans k2
        have x3 := (hbk.cell (p := ⟨gb, k * 4 + 3, none⟩) hgl).trans k3
        have hnext : (widsL bs n (k + 1)).map (Value.int .i64) = (widsL bs n k).map (.int .i64) ++ [.int .i64 (widB bs n k)] := by simp [widsL]
        replace hnext := Lib.hid hnext
        have hbA := hbw.alloc hbw.size (.cells (blkCs (widB bs n k) (lowB bs n k) (some ⟨g, blkOff bs o c n k, none⟩) (nbB bs n k) (c - posB bs n k - 3) (manyB n k)).toArray 76)
        have hownA := hown.alloc (.cells (blkCs (widB bs n k) (lowB bs n k) (some ⟨g, blkOff bs o c n k, none⟩) (nbB bs n k) (c - posB bs n k - 3) (manyB n k)).toArray 76)
        have hzw := hbw.size
        have hgw : gb < wr.heap.size := by omega
        clear k0 k1 k2 k3 hbk hcells
        have hwA : wB.heap.size ≤ (wr.alloc (.cells (blkCs (widB bs n k) (lowB bs n k) (some ⟨g, blkOff bs o c n k, none⟩) (nbB bs n k) (c - posB bs n k - 3) (manyB n k)).toArray 76)).heap.size := by simp; omega
        go_wp2_with (at_builtin; refine wpList_push rfl (.tmp 21) (.tmp 24) 49 rfl wB.heap.size 3 i0 _ 1 8 Try.underlying49 hi0 hz0 hz1 hz2 rfl (by decide) _ k _ rfl hownA [_] rfl ?_ _ (by simp) rfl ?_ hwA ?_)
        · intro u hu; simp at hu; subst hu; rfl
        · omega
        intro v' w3 hown3 hg3 _
        have hb3 := hbA.grown hg3 hwA (fun j e => (hownA.lt j e).1)
        rw [← hnext.out] at hown3
        clear hownA hg3 hbA x0 x1 x2 x3 hown
        go_wp2_with fail
        go_roundw
        case rel => exact ⟨k + 1, by omega, by go_num, hb3, hown3⟩
        case measure => simp [intOf]; omega
      · obtain rfl : k = N := by omega
        have hlt2 : ¬ ((k : Nat) : Int) < k := by omega
        have hfin := hb2.trans (hbw.mono hb2.size)
        have hown' := own_mono hown hb2.size
        clear hcells
        go_wp2_with fail
        go_ret2
        refine ⟨hfin, _, by first | rfl | (rw [hV.out]; rfl), (fun h => by rw [hM2.out] at h; cases h), fun m' h => ?_⟩
        rw [hM2.out] at h
        injection h with h
        subst h
        rw [← hn2.out, ← hN2.out]
        exact hown'
end Go.Proofs.Ytddkhnnpeonbgaa
namespace Go.Proofs.Ytddkhnnpeonbgaa
open Go.RowKit

theorem lowB_bd {bs : List Int} (h : isBytes bs) (n k : Nat) : 0 ≤ lowB bs n k ∧ lowB bs n k < 65536 := by
  have h1 := atv_bd h (posB bs n k + 1)
  have h2 := atv_bd h (posB bs n k + 2)
  unfold lowB; omega
theorem blk_facts {bs : List Int} (hbs : isBytes bs) {n k : Nat} (h : bodyOk bs n = true) (hk : k < nBlk n) : posB bs n k + 3 + nbB bs n k ≤ bs.length ∧ widB bs n k ≤ 14 := by
  have hb := hbs
  unfold bodyOk at h
  simp only [Bool.and_eq_true] at h
  have h1 := (okTo_iff bs n (nBlk n)).1 h.1 k hk
  simp only [blkOk, hdOk, Bool.and_eq_true, decide_eq_true_eq] at h1
  have h2 := posB_succ bs n k
  have h3 := atv_bd hb (posB bs n k)
  unfold nbB widB
  omega
theorem blk_bytes {W : World} {g o c n k : Nat} {bs : List Int} (hb : BytesAt W g o bs 0 bs.length) (hc : bs.length ≤ c) (hf : posB bs n k + 3 + nbB bs n k ≤ bs.length) : BytesAt W g (blkOff bs o c n k) bs (posB bs n k + 3) (nbB bs n k) := by
  intro j hj
  have e : blkOff bs o c n k = o + posB bs n k + 3 := by unfold blkOff adv; rw [if_neg (by omega)]
  rw [e]
  have := hb (posB bs n k + 3 + j) (by omega)
  rw [Nat.zero_add] at this
  rw [show o + posB bs n k + 3 + j = o + (posB bs n k + 3 + j) by omega]
  exact this
theorem blk_get {bs : List Int} {g o c n k i : Nat} (W : World) (hbs : isBytes bs) (hbody : bodyOk bs n = true) (hk : k < nBlk n) (hi : i < manyB n k) (hb : BytesAt W g o bs 0 bs.length) (hg : g < W.heap.size) (hc : bs.length ≤ c) :
    Calls Try.prog 29 #[.agg (blkCs (widB bs n k) (lowB bs n k) (some ⟨g, blkOff bs o c n k, none⟩) (nbB bs n k) (c - posB bs n k - 3) (manyB n k)).toArray, .int .i64 i] W fun e w' => e = .returned (.int .i16 (entB bs n k i)) ∧ Below W.heap.size W w' := by
  obtain ⟨h1, h2⟩ := blk_facts hbs hbody hk
  have h3 : (i + 1) * widB bs n k ≤ 8 * nbB bs n k := by
    have : (i + 1) * widB bs n k ≤ manyB n k * widB bs n k := Nat.mul_le_mul_right _ hi
    rw [Nat.mul_comm (manyB n k)] at this
    have e : nbB bs n k = (widB bs n k * manyB n k + 7) / 8 := rfl
    omega
  have h4 : manyB n k ≤ 32 := by unfold manyB; omega
  exact get_any (widB bs n k) (nbB bs n k) (c - posB bs n k - 3) (manyB n k) g (blkOff bs o c n k) i (lowB bs n k) bs (posB bs n k + 3) W hbs hg (blk_bytes hb hc h1) h2 h3 (by omega) (lowB_bd hbs n k)
theorem bytesAt_arr {W : World} {g o : Nat} {bs : List Int} (h : Arr .u8 W (some ⟨g, o, none⟩) bs) (h0 : 0 < bs.length) : BytesAt W g o bs 0 bs.length ∧ g < W.heap.size := by
  obtain ⟨g', o', ea, hl, hc⟩ := h.at h0
  injection ea with ea
  injection ea with ea1 ea2
  subst ea1; subst ea2
  exact ⟨fun j hj => by rw [Nat.zero_add]; exact hc j hj, hl⟩
theorem outM_len {bs : List Int} {m : Men} (h : outM bs = some m) : 0 < bs.length := by
  have := (outM_fact h).2.2.2.2
  rcases Nat.eq_zero_or_pos bs.length with h0 | h0
  · rw [headM_nil h0] at this; cases this
  · exact h0

/-- what Get gives -/
def getV (bs : List Int) (n : Int) : Int × Int := match outM bs with
  | none => (0, 6)
  | some m => if n < 0 ∨ (countN m : Int) ≤ n then (0, 3) else (entB bs (countN m) (n.toNat / 32) (n.toNat % 32), 0)

set_option maxHeartbeats 1000000 in
set_option maxRecDepth 100000 in
theorem Get_any (p : Option Addr) (c : Nat) (bs : List Int) (n : Int) (w : World) (hx : Arr .u8 w p bs) (hbs : isBytes bs) (hl : bs.length ≤ 2000000) (hc : bs.length ≤ c) (hm : MaxOk w) :
    Calls Try.prog 19 #[.slice p bs.length c, .int .i64 n] w fun e w' => e = .returned (.tuple #[.int .i16 (getV bs n).1, .int .i64 (getV bs n).2]) ∧ Below w.heap.size w w' := by
  go_enter Try.func19, Try.ntmps19
  go_wp2_with fail
  refine (pof_S p c bs _ hx hbs hl hc hm).mono ?_
  rintro e w1 ⟨hb1, vp, vn, vc, rfl, hno, hyes⟩
  rcases hM : outM bs with _ | m
  · have hV : outV bs = (zeroMen, 0, 6) := by unfold outV; rw [hM]
    have hG : Hid (getV bs n = (0, 6)) := Lib.hid (by unfold getV; rw [hM])
    rw [hV]
    have hb2 := hb1.alloc hb1.size (.cells (outCs zeroMen 0 (.slice vp vn vc)).toArray 71)
    clear hno hyes hM hV
    go_wp2_with fail
    go_ret2
    exact ⟨by rw [hG.out]; rfl, hb2⟩
  · have hV : outV bs = (m, (countN m : Int), 0) := by unfold outV; rw [hM]
    have hG : getV bs n = if n < 0 ∨ (countN m : Int) ≤ n then (0, 3) else (entB bs (countN m) (n.toNat / 32) (n.toNat % 32), 0) := by unfold getV; rw [hM]
    obtain ⟨g, o, rfl, hown⟩ := hyes m hM
    obtain ⟨hv, hnpos, hn, hbody, _⟩ := outM_fact hM
    have hlen := outM_len hM
    rw [hV]
    simp only []
    have hT := HasO.new w1 (.cells (outCs m (countN m) (.slice vp vn vc)).toArray 71)
    have hb2 := hb1.alloc hb1.size (.cells (outCs m (countN m) (.slice vp vn vc)).toArray 71)
    clear hno hyes hM hV
    have hbody := Lib.hid hbody
    by_cases hr : n < 0 ∨ (countN m : Int) ≤ n
    · rw [if_pos hr] at hG
      replace hG := Lib.hid hG
      by_cases h0 : n < 0
      · clear hr hT hown
        go_wp2_with fail
        go_ret2
        exact ⟨by rw [hG.out]; rfl, hb2⟩
      · have h1 : (countN m : Int) ≤ n := by rcases hr with h | h; exact absurd h h0; exact h
        have hT12 := hT.cells 12
        have hTl := hT.lt
        clear hr hT hown
        go_wp2_with fail
        go_ret2
        exact ⟨by rw [hG.out]; rfl, hb2⟩
    · rw [if_neg hr] at hG
      have h0 : ¬ n < 0 := fun h => hr (.inl h)
      have h1 : ¬ (countN m : Int) ≤ n := fun h => hr (.inr h)
      obtain ⟨i, rfl⟩ := Int.eq_ofNat_of_zero_le (by omega : 0 ≤ n)
      rw [Int.toNat_natCast] at hG
      replace hG := Lib.hid hG
      have hN : 0 < nBlk (countN m) := by unfold nBlk; omega
      have hk : i / 32 < nBlk (countN m) := by unfold nBlk; omega
      have hi : i % 32 < manyB (countN m) (i / 32) := by unfold manyB; omega
      have hNb : nBlk (countN m) ≤ 8193 := by unfold nBlk; omega
      obtain ⟨gb, cap, ev, hgb, hgl, hcap, hcells⟩ := blk_slice hown hN
      injection ev with ev1 ev2 ev3
      subst ev1; subst ev2; subst ev3
      have hbB := below_box w1 (.cells (outCs m (countN m) (.slice (some ⟨gb, 0, none⟩) (nBlk (countN m)) vc)).toArray 71)
      obtain ⟨k0, k1, k2, k3⟩ := hcells _ hk
      have hk2 : (i : Int) / 32 < nBlk (countN m) := by omega
      have hT12 := hT.cells 12
      have hT13 := hT.cells 13
      have hTl := hT.lt
      obtain ⟨hby, hgw⟩ := bytesAt_arr (hx.call hb2) hlen
      have hib : (i : Int) ≤ 262144 := by omega
      have hgl0 : 0 ≤ (i : Int) % 32 := by omega
      clear hr hT hown hcells
      go_wp2_with fail
      show Calls _ 29 _ (w1.alloc (.cells (outCs m (countN m) (.slice (some ⟨gb, 0, none⟩) (nBlk (countN m)) vc)).toArray 71)) _
      rw [show ((i : Int) % 32) = ((i % 32 : Nat) : Int) from rfl]
      refine (blk_get _ hbs hbody.out hk hi hby hgw hc).mono ?_
      rintro e w3 ⟨rfl, hb3⟩
      have hb4 := below_call hb2 hb2.size hb3
      go_wp2_with fail
      go_ret2
      exact ⟨by rw [hG.out]; rfl, hb4⟩

theorem gets_any (p : Option Addr) (c : Nat) (bs : List Int) (n want : Int) (w : World) (hx : Arr .u8 w p bs) (hbs : isBytes bs) (hl : bs.length ≤ 2000000) (hc : bs.length ≤ c) (hm : MaxOk w) :
    Calls Try.prog 18 #[.slice p bs.length c, .int .i64 n, .int .i16 want] w fun e w' => e = .returned (.bool (decide (getV bs n = (want, 0)))) ∧ Below w.heap.size w w' := by
  go_enter Try.func18, Try.ntmps18
  go_wp2_with fail
  refine (Get_any p c bs n _ hx hbs hl hc hm).mono ?_
  rintro e w1 ⟨rfl, hb⟩
  obtain ⟨a, ha⟩ : ∃ x, x = (getV bs n).1 := ⟨_, rfl⟩
  obtain ⟨f, hf⟩ : ∃ x, x = (getV bs n).2 := ⟨_, rfl⟩
  rw [← ha, ← hf]
  have hG : Hid (getV bs n = (a, f)) := Lib.hid (by rw [ha, hf])
  clear ha hf
  by_cases h1 : a = want
  · subst h1
    by_cases h2 : f = 0
    · subst h2
      go_wp2_with fail
      go_ret
      exact ⟨ret_bool (by rw [hG.out]; simp), hb⟩
    · have h3 : (f == 0) = false := by simp [h2]
      go_wp2_with fail
      go_ret
      exact ⟨ret_bool (by rw [hG.out]; simp [h2]), hb⟩
  · have h3 : (a == want) = false := by simp [h1]
    go_wp2_with fail
    go_ret
    exact ⟨ret_bool (by rw [hG.out]; simp [h1]), hb⟩
end Go.Proofs.Ytddkhnnpeonbgaa
