import Derived.Test.YtddkhnnpeonbgaaGreatDoorH14
import Derived.Test.YtddkhnnpeonbgaaGreatDoorH16
import Derived.RegionIn
namespace Go.Proofs.YtddkhnnpeonbgaaGreatDoor
open Go.RowKit
attribute [local go_sem] Oper.semAt_some

def blkOff (bs : List Int) (o c n k : Nat) : Nat := adv (o + posB bs n k) 3 (c - posB bs n k)
def nbB (bs : List Int) (n k : Nat) : Nat := (widB bs n k * manyB n k + 7) / 8
def blkE (bs : List Int) (g o c n k : Nat) : Array Value := #[.agg (blkCs (widB bs n k) (lowB bs n k) (some ⟨g, blkOff bs o c n k, none⟩) (nbB bs n k) (c - posB bs n k - 3) (manyB n k)).toArray]
def BlkRd (q1 q2 g o a c n : Nat) (bs : List Int) (W : World) : Prop :=
 W.cell? ⟨q1, 0, none⟩ = some (.slice (some ⟨g, a, none⟩) (bs.length - headP bs) (c - headP bs)) ∧ W.cell? ⟨q2, 0, none⟩ = some (.int .i64 n) ∧ g < W.heap.size ∧ BytesAt W g o bs 0 bs.length
def RestAt (q g o c n k : Nat) (bs : List Int) (W : World) : Prop :=
 ∃ a, HasO W q (.cells #[.slice (some ⟨g, a, none⟩) (bs.length - posB bs n k) (c - posB bs n k)] 22 (0, 0)) ∧ (posB bs n k < c → a = o + posB bs n k)

theorem Alt.setNew {lo hi : Nat} {w w' : World} (h : Alt lo hi w w') {p : Addr} (hp : w.heap.size ≤ p.block) (u : Value) : Alt lo hi w (w'.setCell p u) :=
 ⟨h.os, h.tape, h.output, by simp [World.setCell]; exact h.size, fun k hk hr => (Below.heap_setCell _ _ _ _ (by omega)).trans (h.block k hk hr)⟩
theorem ownT_one {W : World} {q : Nat} {cs : Array Value} {t : TypeId} (h : HasO W q (.cells cs t (0, 0))) : OwnT (fun x => x = t) q (q + 1) W := by
 intro q' h1 h2
 obtain rfl : q' = q := by omega
 exact ⟨_, h, fun cs' t' fr e => by injection e with _ e _; exact e.symm⟩
theorem u16_or8 (x y : Int) (h0 : 0 ≤ x ∧ x < 256) (h1 : 0 ≤ y ∧ y < 256) : bits .or .u16 (x * 256) y = 256 * x + y := by
 obtain ⟨n, rfl⟩ := Int.eq_ofNat_of_zero_le h0.1
 rw [u16_or _ _ (by omega) (by omega) (by omega) (by omega)]
 have h2 : ((n : Int) * 256).toNat = n <<< 8 := by rw [Nat.shiftLeft_eq]; omega
 have h3 : y.toNat < 2 ^ 8 := by omega
 rw [h2, ← Nat.shiftLeft_add_eq_or_of_lt h3, Nat.shiftLeft_eq]
 omega
set_option maxHeartbeats 2000000 in
set_option maxRecDepth 100000 in
theorem blk_seq (q1 q2 g o a c n : Nat) (bs : List Int) (hbs : isBytes bs) (_hl : bs.length ≤ 2000000) (hc : bs.length ≤ c) (ha : headP bs < c → a = o + headP bs) (hP : headP bs ≤ bs.length) (hn : n ≤ 262144) :
  SeqF Tryz.prog 94 #[.pointer (some ⟨q1, 0, none⟩), .pointer (some ⟨q2, 0, none⟩)] (nBlk n) (blkE bs g o c n) (BlkRd q1 q2 g o a c n bs) (fun _ ch => ch = badP ∧ bodyOk bs n = false) (fun t => t = 22) (bodyOk bs n = true) := by
 intro n0 l J Jx W0 hst hstx hRd hsz hszx h0 hy
 have hJ0 := h0 W0.heap.size W0 (Below.refl _ _) (Nat.le_refl _) rfl
 obtain ⟨hr1, hr2, hg0, _⟩ := hRd _ _ _ hJ0
 have hq2l : q2 < W0.heap.size := block_lt_of_cell hr2
 have hnb : (n : Int) ≤ 262144 := by omega
 have hJ1 := h0 (W0.heap.size + 1) (W0.alloc (.cells #[.slice (some ⟨g, a, none⟩) (bs.length - headP bs) (c - headP bs)] 22)) (below_box _ _) (by omega) (by simp)
 have hq1 : RestAt W0.heap.size g o c n 0 bs (W0.alloc (.cells #[.slice (some ⟨g, a, none⟩) (bs.length - headP bs) (c - headP bs)] 22)) := ⟨a, HasO.new _ _, ha⟩
 refine callsIn_of_wp Tryz.func94 rfl trivial ?_ rfl
 simp only [Tryz.ntmps94, List.size_toArray, List.length_cons, List.length_nil, Nat.reduceAdd, Nat.reduceSub, Array.replicate_succ, Array.replicate_zero, List.push_toArray, List.append_toArray, List.nil_append, List.cons_append]
 gi_wp2_with fail
 generalize W0.alloc (.cells #[.slice (some ⟨g, a, none⟩) (bs.length - headP bs) (c - headP bs)] 22) = W1 at *
 gi_loopw [5] (fun i wr => ∃ k : Nat, k ≤ nBlk n ∧ i = .int .i64 ((n : Int) - 32 * (k : Int)) ∧ okTo bs n k = true ∧ posB bs n k ≤ bs.length ∧ RestAt W0.heap.size g o c n k bs wr ∧ J (W0.heap.size + 1) k wr) (fun i wr => (intOf i + 32).toNat)
 case atStart => exact ⟨0, by omega, by simp, rfl, hP, hq1, hJ1⟩
 case round =>
  clear hr1 hr2 hJ1 hq1
  obtain ⟨k, hk, rfl, hok, hpl, ⟨ak, hq, hak⟩, hJ⟩ := hrel
  obtain ⟨hr1, hr2, hg1, hby⟩ := hRd _ _ _ hJ
  have hszJ := hsz _ _ _ hJ
  have hnk : nBlk n = (n + 31) / 32 := rfl
  have hps := posB_succ bs n k
  replace hps := Lib.hid hps
  replace hok := Lib.hid hok
  by_cases hlt : k < nBlk n
  ·have hi1 : 0 < (n : Int) - 32 * (k : Int) := by omega
   have hkb : (k : Int) ≤ 10000 := by omega
   obtain ⟨p, hp⟩ : ∃ p, p = posB bs n k := ⟨_, rfl⟩
   rw [← hp] at hpl hq hak
   replace hnk := Lib.hid hnk
   replace hak := Lib.hid hak
   replace hp := Lib.hid hp
   by_cases h3 : p + 3 ≤ bs.length
   ·gi_wp2_with fail
    refine ⟨trivial, fun h => by simp [Fence.wide] at h, (callsIn_wide.2 (take_ok _ g ak (bs.length - p) (c - p) 3 _ hq (by omega) (by omega))).mono ?_⟩
    rintro e w2 ⟨rfl, rfl⟩
    obtain ⟨a4, ha4⟩ : ∃ x, x = adv ak 3 (c - p) := ⟨_, rfl⟩
    rw [← ha4]
    have hJ2 := hst _ _ _ (wr.setCell ⟨W0.heap.size, 0, none⟩ (.slice (some ⟨g, a4, none⟩) (bs.length - p - 3) (c - p - 3))) (by omega) hJ (Alt.setCell (by simp))
    have hq2 : HasO (wr.setCell ⟨W0.heap.size, 0, none⟩ (.slice (some ⟨g, a4, none⟩) (bs.length - p - 3) (c - p - 3))) W0.heap.size (.cells #[.slice (some ⟨g, a4, none⟩) (bs.length - p - 3) (c - p - 3)] 22 (0, 0)) := hq.set_ 0 _
    generalize wr.setCell ⟨W0.heap.size, 0, none⟩ (.slice (some ⟨g, a4, none⟩) (bs.length - p - 3) (c - p - 3)) = w2 at *
    have hby2 := (hRd _ _ _ hJ2).2.2.2
    have hgl2 := (hRd _ _ _ hJ2).2.2.1
    have hak2 : ak = o + p := hak.out (by omega)
    have hc0 : w2.cell? ⟨g, ak, none⟩ = some (.int .u8 (atv bs p)) := by rw [hak2]; have := hby2 p (by omega); rw [Nat.zero_add] at this; exact this
    have hc1 : w2.cell? ⟨g, ak + 1, none⟩ = some (.int .u8 (atv bs (p + 1))) := by rw [hak2, Nat.add_assoc]; have := hby2 (p + 1) (by omega); rw [Nat.zero_add] at this; exact this
    have hc2 : w2.cell? ⟨g, ak + 2, none⟩ = some (.int .u8 (atv bs (p + 2))) := by rw [hak2, Nat.add_assoc]; have := hby2 (p + 2) (by omega); rw [Nat.zero_add] at this; exact this
    have hb0 := atv_bd hbs p
    have hb1 := atv_bd hbs (p + 1)
    have hb2 := atv_bd hbs (p + 2)
    obtain ⟨x0, hx0⟩ : ∃ x, x = atv bs p := ⟨_, rfl⟩
    obtain ⟨x1, hx1⟩ : ∃ x, x = atv bs (p + 1) := ⟨_, rfl⟩
    obtain ⟨x2, hx2⟩ : ∃ x, x = atv bs (p + 2) := ⟨_, rfl⟩
    rw [← hx0] at hc0 hb0
    rw [← hx1] at hc1 hb1
    rw [← hx2] at hc2 hb2
    replace hx0 := Lib.hid hx0
    replace hx1 := Lib.hid hx1
    replace hx2 := Lib.hid hx2
    replace ha4 := Lib.hid ha4
    replace hak2 := Lib.hid hak2
    clear hq hJ hr1 hr2 hby hby2
    gi_wp2_with fail
    gi_region
    rw [u16_or8 _ _ hb1 hb2]
    obtain ⟨wd, hwd⟩ : ∃ wd : Nat, x0 = (wd : Int) := ⟨x0.toNat, by omega⟩
    obtain ⟨lo, hlo⟩ : ∃ lo, lo = 256 * x1 + x2 := ⟨_, rfl⟩
    obtain ⟨mn, hmn⟩ : ∃ mn, mn = manyB n k := ⟨_, rfl⟩
    have hmn2 : min ((n : Int) - 32 * (k : Int)) 32 = (mn : Int) := by rw [hmn]; unfold manyB; have := hnk.out; omega
    have hmn3 : (mn : Int) ≤ 32 := by rw [hmn]; unfold manyB; omega
    have hlo2 : lo = lowB bs n k := by rw [hlo, hx1.out, hx2.out]; unfold lowB; rw [← hp.out]
    have hwd2 : wd = widB bs n k := by unfold widB; rw [← hp.out, ← hx0.out, hwd]; rfl
    rw [hmn2, ← hlo]
    subst hwd
    have hnb1 : (wd : Int) < 256 := by omega
    clear hlo hmn2 hb0 hb1 hb2 hc0 hc1 hc2
    replace hmn := Lib.hid hmn
    replace hlo2 := Lib.hid hlo2
    replace hwd2 := Lib.hid hwd2
    have hX4 : HasO (w2.alloc (.cells #[.int .i64 wd, .int .u16 lo, .slice none 0 0, .int .i64 mn] 70)).drew w2.heap.size (.cells #[.int .i64 wd, .int .u16 lo, .slice none 0 0, .int .i64 mn] 70 (0, 0)) := HasO.new _ _
    have hq4 := (hq2.alloc (.cells #[.int .i64 wd, .int .u16 lo, .slice none 0 0, .int .i64 mn] 70)).drew
    have hzz : W0.heap.size + 1 ≤ w2.heap.size := hsz _ _ _ hJ2
    have hA4 : Alt W0.heap.size (W0.heap.size + 1) w2 (w2.alloc (.cells #[.int .i64 wd, .int .u16 lo, .slice none 0 0, .int .i64 mn] 70)).drew := (Alt.alloc _).trans (Alt.drewN 1)
    have hJ4 := hst _ _ _ _ (by omega) hJ2 hA4
    obtain ⟨qx, hqx⟩ : ∃ x, x = w2.heap.size := ⟨_, rfl⟩
    rw [← hqx]
    rw [← hqx] at hX4 hzz
    generalize (w2.alloc (.cells #[.int .i64 wd, .int .u16 lo, .slice none 0 0, .int .i64 mn] 70)).drew = w4 at *
    clear hq2 hgl2
    replace hqx := Lib.hid hqx
    have x0c := hX4.cells 0
    have x3c := hX4.cells 3
    have x2c := hX4.cells 2
    have hXf := hX4.frozen
    have hXl := hX4.lt
    by_cases h14 : wd ≤ 14
    ·have h14' : (wd : Int) ≤ 14 := by omega
     gi_wp2_with fail
     refine ⟨trivial, fun h => by simp [Fence.wide] at h, (callsIn_wide.2 (must_ok _)).mono ?_⟩
     rintro e w5 ⟨rfl, rfl⟩
     have hwm : wd * mn ≤ 14 * 32 := Nat.mul_le_mul h14 (by omega)
     obtain ⟨nb, hnbd⟩ : ∃ nb : Nat, nb = (wd * mn + 7) / 8 := ⟨_, rfl⟩
     have hnb2 : ((wd : Int) * mn + 7) / 8 = (nb : Int) := by rw [hnbd]; rfl
     replace hnbd := Lib.hid hnbd
     by_cases hbt : nb ≤ bs.length - p - 3
     ·gi_wp2_with fail
      refine ⟨trivial, fun h => by simp [Fence.wide] at h, (callsIn_wide.2 (take_ok _ g a4 (bs.length - p - 3) (c - p - 3) nb _ hq4 hbt (by omega))).mono ?_⟩
      rintro e w5 ⟨rfl, rfl⟩
      obtain ⟨a6, ha6⟩ : ∃ x, x = adv a4 nb (c - p - 3) := ⟨_, rfl⟩
      rw [← ha6]
      replace ha6 := Lib.hid ha6
      have hJ6 := hst _ _ _ (w4.setCell ⟨W0.heap.size, 0, none⟩ (.slice (some ⟨g, a6, none⟩) (bs.length - p - 3 - nb) (c - p - 3 - nb))) (by omega) hJ4 (Alt.setCell (by simp))
      have hA6 : Alt W0.heap.size (W0.heap.size + 1) w2 (w4.setCell ⟨W0.heap.size, 0, none⟩ (.slice (some ⟨g, a6, none⟩) (bs.length - p - 3 - nb) (c - p - 3 - nb))) := hA4.trans (Alt.setCell (by simp))
      have hq6 : HasO (w4.setCell ⟨W0.heap.size, 0, none⟩ (.slice (some ⟨g, a6, none⟩) (bs.length - p - 3 - nb) (c - p - 3 - nb))) W0.heap.size (.cells #[.slice (some ⟨g, a6, none⟩) (bs.length - p - 3 - nb) (c - p - 3 - nb)] 22 (0, 0)) := hq4.set_ 0 _
      have hX6 := hX4.far (p := ⟨W0.heap.size, 0, none⟩) (by simp; omega) (.slice (some ⟨g, a6, none⟩) (bs.length - p - 3 - nb) (c - p - 3 - nb))
      generalize w4.setCell ⟨W0.heap.size, 0, none⟩ (.slice (some ⟨g, a6, none⟩) (bs.length - p - 3 - nb) (c - p - 3 - nb)) = w6 at *
      clear hJ4 hA4 hq4 hX4 x0c x3c x2c hXf hXl
      have x0c := hX6.cells 0
      have x1c := hX6.cells 1
      have x2c := hX6.cells 2
      have x3c := hX6.cells 3
      have hXf := hX6.frozen
      have hXl := hX6.lt
      have hX7 : HasO _ qx (.cells #[.int .i64 wd, .int .u16 lo, .slice (some ⟨g, a4, none⟩) nb (c - p - 3), .int .i64 mn] 70 (0, 0)) := hX6.set_ 2 (.slice (some ⟨g, a4, none⟩) nb (c - p - 3))
      have hq7 := hq6.far (p := ⟨qx, 2, none⟩) (by simp; omega) (.slice (some ⟨g, a4, none⟩) nb (c - p - 3))
      have hA7 := hA6.setNew (p := ⟨qx, 2, none⟩) (by rw [hqx.out]; exact Nat.le_refl _) (.slice (some ⟨g, a4, none⟩) nb (c - p - 3))
      have hJ7 := hst _ _ _ _ (by omega) hJ2 hA7
      have hce : blkE bs g o c n k = #[.agg (blkCs wd lo (some ⟨g, a4, none⟩) nb (c - p - 3) mn).toArray] := by
       unfold blkE nbB blkOff
       rw [← hwd2.out, ← hlo2.out, ← hmn.out, ← hp.out, ← hak2.out, ← ha4.out, ← hnbd.out]
      obtain ⟨fn, tmps, assign, body, hy1, hR⟩ := hy (W0.heap.size + 1) k _ (by omega) hlt hJ7 (ownT_one hq7)
      rw [hce] at hy1
      have hpn : posB bs n (k + 1) = p + 3 + nb := by
       rw [hps.out, ← hp.out]
       have h1 := hwd2.out
       unfold widB at h1
       rw [← hp.out] at h1
       rw [← h1, ← hmn.out, ← hnbd.out]
      have hokn : okTo bs n (k + 1) = true := by
       simp only [okTo, hok.out, Bool.true_and]
       unfold blkOk hdOk
       rw [hpn, ← hp.out, ← hx0.out]
       simp; omega
      have ha7 : p + 3 + nb < c → a6 = o + (p + 3 + nb) := by
       intro h
       rw [ha6.out, ha4.out, hak2.out]
       unfold adv
       rw [if_neg (by omega), if_neg (by omega)]; omega
      replace hpn := Lib.hid hpn
      replace hokn := Lib.hid hokn
      replace ha7 := Lib.hid ha7
      clear hce hJ7 hA7 hJ6 hA6 hq6
      gi_wp2_with fail
      refine ⟨fun h => by simp [Fence.wide] at h, (roundIn_any hR).mono ?_⟩
      rintro e' W' (⟨rfl, hJ', hkeep⟩ | ⟨rfl, hJx⟩)
      ·have hq8 := hkeep _ _ (Nat.le_refl _) (by omega) hq7
       gi_wp2_with fail
       go_roundw
       case rel =>
        refine ⟨k + 1, by omega, by go_num, hokn.out, by rw [hpn.out]; omega, ⟨a6, ?_, ?_⟩, hJ'⟩
        ·rw [hpn.out, show bs.length - (p + 3 + nb) = bs.length - p - 3 - nb by omega, show c - (p + 3 + nb) = c - p - 3 - nb by omega]; exact hq8
        ·rw [hpn.out]; exact ha7.out
       case measure => simp [intOf]; omega
      ·gi_wp2_with fail
       refine bodyPost_ret (results_none rfl _ _ _) rfl ?_
       exact ⟨W0.heap.size + 1, by omega, .inl ⟨⟨_, rfl⟩, .inr ⟨k, hlt, hJx⟩⟩⟩
     ·have hbad : bodyOk bs n = false := by
       unfold bodyOk
       rw [okTo_false hlt (by
        unfold blkOk
        rw [hps.out, ← hp.out]
        have h1 := hwd2.out
        unfold widB at h1
        rw [← hp.out] at h1
        rw [← h1, ← hmn.out, ← hnbd.out]
        simp; omega)]; rfl
      replace hbt := Lib.hid hbt
      replace hbad := Lib.hid hbad
      gi_wp2_with fail
      refine ⟨trivial, fun h => by simp [Fence.wide] at h, (callsIn_wide.2 (take_bad _ g a4 (bs.length - p - 3) (c - p - 3) nb _ hq4 hbt.out)).mono ?_⟩
      rintro e w5 ⟨rfl, rfl⟩
      exact ⟨rfl, W0.heap.size + 1, by omega, .inr ⟨_, k, rfl, ⟨rfl, hbad.out⟩, hJ4⟩⟩
    ·have h14' : ¬ (wd : Int) ≤ 14 := by omega
     have hbad : bodyOk bs n = false := by
      unfold bodyOk
      rw [okTo_false hlt (by unfold blkOk hdOk; rw [← hp.out, ← hx0.out]; simp; omega)]; rfl
     gi_wp2_with fail
     refine ⟨trivial, fun h => by simp [Fence.wide] at h, (callsIn_wide.2 (must_bad _)).mono ?_⟩
     rintro e w5 ⟨rfl, rfl⟩
     exact ⟨rfl, W0.heap.size + 1, by omega, .inr ⟨_, k, rfl, ⟨rfl, hbad⟩, hJ4⟩⟩
   ·have hbad : bodyOk bs n = false := by
     unfold bodyOk
     rw [okTo_false hlt (by unfold blkOk hdOk; rw [← hp.out]; simp [h3])]; rfl
    gi_wp2_with fail
    refine ⟨trivial, fun h => by simp [Fence.wide] at h, (callsIn_wide.2 (take_bad _ g ak (bs.length - p) (c - p) 3 _ hq (by omega))).mono ?_⟩
    rintro e w2 ⟨rfl, rfl⟩
    exact ⟨rfl, W0.heap.size + 1, by omega, .inr ⟨_, k, rfl, ⟨rfl, hbad⟩, hJ⟩⟩
  ·obtain rfl : k = nBlk n := by omega
   have hi1 : ¬ 0 < (n : Int) - 32 * ((nBlk n : Nat) : Int) := by omega
   have hq0 := hq.cells 0
   have hqf := hq.frozen
   have hql := hq.lt
   replace hnk := Lib.hid hnk
   replace hak := Lib.hid hak
   by_cases hend : posB bs n (nBlk n) = bs.length
   ·have hfin : bodyOk bs n = true := by unfold bodyOk; rw [hok.out, hend]; simp
    have hz : ((((bs.length - posB bs n (nBlk n) : Nat) : Int) == 0)) = true := by rw [hend]; simp
    replace hend := Lib.hid hend
    gi_wp2_with fail
    refine ⟨trivial, fun h => by simp [Fence.wide] at h, (callsIn_wide.2 (must_ok _)).mono ?_⟩
    rintro e w2 ⟨rfl, rfl⟩
    gi_wp2_with fail
    go_end0
    exact ⟨W0.heap.size + 1, by omega, .inl ⟨⟨_, rfl⟩, .inl ⟨hfin, hJ⟩⟩⟩
   ·have hfin : bodyOk bs n = false := by unfold bodyOk; simp [hend]
    have hz : ((((bs.length - posB bs n (nBlk n) : Nat) : Int) == 0)) = false := by simp; omega
    gi_wp2_with fail
    refine ⟨trivial, fun h => by simp [Fence.wide] at h, (callsIn_wide.2 (must_bad _)).mono ?_⟩
    rintro e w2 ⟨rfl, rfl⟩
    exact ⟨rfl, W0.heap.size + 1, by omega, .inr ⟨_, nBlk n, rfl, ⟨rfl, hfin⟩, hJ⟩⟩
end Go.Proofs.YtddkhnnpeonbgaaGreatDoor
namespace Go.Proofs.YtddkhnnpeonbgaaGreatDoor
open Go.RowKit

theorem wpListIn_pushS {F : Fence} {nF : Nat} {P : Program} {W : World} {ops : Array Oper} {rest : List Oper} {o : Oper} {a : Act} {Q : Exit → Act → World → Prop} (hgd : o.guard = none) (s x : Operand) (t : TypeId)
  (ho : o.op = .call { callee := .builtin .append, args := #[s, x], argTypes := #[t, t] })
  (base : Nat) (e : TypeId) (i : TypeInfo) (z : Value) (size bytes : Nat) (ht : P.underlying t = some (.slice e)) (hi : P.info? e = some i) (hz : i.zero = some z)
  (hsize : i.size = size) (hby : i.bytes = bytes) (hzs : z.cells.size = size) (hsz : 0 < size)
  (v : Value) (n : Nat) (xs : List Value) (hs : a.eval s = v) (hown : W.ownsRow base e size v n xs)
  (news : List Value) (hl : news.length = size) (h1 : ∀ u ∈ news, u.oneCell' = true) (q : Nat) (hq : q = W.heap.size) (hx : a.eval x = .slice (some ⟨q, 0, none⟩) 1 1)
  (hbytes : (n + 1) * (bytes + 1) ≤ 140737488355328) (hbase : base ≤ W.heap.size)
  (h : ∀ v' w', w'.ownsRow base e size v' (n + 1) (xs ++ news) → (W.alloc (.cells news.toArray e)).grownBy w' v.ownBlock → Near W v v' → wpListIn F nF P ops Q rest (a.put o.dst v') w') :
  wpListIn F nF P ops Q (o :: rest) a (W.alloc (.cells news.toArray e)) := by
 subst hq
 have hb1 : (n + 1) * bytes ≤ 140737488355328 := Nat.le_trans (Nat.mul_le_mul_left _ (by omega)) hbytes
 have hb2 : n + 1 ≤ maxLen := by
  have : (n + 1) * 1 ≤ (n + 1) * (bytes + 1) := Nat.mul_le_mul_left _ (by omega)
  unfold maxLen; omega
 refine Go.wpListIn_append_own_at _ hgd s x t ho base e i z size bytes ht hi hz hsize hby hzs hsz v n xs hs (hown.alloc _) ⟨W.heap.size, 0, none⟩ 1 1 news hx (by omega) ?_ h1 hb2 hb1 (by simp; omega) ?_
 ·intro j u hu
  rw [Addr.add_lit]
  have := (HasO.new W (.cells news.toArray e)).cells j
  rw [Nat.zero_add, this]
  simpa using hu
 ·intro v' w' ho' hg _ hloc
  refine h v' w' ho' hg (fun k hk => ?_)
  rcases hloc with e2 | e2
  ·rw [e2] at hk; exact .inl hk
  ·rw [e2] at hk
   injection hk with hk
   simp at hk
   right; omega
end Go.Proofs.YtddkhnnpeonbgaaGreatDoor
namespace Go.Proofs.YtddkhnnpeonbgaaGreatDoor
open Go.RowKit
attribute [local go_sem] Oper.semAt_some

def blkCells (bs : List Int) (g o c n : Nat) : Nat → List Value
 | 0 => []
 | k + 1 => blkCells bs g o c n k ++ blkCs (widB bs n k) (lowB bs n k) (some ⟨g, blkOff bs o c n k, none⟩) (nbB bs n k) (c - posB bs n k - 3) (manyB n k)
theorem Tryz.info76 : (Tryz.prog.info? 70).map (fun i => (i.zero, i.size, i.bytes)) = some (some (.agg #[.int .i64 0, .int .u16 0, .slice none 0 0, .int .i64 0]), 4, 48) := by kernel_rfl
theorem BlkRd.below {q1 q2 g o a c n : Nat} {bs : List Int} {w W : World} (h : BlkRd q1 q2 g o a c n bs w) (hb : Below w.heap.size w W) : BlkRd q1 q2 g o a c n bs W := by
 obtain ⟨h1, h2, h3, h4⟩ := h
 refine ⟨?_, ?_, Nat.lt_of_lt_of_le h3 hb.size, fun j hj => ?_⟩
 ·rw [hb.cell (p := ⟨q1, 0, none⟩) (block_lt_of_cell h1)]; exact h1
 ·rw [hb.cell (p := ⟨q2, 0, none⟩) (block_lt_of_cell h2)]; exact h2
 ·rw [hb.cell (p := ⟨g, o + j, none⟩) h3]; exact h4 j hj

def CollR (w : World) (g o c n : Nat) (bs : List Int) (e : Ending) (w' : World) : Prop :=
 Below w.heap.size w w' ∧ ((bodyOk bs n = false ∧ e = .panicked badP) ∨ (bodyOk bs n = true ∧ ∃ v, e = .returned v ∧ w'.ownsRow w.heap.size 70 4 v (nBlk n) (blkCells bs g o c n (nBlk n))))
def CollI (w : World) (q : Nat) (g o c n : Nat) (bs : List Int) (D : Nat) (cc k : Nat) (W : World) : Prop :=
 Below w.heap.size w W ∧ (∃ v, HasO W q (.cells #[v] 63 (0, 0)) ∧ W.ownsRow w.heap.size 70 4 v k (blkCells bs g o c n k) ∧ ∀ x, v.ownBlock = some x → x < D ∨ cc ≤ x) ∧ cc ≤ W.heap.size

set_option maxHeartbeats 1000000 in
set_option maxRecDepth 100000 in
theorem appendSeq_any (q1 q2 g o a c n : Nat) (bs : List Int) (w : World) (hr : BlkRd q1 q2 g o a c n bs w) (hbs : isBytes bs) (hl : bs.length ≤ 2000000) (hc : bs.length ≤ c) (ha : headP bs < c → a = o + headP bs) (hP : headP bs ≤ bs.length) (hn : n ≤ 262144) :
  Calls Tryz.prog 95 #[.slice none 0 0, .func (.func 94) #[] #[.pointer (some ⟨q1, 0, none⟩), .pointer (some ⟨q2, 0, none⟩)]] w (CollR w g o c n bs) := by
 obtain ⟨i0, hi0, hz0, hz1, hz2⟩ := info_parts Tryz.info76
 have hQ := HasO.new w (.cells #[.slice none 0 0] 63)
 have hb := below_box w (.cells #[.slice none 0 0] 63)
 refine (callsIn_wide (n := 3)).1 ?_
 refine callsIn_of_wp_marks Tryz.func95 rfl trivial ?_ rfl
 simp only [Tryz.ntmps95, List.size_toArray, List.length_cons, List.length_nil, Nat.reduceAdd, Nat.reduceSub, Array.replicate_succ, Array.replicate_zero, List.push_toArray, List.append_toArray, List.nil_append, List.cons_append]
 gi_wp2_with fail
 generalize hW1 : w.alloc (.cells #[.slice none 0 0] 63) = W1 at *
 have hz1' : W1.heap.size = w.heap.size + 1 := by rw [← hW1]; simp
 clear hW1
 replace hz1' := Lib.hid hz1'
 refine rangeFunc_lawF (gf := 94) (lb := #[.pointer (some ⟨q1, 0, none⟩), .pointer (some ⟨q2, 0, none⟩)]) rfl (enters_of Tryz.func94 (by kernel_rfl) rfl)
  (blk_seq q1 q2 g o a c n bs hbs hl hc ha hP hn) (fun _ _ => rfl)
  (fun cc k W => CollI w w.heap.size g o c n bs W1.heap.size cc k W) (fun _ _ _ _ => False) ?hst ?hstx ?hRd ?hsz ?hszx ?h0 ?hbody ?hdone ?hstop ?hpanic
 case hstx => intro _ _ _ _ _ _ h; exact h.elim
 case hszx => intro _ _ _ _ _ h; exact h.elim
 case hstop => intro _ _ _ _ _ _ h; exact h.elim
 case hsz => intro cc k W _ h; exact h.2.2
 case hRd => intro cc k W _ h; exact hr.below h.1
 case hst =>
  rintro cc k W W' hcc ⟨h1, ⟨v, h2, h3, h4⟩, h5⟩ hA
  have hz := hz1'.out
  exact ⟨hA.below h1 (by omega) h1.size, ⟨v, hA.hasO h2 (by omega), hA.own h3 h4, h4⟩, Nat.le_trans h5 hA.size⟩
 case h0 =>
  intro cc W hbW hcc hzW
  have hz := hz1'.out
  exact ⟨below_call hb (by omega) hbW, ⟨_, hQ.call hbW, World.ownsRow_nil _ _ _ _, fun x e => by simp [Value.ownBlock] at e⟩, by omega⟩
 case hbody =>
  rintro cc k W hcc hk ⟨h1, ⟨v, h2, h3, h4⟩, h5⟩ hT
  have hz := hz1'.out
  replace hz := Lib.hid hz
  unfold blkE
  gi_wp2_with fail
  refine ⟨fun q' o' _ hq => hq.alloc _, fun W2 hA hsW hrec => ?_⟩
  obtain ⟨low, hlow⟩ : ∃ x, x = lowB bs n k := ⟨_, rfl⟩
  obtain ⟨wd, hwd⟩ : ∃ x, x = widB bs n k := ⟨_, rfl⟩
  obtain ⟨bo, hbo⟩ : ∃ x, x = blkOff bs o c n k := ⟨_, rfl⟩
  obtain ⟨nb, hnb⟩ : ∃ x, x = nbB bs n k := ⟨_, rfl⟩
  obtain ⟨cp, hcp⟩ : ∃ x, x = c - posB bs n k - 3 := ⟨_, rfl⟩
  obtain ⟨mn, hmn⟩ : ∃ x, x = manyB n k := ⟨_, rfl⟩
  have hnext : blkCells bs g o c n (k + 1) = blkCells bs g o c n k ++ blkCs wd low (some ⟨g, bo, none⟩) nb cp mn := by rw [hlow, hwd, hbo, hnb, hcp, hmn]; rfl
  rw [← hlow, ← hwd, ← hbo, ← hnb, ← hcp, ← hmn] at hA hsW
  rw [← hwd, ← hbo, ← hnb, ← hcp, ← hmn]
  clear hlow hwd hbo hnb hcp hmn
  replace hnext := Lib.hid hnext
  clear hsW
  have hzW : W1.heap.size + 2 ≤ W.heap.size := Nat.le_trans hcc h5
  have hb1 := below_box W (.cells (blkCs wd low (some ⟨g, bo, none⟩) nb cp mn).toArray 70)
  have hX := hA.hasO (HasO.new W (.cells (blkCs wd low (some ⟨g, bo, none⟩) nb cp mn).toArray 70)) (by omega)
  have h1' := hA.below (below_call h1 h1.size hb1) (by have := hz.out; omega) (below_call h1 h1.size hb1).size
  have h2' := hA.hasO (h2.call hb1) (by have := hz.out; omega)
  have h3' := hA.own (own_call h3 hb1) (fun x e => by have := h4 x e; omega)
  have hs2 := hA.size
  have hs3 : W.heap.size + 1 ≤ W2.heap.size := by simpa using hs2
  clear hA hs2 hb1 h1 h2 h3
  obtain ⟨vp, vn, vc, rfl⟩ := own_slice h3'
  have q0 := h2'.cells 0
  have x0 := hX.cells 0
  have x1 := hX.cells 1
  have x2 := hX.cells 2
  have x3 := hX.cells 3
  have hlX := hX.lt
  have hlQ := h2'.lt
  have hbW2 := h1'.size
  gi_wp2_with (gi_at_builtin; refine wpListIn_pushS rfl (.tmp 8) (.tmp 10) 63 rfl w.heap.size 70 i0 _ 4 48 Tryz.underlying63 hi0 hz0 hz1 hz2 rfl (by decide) (.slice vp vn vc) k (blkCells bs g o c n k) rfl h3' (blkCs wd low (some ⟨g, bo, none⟩) nb cp mn) rfl ?_ _ rfl rfl ?_ hbW2 ?_)
  ·intro u hu; simp at hu; rcases hu with rfl | rfl | rfl | rfl <;> rfl
  ·have : nBlk n ≤ 8193 := by unfold nBlk; omega
   omega
  intro v9 w9 hown9 hg9 hnear9
  have hP0 : Put2 w.heap.size (.slice vp vn vc) W2 (W2.alloc (.cells (blkCs wd low (some ⟨g, bo, none⟩) nb cp mn).toArray 70)) := (Put2.refl _ _ _).alloc _
  have hP9 := hP0.grown (Near.refl _ _) hg9
  have hneq := own_ne h3' h2' (by simp)
  have hq9 := (h2'.alloc (.cells (blkCs wd low (some ⟨g, bo, none⟩) nb cp mn).toArray 70)).grown hg9 hneq
  have hne9 := own_ne hown9 hq9 (by simp)
  have c9 := hq9.cells 0
  have f9 := hq9.frozen
  have l9 := hq9.lt
  have hqS : HasO _ _ (.cells #[v9] 63 (0, 0)) := hq9.set_ 0 v9
  have hPS := hP9.setCell 0 v9
  have hownS : (w9.setCell ⟨w.heap.size, 0, none⟩ v9).ownsRow w.heap.size 70 4 v9 (k + 1) (blkCells bs g o c n (k + 1)) := by
   rw [hnext.out]
   refine hown9.kept (row := some w.heap.size) ⟨rfl, rfl, rfl, by simp [World.setCell], fun k hk hkq => ?_⟩ (.inr hne9)
   rw [Below.heap_setCell _ _ _ _ (fun e => hkq (by rw [e]))]
  obtain ⟨up, un, uc, rfl⟩ := own_slice hown9
  clear q0 x0 x1 x2 x3 hlX hlQ hq9 hg9 hP9 hP0 hne9 hown9
  gi_wp2_with fail
  have hz := hz.out
  have hvb : ∀ x, (Value.slice vp vn vc).ownBlock = some x → w.heap.size ≤ x := fun x e => (h3'.lt x e).1
  refine ⟨fun q' o' hq' ho' => hPS.hasO ho' (by omega) (fun e => by have := h4 q' e; omega), hPS.below h1' h1'.size (Nat.le_refl _) hvb, ⟨_, hqS, hownS, fun x e => ?_⟩, Nat.le_trans (by omega) hPS.size⟩
  rcases hnear9 x e with h7 | h7
  ·exact h4 x h7
  ·right; omega
 case hdone =>
  rintro cc W hfin hcc ⟨h1, ⟨v, h2, h3, h4⟩, h5⟩ hD
  have q0 := h2.cells 0
  have hlQ := h2.lt
  obtain ⟨vp, vn, vc, rfl⟩ := own_slice h3
  have hz := Lib.hid hz1'.out
  gi_wp2_with fail
  refine ⟨by simp, .inl ⟨_, _, rfl, run_takeDeferred hD, ?_⟩⟩
  have hz := hz.out
  refine ⟨_, results_tmp rfl _ _ _, below_putObj h1 (by omega) h1.size, .inr ⟨hfin, _, rfl, ?_⟩⟩
  have hne := own_ne h3 hD (by simp)
  refine h3.kept (row := some W1.heap.size) ⟨rfl, rfl, rfl, by simp, fun k hk hkq => ?_⟩ (.inr hne)
  exact World.putObj_heap_other (fun e => hkq (by rw [e]))
 case hpanic =>
  rintro cc k ch W hcc ⟨rfl, hbad⟩ ⟨h1, _, _⟩ hD
  have hz := hz1'.out
  refine ⟨by simp, .inl ⟨_, _, rfl, run_takeDeferred hD, ?_⟩⟩
  exact ⟨below_putObj h1 (by omega) h1.size, .inl ⟨hbad, rfl⟩⟩

theorem collect_any (q1 q2 g o a c n : Nat) (bs : List Int) (w : World) (hr : BlkRd q1 q2 g o a c n bs w) (hbs : isBytes bs) (hl : bs.length ≤ 2000000) (hc : bs.length ≤ c) (ha : headP bs < c → a = o + headP bs) (hP : headP bs ≤ bs.length) (hn : n ≤ 262144) :
  Calls Tryz.prog 51 #[.func (.func 94) #[] #[.pointer (some ⟨q1, 0, none⟩), .pointer (some ⟨q2, 0, none⟩)]] w (CollR w g o c n bs) := by
 go_enter Tryz.func51, Tryz.ntmps51
 go_wp2_with fail
 refine (appendSeq_any q1 q2 g o a c n bs w hr hbs hl hc ha hP hn).mono ?_
 rintro e w1 ⟨hb, ⟨hbad, rfl⟩ | ⟨hok, v, rfl, hown⟩⟩
 ·exact ⟨rfl, hb, .inl ⟨hbad, rfl⟩⟩
 ·obtain ⟨vp, vn, vc, rfl⟩ := own_slice hown
  replace hok := Lib.hid hok
  go_wp2_with fail
  go_ret
  exact ⟨hb, .inr ⟨hok.out, _, rfl, hown⟩⟩
end Go.Proofs.YtddkhnnpeonbgaaGreatDoor
