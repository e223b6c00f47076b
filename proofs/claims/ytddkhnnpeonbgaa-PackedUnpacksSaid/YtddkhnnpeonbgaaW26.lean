import Derived.Test.YtddkhnnpeonbgaaW24
import Derived.Test.YtddkhnnpeonbgaaK9
import Derived.RegionIn
namespace Go.Proofs.Ytddkhnnpeonbgaa
open Go.RowKit
attribute [local go_sem] Oper.semAt_some

/-- where the bits of block k lie, as its slice says it -/
def blkOff (bs : List Int) (o c n k : Nat) : Nat := adv (o + posB bs n k) 3 (c - posB bs n k)
def nbB (bs : List Int) (n k : Nat) : Nat := (widB bs n k * manyB n k + 7) / 8
def blkE (bs : List Int) (g o c n k : Nat) : Array Value := #[.agg (blkCs (widB bs n k) (lowB bs n k) (some ⟨g, blkOff bs o c n k, none⟩) (nbB bs n k) (c - posB bs n k - 3) (manyB n k)).toArray]
/-- what the iterator over the blocks reads -/
def BlkRd (q1 q2 g o a c n : Nat) (bs : List Int) (W : World) : Prop :=
  W.cell? ⟨q1, 0, none⟩ = some (.slice (some ⟨g, a, none⟩) (bs.length - headP bs) (c - headP bs)) ∧ W.cell? ⟨q2, 0, none⟩ = some (.int .i64 n) ∧ g < W.heap.size ∧ BytesAt W g o bs 0 bs.length
/-- the own block of the iterator, before block k -/
def RestAt (q g o c n k : Nat) (bs : List Int) (W : World) : Prop :=
  ∃ a, HasO W q (.cells #[.slice (some ⟨g, a, none⟩) (bs.length - posB bs n k) (c - posB bs n k)] 31 (0, 0)) ∧ (posB bs n k < c → a = o + posB bs n k)

theorem Alt.setNew {lo hi : Nat} {w w' : World} (h : Alt lo hi w w') {p : Addr} (hp : w.heap.size ≤ p.block) (u : Value) : Alt lo hi w (w'.setCell p u) :=
  ⟨h.os, h.tape, h.output, by simp [World.setCell]; exact h.size, fun k hk hr => (Below.heap_setCell _ _ _ _ (by omega)).trans (h.block k hk hr)⟩
theorem ownT_one {W : World} {q : Nat} {cs : Array Value} {t : TypeId} (h : HasO W q (.cells cs t (0, 0))) : OwnT (fun x => x = t) q (q + 1) W := by
  intro q' h1 h2
  obtain rfl : q' = q := by omega
  exact ⟨_, h, fun cs' t' fr e => by injection e with _ e _; exact e.symm⟩
theorem u16_or8 (x y : Int) (h0 : 0 ≤ x ∧ x < 256) (h1 : 0 ≤ y ∧ y < 256) : bits .or .u16 (x * 256) y = 256 * x + y := by
  obtain ⟨n, rfl⟩ := Int.eq_ofNat_of_zero_le h0.1
  rw [u16_or _ _ (by omega) (by omega) (by omega) (by omega)]
  have h2 : ((n : Int) * 256).toNat = n <<< 8 := by rw [Nat.shiftLeft_eq]; omega
  have h3 : y.toNat < 2 ^ 8 := by omega
  rw [h2, ← Nat.shiftLeft_add_eq_or_of_lt h3, Nat.shiftLeft_eq]
  omega
set_option maxHeartbeats 2000000 in
set_option maxRecDepth 100000 in
theorem blk_seq (q1 q2 g o a c n : Nat) (bs : List Int) (hbs : isBytes bs) (_hl : bs.length ≤ 2000000) (hc : bs.length ≤ c) (ha : headP bs < c → a = o + headP bs) (hP : headP bs ≤ bs.length) (hn : n ≤ 262144) :
    SeqF Try.prog 58 #[.pointer (some ⟨q1, 0, none⟩), .pointer (some ⟨q2, 0, none⟩)] (nBlk n) (blkE bs g o c n) (BlkRd q1 q2 g o a c n bs) (fun _ ch => ch = badP ∧ bodyOk bs n = false) (fun t => t = 31) (bodyOk bs n = true) := by
  intro n0 l J Jx W0 hst hstx hRd hsz hszx h0 hy
  have hJ0 := h0 W0.heap.size W0 (Below.refl _ _) (Nat.le_refl _) rfl
  obtain ⟨hr1, hr2, hg0, _⟩ := hRd _ _ _ hJ0
  have hq2l : q2 < W0.heap.size := block_lt_of_cell hr2
  have hnb : (n : Int) ≤ 262144 := by omega
  have hJ1 := h0 (W0.heap.size + 1) (W0.alloc (.cells #[.slice (some ⟨g, a, none⟩) (bs.length - headP bs) (c - headP bs)] 31)) (below_box _ _) (by omega) (by simp)
  have hq1 : RestAt W0.heap.size g o c n 0 bs (W0.alloc (.cells #[.slice (some ⟨g, a, none⟩) (bs.length - headP bs) (c - headP bs)] 31)) := ⟨a, HasO.new _ _, ha⟩
  refine callsIn_of_wp Try.func58 rfl trivial ?_ rfl
  simp only [Try.ntmps58, List.size_toArray, List.length_cons, List.length_nil, Nat.reduceAdd, Nat.reduceSub, Array.replicate_succ, Array.replicate_zero, List.push_toArray, List.append_toArray, List.nil_append, List.cons_append]
  gi_wp2_with fail
  generalize W0.alloc (.cells #[.slice (some ⟨g, a, none⟩) (bs.length - headP bs) (c - headP bs)] 31) = W1 at *
  gi_loopw [5] (fun i wr => ∃ k : Nat, k ≤ nBlk n ∧ i = .int .i64 ((n : Int) - 32 * (k : Int)) ∧ okTo bs n k = true ∧ posB bs n k ≤ bs.length ∧ RestAt W0.heap.size g o c n k bs wr ∧ J (W0.heap.size + 1) k wr) (fun i wr => (intOf i + 32).toNat)
  case atStart => exact ⟨0, by omega, by simp, rfl, hP, hq1, hJ1⟩
  case round =>
    clear hr1 hr2 hJ1 hq1
    obtain ⟨k, hk, rfl, hok, hpl, ⟨ak, hq, hak⟩, hJ⟩ := hrel
    obtain ⟨hr1, hr2, hg1, hby⟩ := hRd _ _ _ hJ
    have hszJ := hsz _ _ _ hJ
    have hnk : nBlk n = (n + 31) / 32 := rfl
    have hps := posB_succ bs n k
    replace hps := Lib.hid hps
    replace hok := Lib.hid hok
    by_cases hlt : k < nBlk n
    · have hi1 : 0 < (n : Int) - 32 * (k : Int) := by omega
      have hkb : (k : Int) ≤ 10000 := by omega
      obtain ⟨p, hp⟩ : ∃ p, p = posB bs n k := ⟨_, rfl⟩
      rw [← hp] at hpl hq hak
      replace hnk := Lib.hid hnk
      replace hak := Lib.hid hak
      replace hp := Lib.hid hp
      by_cases h3 : p + 3 ≤ bs.length
      · gi_wp2_with fail
        refine ⟨trivial, fun h => by simp [Fence.wide] at h, (callsIn_wide.2 (take_ok _ g ak (bs.length - p) (c - p) 3 _ hq (by omega) (by omega))).mono ?_⟩
        rintro e w2 ⟨rfl, rfl⟩
        obtain ⟨a4, ha4⟩ : ∃ x, x = adv ak 3 (c - p) := ⟨_, rfl⟩
        rw [← ha4]
        have hJ2 := hst _ _ _ (wr.setCell ⟨W0.heap.size, 0, none⟩ (.slice (some ⟨g, a4, none⟩) (bs.length - p - 3) (c - p - 3))) (by omega) hJ (Alt.setCell (by simp))
        have hq2 : HasO (wr.setCell ⟨W0.heap.size, 0, none⟩ (.slice (some ⟨g, a4, none⟩) (bs.length - p - 3) (c - p - 3))) W0.heap.size (.cells #[.slice (some ⟨g, a4, none⟩) (bs.length - p - 3) (c - p - 3)] 31 (0, 0)) := hq.set_ 0 _
        generalize wr.setCell ⟨W0.heap.size, 0, none⟩ (.slice (some ⟨g, a4, none⟩) (bs.length - p - 3) (c - p - 3)) = w2 at *
        have hby2 := (hRd _ _ _ hJ2).2.2.2
        have hgl2 := (hRd _ _ _ hJ2).2.2.1
        have hak2 : ak = o + p := hak.out (by omega)
        have hc0 : w2.cell? ⟨g, ak, none⟩ = some (.int .u8 (atv bs p)) := by rw [hak2]; have := hby2 p (by omega); rw [Nat.zero_add] at this; exact this
        have hc1 : w2.cell? ⟨g, ak + 1, none⟩ = some (.int .u8 (atv bs (p + 1))) := by rw [hak2, Nat.add_assoc]; have := hby2 (p + 1) (by omega); rw [Nat.zero_add] at this; exact this
        have hc2 : w2.cell? ⟨g, ak + 2, none⟩ = some (.int .u8 (atv bs (p + 2))) := by rw [hak2, Nat.add_assoc]; have := hby2 (p + 2) (by omega); rw [Nat.zero_add] at this; exact this
        have hb0 := atv_bd hbs p
        have hb1 := atv_bd hbs (p + 1)
        have hb2 := atv_bd hbs (p + 2)
        obtain ⟨x0, hx0⟩ : ∃ x, x = atv bs p := ⟨_, rfl⟩
        obtain ⟨x1, hx1⟩ : ∃ x, x = atv bs (p + 1) := ⟨_, rfl⟩
        obtain ⟨x2, hx2⟩ : ∃ x, x = atv bs (p + 2) := ⟨_, rfl⟩
        rw [← hx0] at hc0 hb0
        rw [← hx1] at hc1 hb1
        rw [← hx2] at hc2 hb2
        replace hx0 := Lib.hid hx0
        replace hx1 := Lib.hid hx1
        replace hx2 := Lib.hid hx2
        replace ha4 := Lib.hid ha4
        replace hak2 := Lib.hid hak2
        clear hq hJ hr1 hr2 hby hby2
        gi_wp2_with fail
        gi_region
        rw [u16_or8 _ _ hb1 hb2]
        obtain ⟨wd, hwd⟩ : ∃ wd : Nat, x0 = (wd : Int) := ⟨x0.toNat, by omega⟩
        obtain ⟨lo, hlo⟩ : ∃ lo, lo = 256 * x1 + x2 := ⟨_, rfl⟩
        obtain ⟨mn, hmn⟩ : ∃ mn, mn = manyB n k := ⟨_, rfl⟩
        have hmn2 : min ((n : Int) - 32 * (k : Int)) 32 = (mn : Int) := by rw [hmn]; unfold manyB; have := hnk.out; omega
        have hmn3 : (mn : Int) ≤ 32 := by rw [hmn]; unfold manyB; omega
        have hlo2 : lo = lowB bs n k := by rw [hlo, hx1.out, hx2.out]; unfold lowB; rw [← hp.out]
        have hwd2 : wd = widB bs n k := by unfold widB; rw [← hp.out, ← hx0.out, hwd]; rfl
        rw [hmn2, ← hlo]
        subst hwd
        have hnb1 : (wd : Int) < 256 := by omega
        clear hlo hmn2 hb0 hb1 hb2 hc0 hc1 hc2
        replace hmn := Lib.hid hmn
        replace hlo2 := Lib.hid hlo2
        replace hwd2 := Lib.hid hwd2
        have hX4 : HasO (w2.alloc (.cells #[.int .i64 wd, .int .u16 lo, .slice none 0 0, .int .i64 mn] 76)).drew w2.heap.size (.cells #[.int .i64 wd, .int .u16 lo, .slice none 0 0, .int .i64 mn] 76 (0, 0)) := HasO.new _ _
        have hq4 := (hq2.alloc (.cells #[.int .i64 wd, .int .u16 lo, .slice none 0 0, .int .i64 mn] 76)).drew
        have hzz : W0.heap.size + 1 ≤ w2.heap.size := hsz _ _ _ hJ2
        have hA4 : Alt W0.heap.size (W0.heap.size + 1) w2 (w2.alloc (.cells #[.int .i64 wd, .int .u16 lo, .slice none 0 0, .int .i64 mn] 76)).drew := (Alt.alloc _).trans (Alt.drewN 1)
        have hJ4 := hst _ _ _ _ (by omega) hJ2 hA4
        obtain ⟨qx, hqx⟩ : ∃ x, x = w2.heap.size := ⟨_, rfl⟩
        rw [← hqx]
        rw [← hqx] at hX4 hzz
        generalize (w2.alloc (.cells #[.int .i64 wd, .int .u16 lo, .slice none 0 0, .int .i64 mn] 76)).drew = w4 at *
        clear hq2 hgl2
        replace hqx := Lib.hid hqx
        have x0c := hX4.cells 0
        have x3c := hX4.cells 3
        have x2c := hX4.cells 2
        have hXf := hX4.frozen
        have hXl := hX4.lt
        by_cases h14 : wd ≤ 14
        · have h14' : (wd : Int) ≤ 14 := by omega
          gi_wp2_with fail
          refine ⟨trivial, fun h => by simp [Fence.wide] at h, (callsIn_wide.2 (must_ok _)).mono ?_⟩
          rintro e w5 ⟨rfl, rfl⟩
          have hwm : wd * mn ≤ 14 * 32 := Nat.mul_le_mul h14 (by omega)
          obtain ⟨nb, hnbd⟩ : ∃ nb : Nat, nb = (wd * mn + 7) / 8 := ⟨_, rfl⟩
          have hnb2 : ((wd : Int) * mn + 7) / 8 = (nb : Int) := by rw [hnbd]; rfl
          replace hnbd := Lib.hid hnbd
          by_cases hbt : nb ≤ bs.length - p - 3
          · gi_wp2_with fail
            refine ⟨trivial, fun h => by simp [Fence.wide] at h, (callsIn_wide.2 (take_ok _ g a4 (bs.length - p - 3) (c - p - 3) nb _ hq4 hbt (by omega))).mono ?_⟩
            rintro e w5 ⟨rfl, rfl⟩
            obtain ⟨a6, ha6⟩ : ∃ x, x = adv a4 nb (c - p - 3) := ⟨_, rfl⟩
            rw [← ha6]
            replace ha6 := Lib.hid ha6
            have hJ6 := hst _ _ _ (w4.setCell ⟨W0.heap.size, 0, none⟩ (.slice (some ⟨g, a6, none⟩) (bs.length - p - 3 - nb) (c - p - 3 - nb))) (by omega) hJ4 (Alt.setCell (by simp))
            have hA6 : Alt W0.heap.size (W0.heap.size + 1) w2 (w4.setCell ⟨W0.heap.size, 0, none⟩ (.slice (some ⟨g, a6, none⟩) (bs.length - p - 3 - nb) (c - p - 3 - nb))) := hA4.trans (Alt.setCell (by simp))
            have hq6 : HasO (w4.setCell ⟨W0.heap.size, 0, none⟩ (.slice (some ⟨g, a6, none⟩) (bs.length - p - 3 - nb) (c - p - 3 - nb))) W0.heap.size (.cells #[.slice (some ⟨g, a6, none⟩) (bs.length - p - 3 - nb) (c - p - 3 - nb)] 31 (0, 0)) := hq4.set_ 0 _
            have hX6 := hX4.far (p := ⟨W0.heap.size, 0, none⟩) (by simp; omega) (.slice (some ⟨g, a6, none⟩) (bs.length - p - 3 - nb) (c - p - 3 - nb))
            generalize w4.setCell ⟨W0.heap.size, 0, none⟩ (.slice (some ⟨g, a6, none⟩) (bs.length - p - 3 - nb) (c - p - 3 - nb)) = w6 at *
            clear hJ4 hA4 hq4 hX4 x0c x3c x2c hXf hXl
            have x0c := hX6.cells 0
            have x1c := hX6.cells 1
            have x2c := hX6.cells 2
            have x3c := hX6.cells 3
            have hXf := hX6.frozen
            have hXl := hX6.lt
            have hX7 : HasO _ qx (.cells #[.int .i64 wd, .int .u16 lo, .slice (some ⟨g, a4, none⟩) nb (c - p - 3), .int .i64 mn] 76 (0, 0)) := hX6.set_ 2 (.slice (some ⟨g, a4, none⟩) nb (c - p - 3))
            have hq7 := hq6.far (p := ⟨qx, 2, none⟩) (by simp; omega) (.slice (some ⟨g, a4, none⟩) nb (c - p - 3))
            have hA7 := hA6.setNew (p := ⟨qx, 2, none⟩) (by rw [hqx.out]; exact Nat.le_refl _) (.slice (some ⟨g, a4, none⟩) nb (c - p - 3))
            have hJ7 := hst _ _ _ _ (by omega) hJ2 hA7
            have hce : blkE bs g o c n k = #[.agg (blkCs wd lo (some ⟨g, a4, none⟩) nb (c - p - 3) mn).toArray] := by
              unfold blkE nbB blkOff
              rw [← hwd2.out, ← hlo2.out, ← hmn.out, ← hp.out, ← hak2.out, ← ha4.out, ← hnbd.out]
            obtain ⟨fn, tmps, assign, body, hy1, hR⟩ := hy (W0.heap.size + 1) k _ (by omega) hlt hJ7 (ownT_one hq7)
            rw [hce] at hy1
            have hpn : posB bs n (k + 1) = p + 3 + nb := by
              rw [hps.out, ← hp.out]
              have h1 := hwd2.out
              unfold widB at h1
              rw [← hp.out] at h1
              rw [← h1, ← hmn.out, ← hnbd.out]
            have hokn : okTo bs n (k + 1) = true := by
              simp only [okTo, hok.out, Bool.true_and]
              unfold blkOk hdOk
              rw [hpn, ← hp.out, ← hx0.out]
              simp; omega
            have ha7 : p + 3 + nb < c → a6 = o + (p + 3 + nb) := by
              intro h
              rw [ha6.out, ha4.out, hak2.out]
              unfold adv
              rw [if_neg (by omega), if_neg (by omega)]; omega
            replace hpn := Lib.hid hpn
            replace hokn := Lib.hid hokn
            replace ha7 := Lib.hid ha7
            clear hce hJ7 hA7 hJ6 hA6 hq6
            gi_wp2_with fail
            refine ⟨fun h => by simp [Fence.wide] at h, (roundIn_any hR).mono ?_⟩
            rintro e' W' (⟨rfl, hJ', hkeep⟩ | ⟨rfl, hJx⟩)
            · have hq8 := hkeep _ _ (Nat.le_refl _) (by omega) hq7
              gi_wp2_with fail
              go_roundw
              case rel =>
                refine ⟨k + 1, by omega, by go_num, hokn.out, by rw [hpn.out]; omega, ⟨a6, ?_, ?_⟩, hJ'⟩
                · rw [hpn.out, show bs.length - (p + 3 + nb) = bs.length - p - 3 - nb by omega, show c - (p + 3 + nb) = c - p - 3 - nb by omega]; exact hq8
                · rw [hpn.out]; exact ha7.out
              case measure => simp [intOf]; omega
            · gi_wp2_with fail
              refine bodyPost_ret (results_none rfl _ _ _) rfl ?_
              exact ⟨W0.heap.size + 1, by omega, .inl ⟨⟨_, rfl⟩, .inr ⟨k, hlt, hJx⟩⟩⟩
          · have hbad : bodyOk bs n = false := by
              unfold bodyOk
              rw [okTo_false hlt (by
                unfold blkOk
                rw [hps.out, ← hp.out]
                have h1 := hwd2.out
                unfold widB at h1
                rw [← hp.out] at h1
                rw [← h1, ← hmn.out, ← hnbd.out]
                simp; omega)]; rfl
            replace hbt := Lib.hid hbt
            replace hbad := Lib.hid hbad
            gi_wp2_with fail
            refine ⟨trivial, fun h => by simp [Fence.wide] at h, (callsIn_wide.2 (take_bad _ g a4 (bs.length - p - 3) (c - p - 3) nb _ hq4 hbt.out)).mono ?_⟩
            rintro e w5 ⟨rfl, rfl⟩
            exact ⟨rfl, W0.heap.size + 1, by omega, .inr ⟨_, k, rfl, ⟨rfl, hbad.out⟩, hJ4⟩⟩
        · have h14' : ¬ (wd : Int) ≤ 14 := by omega
          have hbad : bodyOk bs n = false := by
            unfold bodyOk
            rw [okTo_false hlt (by unfold blkOk hdOk; rw [← hp.out, ← hx0.out]; simp; omega)]; rfl
          gi_wp2_with fail
          refine ⟨trivial, fun h => by simp [Fence.wide] at h, (callsIn_wide.2 (must_bad _)).mono ?_⟩
          rintro e w5 ⟨rfl, rfl⟩
          exact ⟨rfl, W0.heap.size + 1, by omega, .inr ⟨_, k, rfl, ⟨rfl, hbad⟩, hJ4⟩⟩
      · have hbad : bodyOk bs n = false := by
          unfold bodyOk
          rw [okTo_false hlt (by unfold blkOk hdOk; rw [← hp.out]; simp [h3])]; rfl
        gi_wp2_with fail
        refine ⟨trivial, fun h => by simp [Fence.wide] at h, (callsIn_wide.2 (take_bad _ g ak (bs.length - p) (c - p) 3 _ hq (by omega))).mono ?_⟩
        rintro e w2 ⟨rfl, rfl⟩
        exact ⟨rfl, W0.heap.size + 1, by omega, .inr ⟨_, k, rfl, ⟨rfl, hbad⟩, hJ⟩⟩
    · obtain rfl : k = nBlk n := by omega
      have hi1 : ¬ 0 < (n : Int) - 32 * ((nBlk n : Nat) : Int) := by omega
      have hq0 := hq.cells 0
      have hqf := hq.frozen
      have hql := hq.lt
      replace hnk := Lib.hid hnk
      replace hak := Lib.hid hak
      by_cases hend : posB bs n (nBlk n) = bs.length
      · have hfin : bodyOk bs n = true := by unfold bodyOk; rw [hok.out, hend]; simp
        have hz : ((((bs.length - posB bs n (nBlk n) : Nat) : Int) == 0)) = true := by rw [hend]; simp
        replace hend := Lib.hid hend
        gi_wp2_with fail
        refine ⟨trivial, fun h => by simp [Fence.wide] at h, (callsIn_wide.2 (must_ok _)).mono ?_⟩
        rintro e w2 ⟨rfl, rfl⟩
        gi_wp2_with fail
        go_end0
        exact ⟨W0.heap.size + 1, by omega, .inl ⟨⟨_, rfl⟩, .inl ⟨hfin, hJ⟩⟩⟩
      · have hfin : bodyOk bs n = false := by unfold bodyOk; simp [hend]
        have hz : ((((bs.length - posB bs n (nBlk n) : Nat) : Int) == 0)) = false := by simp; omega
        gi_wp2_with fail
        refine ⟨trivial, fun h => by simp [Fence.wide] at h, (callsIn_wide.2 (must_bad _)).mono ?_⟩
        rintro e w2 ⟨rfl, rfl⟩
        exact ⟨rfl, W0.heap.size + 1, by omega, .inr ⟨_, nBlk n, rfl, ⟨rfl, hfin⟩, hJ⟩⟩
end Go.Proofs.Ytddkhnnpeonbgaa
