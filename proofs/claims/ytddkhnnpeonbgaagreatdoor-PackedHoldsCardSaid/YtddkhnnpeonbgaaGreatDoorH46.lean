import Derived.Test.YtddkhnnpeonbgaaGreatDoorH19
import Derived.Test.YtddkhnnpeonbgaaGreatDoorH20
import Derived.Test.YtddkhnnpeonbgaaGreatDoorH42
import Derived.Test.YtddkhnnpeonbgaaGreatDoorH45
import Derived.BigRegion
namespace Go.Proofs.YtddkhnnpeonbgaaGreatDoor
open Go.RowKit

def rblkCells (bs : List Int) (n : Nat) : Nat → List Value
 | 0 => []
 | k + 1 => rblkCells bs n k ++ rblkCs (widB bs n k) (lowB bs n k) (posB bs n k + 3) (manyB n k)
theorem Tryz.info53 : (Tryz.prog.info? 78).map (fun i => (i.zero, i.size, i.bytes)) = some (some (.agg #[.int .i64 0, .int .i64 0, .int .i64 0, .int .i64 0]), 4, 32) := by kernel_rfl
def OutlR (w : World) (bs : List Int) (e : Ending) (w' : World) : Prop :=
 Below w.heap.size w w' ∧ ((outM bs = none ∧ e = .returned (.tuple #[.agg zeroMen.cs.toArray, .slice none 0 0, .bool false])) ∨
  ∃ m v, outM bs = some m ∧ e = .returned (.tuple #[.agg m.cs.toArray, v, .bool true]) ∧ w'.ownsRow w.heap.size 78 4 v (nBlk (countN m)) (rblkCells bs (countN m) (nBlk (countN m))))
theorem headM_bad {bs : List Int} {tx : List UInt8} (h0 : ¬ bs.length = 0) (h1 : ¬ bs.length < 1 + (atv bs 0).toNat) (ht : tx = toU ((bs.drop 1).take (atv bs 0).toNat)) : headM bs = match parseC tx with | none => none | some m => if countN m ≤ 262144 then some m else none := by
 unfold headM
 rw [if_neg h0, if_neg h1, ht]; rfl
set_option maxHeartbeats 4000000 in
set_option maxRecDepth 100000 in
theorem refOutline_wide (p : Option Addr) (c : Nat) (bs : List Int) (w : World) (hx : Arr .u8 w p bs) (hbs : isBytes bs) (hl : bs.length ≤ 9223372036854775807) (hc : bs.length ≤ c) :
  Calls Tryz.prog 24 #[.slice p bs.length c] w (OutlR w bs) := by
 obtain ⟨i0, hi0, hz0, hz1, hz2⟩ := info_parts Tryz.info53
 have hA : HasO (w.alloc (.cells zeroMen.cs.toArray 41)) w.heap.size (.cells zeroMen.cs.toArray 41 (0, 0)) := HasO.new _ _
 have hb := below_box w (.cells zeroMen.cs.toArray 41)
 have hi26 : Hid ((Tryz.prog.info? 41).map (·.size) = some zeroMen.cs.toArray.size) := Lib.hid (by kernel_rfl)
 have hone : Hid (zeroMen.cs.toArray.all (·.oneCell') = true) := Lib.hid (by kernel_rfl)
 by_cases h0 : bs.length = 0
 ·have hM := outM_none (headM_nil h0)
  rw [h0]
  replace h0 := Lib.hid h0
  replace hM := Lib.hid hM
  go_enter Tryz.func24, Tryz.ntmps24
  go_wp2_with (refine wpList_storeAgg rfl 41 (.tmp 2) (.tmp 24) rfl w.heap.size zeroMen.cs.toArray rfl rfl 41 _ hA hi26.out rfl hone.out ?_)
  refine bodyPost_ret (results_ctt2 (fn := Tryz.f24) Tryz.results24 rfl (setRow_hasO hA) (by kernel_rfl) rfl rfl) rfl ?_
  exact ⟨setRow_below hb (Nat.le_refl _) hb.size, .inl ⟨hM.out, rfl⟩⟩
 ·obtain ⟨g, o, rfl, hgl, _⟩ := hx.at (i := 0) (by omega)
  obtain ⟨L, hL⟩ : ∃ L : Nat, atv bs 0 = (L : Int) := ⟨(atv bs 0).toNat, by have := atv_bd hbs 0; omega⟩
  have hLb : (L : Int) < 256 := by have := atv_bd hbs 0; omega
  have hLt : (atv bs 0).toNat = L := by omega
  have hP : headP bs = 1 + L := by unfold headP; rw [hLt]
  have h00 : ((bs.length : Int) == 0) = false := by rw [beq_eq_false_iff_ne]; omega
  have hbyW := bytesAt_arr hx (by omega)
  have hc0 : w.cell? ⟨g, o, none⟩ = some (.int .u8 (L : Int)) := by rw [← hL]; have := hbyW.1 0 (by omega); rw [Nat.zero_add] at this; exact this
  replace hL := Lib.hid hL
  replace hP := Lib.hid hP
  have hlen1 : 0 < (bs.length : Int) := by omega
  by_cases h1 : bs.length < 1 + L
  ·have hM : outM bs = none := outM_none (by unfold headM; rw [if_neg h0, if_pos (by rw [hLt]; exact h1)])
   have h1' : (bs.length : Int) < 1 + L := by omega
   replace hM := Lib.hid hM
   replace hLt := Lib.hid hLt
   go_enter Tryz.func24, Tryz.ntmps24
   go_wp2_with (refine wpList_storeAgg rfl 41 (.tmp 2) (.tmp 24) rfl w.heap.size zeroMen.cs.toArray rfl rfl 41 _ hA hi26.out rfl hone.out ?_)
   refine bodyPost_ret (results_ctt2 (fn := Tryz.f24) Tryz.results24 rfl (setRow_hasO hA) (by kernel_rfl) rfl rfl) rfl ?_
   exact ⟨setRow_below hb (Nat.le_refl _) hb.size, .inl ⟨hM.out, rfl⟩⟩
  ·have h1' : ¬ (bs.length : Int) < 1 + L := by omega
   have h1c : (1 : Int) + L ≤ c := by omega
   have hcv : ∀ ad cp, (0 < L → ad = o + 1) → (convert 22 9 (.slice (some ⟨g, ad, none⟩) L cp)).run Tryz.prog (w.alloc (.cells zeroMen.cs.toArray 41)) = .ok (.string (str (toU ((bs.drop 1).take L)))) (w.alloc (.cells zeroMen.cs.toArray 41)) := by
    intro ad cp had
    have hxl : ((bs.drop 1).take L).length = L := by simp; omega
    refine conv_at _ (fun j hj => ?_) hxl.symm
    rw [hxl] at hj
    have := hbyW.1 (1 + j) (by omega)
    rw [had (by omega), Nat.add_assoc, hb.cell (p := ⟨g, o + (1 + j), none⟩) hgl]
    rw [Nat.zero_add] at this
    rw [this, List.getElem?_take_of_lt hj, List.getElem?_drop]; rfl
   have hM : headM bs = match parseC (toU ((bs.drop 1).take L)) with | none => none | some m => if countN m ≤ 262144 then some m else none := headM_bad h0 (by rw [hLt]; exact h1) (by rw [hLt])
   by_cases hc1 : c = 1
   ·have hL0 : L = 0 := by omega
    subst hL0
    have hpc : parseC [] = none := parse_len (.inl (by simp))
    have hM2 : outM bs = none := outM_none (by rw [hM]; simp [toU, hpc])
    have htx : toU ((bs.drop 1).take 0) = [] := by simp [toU]
    have hcv2 : (convert 22 9 (.slice (some ⟨g, o, none⟩) 0 0)).run Tryz.prog (w.alloc (.cells #[.int .i64 0, .int .i64 0, .int .i64 0, .int .i64 0, .int .i64 0, .int .i64 0, .int .i64 0, .int .i64 0, .int .i64 0, .int .i64 0, .int .i64 0, .int .i64 0] 41)) = .ok (.string (str [])) (w.alloc (.cells #[.int .i64 0, .int .i64 0, .int .i64 0, .int .i64 0, .int .i64 0, .int .i64 0, .int .i64 0, .int .i64 0, .int .i64 0, .int .i64 0, .int .i64 0, .int .i64 0] 41)) := by
     have := hcv o 0 (by omega)
     rw [htx] at this
     exact this
    have hpv : parseR [] = .tuple #[.agg zeroMen.cs.toArray, .bool false] := by unfold parseR; rw [hpc]
    subst hc1
    replace hM2 := Lib.hid hM2
    replace hpv := Lib.hid hpv
    replace hLt := Lib.hid hLt
    clear hM htx hcv hpc
    go_enter Tryz.func24, Tryz.ntmps24
    go_wp2_with fail
    show Calls _ 48 _ (w.alloc (.cells zeroMen.cs.toArray 41)) _
    refine (refParse_any [] _ (by simp)).mono ?_
    rintro e w1 ⟨rfl, hb1⟩
    have hA1 := hA.call hb1
    have hb2 := below_call hb (by simp) hb1
    clear hcv2
    rw [hpv.out]
    have hA2 := hA1.alloc (.cells zeroMen.cs.toArray 41)
    have hb3 := hb2.alloc hb2.size (.cells zeroMen.cs.toArray 41)
    have hl2 := hA1.lt
    go_wp2_with (refine wpList_storeAgg rfl 41 (.tmp 2) (.tmp 44) rfl w.heap.size zeroMen.cs.toArray rfl rfl 41 _ hA2 hi26.out rfl hone.out ?_)
    refine bodyPost_ret (results_ctt2 (fn := Tryz.f24) Tryz.results24 rfl (setRow_hasO hA2) (by kernel_rfl) rfl rfl) rfl ?_
    exact ⟨setRow_below hb3 (Nat.le_refl _) hb3.size, .inl ⟨hM2.out, rfl⟩⟩
   ·have hcv2 : (convert 22 9 (.slice (some ⟨g, o + 1, none⟩) L (c - 1))).run Tryz.prog (w.alloc (.cells #[.int .i64 0, .int .i64 0, .int .i64 0, .int .i64 0, .int .i64 0, .int .i64 0, .int .i64 0, .int .i64 0, .int .i64 0, .int .i64 0, .int .i64 0, .int .i64 0] 41)) = .ok (.string (str (toU ((bs.drop 1).take L)))) (w.alloc (.cells #[.int .i64 0, .int .i64 0, .int .i64 0, .int .i64 0, .int .i64 0, .int .i64 0, .int .i64 0, .int .i64 0, .int .i64 0, .int .i64 0, .int .i64 0, .int .i64 0] 41)) := hcv (o + 1) (c - 1) (fun _ => rfl)
    have htl : (toU ((bs.drop 1).take L)).length ≤ 2000000 := by unfold toU; simp; omega
    generalize toU ((bs.drop 1).take L) = tx at *
    clear hcv
    replace hM := Lib.hid hM
    replace hLt := Lib.hid hLt
    go_enter Tryz.func24, Tryz.ntmps24
    go_wp2_with fail
    show Calls _ 48 _ (w.alloc (.cells zeroMen.cs.toArray 41)) _
    refine (refParse_any tx _ htl).mono ?_
    rintro e w1 ⟨rfl, hb1⟩
    have hA1 := hA.call hb1
    have hb2 := below_call hb (by simp) hb1
    have hx1 := hx.call hb2
    clear hcv2
    rcases hpc : parseC tx with _ | m
    ·have hM2 := Lib.hid (outM_none (show headM bs = none by rw [hM.out, hpc]))
     have hpv : parseR tx = .tuple #[.agg zeroMen.cs.toArray, .bool false] := by unfold parseR; rw [hpc]
     rw [hpv]
     replace hpv := Lib.hid hpv
     replace hpc := Lib.hid hpc
     have hA2 := hA1.alloc (.cells zeroMen.cs.toArray 41)
     have hb3 := hb2.alloc hb2.size (.cells zeroMen.cs.toArray 41)
     have hl2 := hA1.lt
     go_wp2_with (refine wpList_storeAgg rfl 41 (.tmp 2) (.tmp 44) rfl w.heap.size zeroMen.cs.toArray rfl rfl 41 _ hA2 hi26.out rfl hone.out ?_)
     refine bodyPost_ret (results_ctt2 (fn := Tryz.f24) Tryz.results24 rfl (setRow_hasO hA2) (by kernel_rfl) rfl rfl) rfl ?_
     exact ⟨setRow_below hb3 (Nat.le_refl _) hb3.size, .inl ⟨hM2.out, rfl⟩⟩
    ·have hv := Lib.hid (parse_some hpc).1
     have hpv : parseR tx = .tuple #[.agg m.cs.toArray, .bool true] := by unfold parseR; rw [hpc]
     rw [hpv]
     replace hpv := Lib.hid hpv
     replace hpc := Lib.hid hpc
     have hA2 := hA1.alloc (.cells m.cs.toArray 41)
     have hm2 := HasO.new w1 (.cells m.cs.toArray 41)
     have hb3 := hb2.alloc hb2.size (.cells m.cs.toArray 41)
     have hx2 := hx1.call (below_box w1 (.cells m.cs.toArray 41))
     have hl2 := hA1.lt
     go_wp2_with fail
     show Calls _ 25 #[.agg m.cs.toArray] (w1.alloc (.cells m.cs.toArray 41)) _
     obtain ⟨qm, hqm⟩ : ∃ x, x = w1.heap.size := ⟨_, rfl⟩
     rw [← hqm]
     rw [← hqm] at hm2 hl2
     generalize w1.alloc (.cells m.cs.toArray 41) = w2 at *
     clear hqm hA1 hb1 hb2 hx1
     refine (refCount_any m _ hv).mono ?_
     rintro e w3 ⟨rfl, hb4⟩
     have hA3 := hA2.call hb4
     have hm3 := hm2.call hb4
     have hb5 := below_call hb3 hb3.size hb4
     have hx3 := hx2.call hb4
     clear hA2 hm2 hb3 hb4 hx2
     by_cases hn : countN m ≤ 262144
     ·have hn2 : (countN m : Int) ≤ 262144 := by omega
      have hM2 : headM bs = some m := by rw [hM.out, hpc.out]; simp [hn]
      have houtM : outM bs = if bodyOk bs (countN m) = true then some m else none := by unfold outM; rw [hM2]
      have hnpos := countN_pos hv.out
      have hc3 : w3.cell? ⟨g, o, none⟩ = some (.int .u8 (L : Int)) := by
       have := (bytesAt_arr hx3 (by omega)).1 0 (by omega)
       rw [Nat.add_zero, Nat.zero_add, hL.out] at this; exact this
      replace houtM := Lib.hid houtM
      clear hM2
      go_wp2_with (with_reducible refine wpList_loadO rfl 41 (.tmp 5) rfl qm m.cs.toArray 41 rfl hm3 (by kernel_rfl) ?_)
      refine (refCount_any m _ hv).mono ?_
      rintro e w4 ⟨rfl, hb6⟩
      have hA4 := hA3.call hb6
      have hm4 := hm3.call hb6
      have hb7 := below_call hb5 hb5.size hb6
      have hx4 := hx3.call hb6
      clear hA3 hm3 hb5 hb6 hx3
      obtain ⟨n, hnn⟩ : ∃ n, n = countN m := ⟨_, rfl⟩
      rw [← hnn]
      rw [← hnn] at hn2 hnpos hn houtM
      replace hnn := Lib.hid hnn
      go_wp2_with fail
      have hzq : qm < w4.heap.size := hm4.lt
      have hzw : w.heap.size < w4.heap.size := hA4.lt
      obtain ⟨N, hN⟩ : ∃ N, N = nBlk n := ⟨_, rfl⟩
      have hN1 : n ≤ 32 * N ∧ 32 * N < n + 32 := by rw [hN]; unfold nBlk; omega
      replace hN := Lib.hid hN
      go_loopw [7, 8, 9] (fun v a l wr => ∃ k : Nat, k ≤ N ∧ a = .int .i64 (posB bs n k) ∧ l = .int .i64 ((n : Int) - 32 * k) ∧ hdTo bs n k = true ∧ posB bs n k ≤ 300 + 60 * k ∧ Below w4.heap.size w4 wr ∧ wr.ownsRow w4.heap.size 78 4 v k (rblkCells bs n k)) (fun _ _ l _ => (intOf l + 32).toNat)
      case atStart => exact ⟨0, Nat.zero_le _, by show _ = Value.int .i64 ((headP bs : Nat) : Int); rw [hP.out]; rfl, by simp, rfl, by show headP bs ≤ _; rw [hP.out]; omega, Below.refl _ _, World.ownsRow_nil _ _ _ _⟩
      case round =>
       obtain ⟨k, hk, rfl, rfl, hhd, hpb, hbw, hown⟩ := hrel
       have hbW := hb7.trans (hbw.mono (by omega))
       have hxw := bytesAt_arr (hx4.call hbw) (by omega)
       have hAw := hA4.call hbw
       have hmw := hm4.call hbw
       have hzr := hbw.size
       have hps := posB_succ bs n k
       replace hps := Lib.hid hps
       replace hhd := Lib.hid hhd
       by_cases hlt : k < N
       ·have hlt2 : 0 < (n : Int) - 32 * k := by omega
        have hltN : k < nBlk n := by rw [← hN.out]; exact hlt
        obtain ⟨q, hq⟩ : ∃ q, q = posB bs n k := ⟨_, rfl⟩
        rw [← hq]
        rw [← hq] at hpb
        replace hq := Lib.hid hq
        have hqi : (q : Int) ≤ 2000100 := by omega
        by_cases h3 : q + 3 ≤ bs.length
        ·have h3' : ¬ ((bs.length : Int) < q + 3) := by omega
         have hc0 : wr.cell? ⟨g, o + q, none⟩ = some (.int .u8 (atv bs q)) := by have := hxw.1 q (by omega); rw [Nat.zero_add] at this; exact this
         have hc1 : wr.cell? ⟨g, o + (q + 1), none⟩ = some (.int .u8 (atv bs (q + 1))) := by have := hxw.1 (q + 1) (by omega); rw [Nat.zero_add] at this; exact this
         have hc2 : wr.cell? ⟨g, o + (q + 2), none⟩ = some (.int .u8 (atv bs (q + 2))) := by have := hxw.1 (q + 2) (by omega); rw [Nat.zero_add] at this; exact this
         have hgw := hxw.2
         have hb0 := atv_bd hbs q
         have hb1 := atv_bd hbs (q + 1)
         have hb2 := atv_bd hbs (q + 2)
         obtain ⟨wd, hwd⟩ : ∃ wd : Nat, atv bs q = (wd : Int) := ⟨(atv bs q).toNat, by omega⟩
         obtain ⟨x1, hx1'⟩ : ∃ x, x = atv bs (q + 1) := ⟨_, rfl⟩
         obtain ⟨x2, hx2'⟩ : ∃ x, x = atv bs (q + 2) := ⟨_, rfl⟩
         rw [hwd] at hc0 hb0
         rw [← hx1'] at hc1 hb1
         rw [← hx2'] at hc2 hb2
         have hq1 : (q : Int) < bs.length := by omega
         by_cases h14 : wd ≤ 14
         ·have h14' : ¬ (14 : Int) < wd := by omega
          have hlo : lowB bs n k = 256 * x1 + x2 := by unfold lowB; rw [← hq.out, hx1', hx2']
          have hwid : widB bs n k = wd := by unfold widB; rw [← hq.out, hwd]; rfl
          have hmn : min ((n : Int) - 32 * (k : Int)) 32 = (manyB n k : Int) := by unfold manyB; have := hN1; omega
          have hmn3 : (manyB n k : Int) ≤ 32 := by unfold manyB; omega
          have hhd1 : hdTo bs n (k + 1) = true := by simp only [hdTo, hhd.out, Bool.true_and]; unfold hdOk; rw [← hq.out, hwd]; simp; omega
          have hnext : rblkCells bs n (k + 1) = rblkCells bs n k ++ [.int .i64 wd, .int .i64 (256 * x1 + x2), .int .i64 ((q : Int) + 3), .int .i64 (manyB n k)] := by rw [← hlo, ← hwid, hq.out]; rfl
          obtain ⟨mn, hmd⟩ : ∃ mn, mn = manyB n k := ⟨_, rfl⟩
          have hpn : posB bs n (k + 1) = q + 3 + (wd * mn + 7) / 8 := by rw [hps.out, ← hq.out, hwd, hmd]; rfl
          rw [← hmd] at hmn hmn3 hnext
          have hwm : wd * mn ≤ 14 * 32 := Nat.mul_le_mul h14 (by omega)
          have hpn2 : (q : Int) + 3 + ((wd : Int) * mn + 7) / 8 = ((posB bs n (k + 1) : Nat) : Int) := by rw [hpn]; rfl
          replace hpn := Lib.hid hpn
          replace hpn2 := Lib.hid hpn2
          clear hmd
          replace hwd := Lib.hid hwd
          replace hx1' := Lib.hid hx1'
          replace hx2' := Lib.hid hx2'
          replace hlo := Lib.hid hlo
          replace hwid := Lib.hid hwid
          replace hhd1 := Lib.hid hhd1
          replace hnext := Lib.hid hnext
          replace hmn := Lib.hid hmn
          have hbA := (hbw.alloc hbw.size (.cells #[.int .i64 wd, .int .i64 (256 * x1 + x2), .int .i64 ((q : Int) + 3), .int .i64 mn] 78)).drew
          have hownA := own_call hown (below_box wr (.cells #[.int .i64 wd, .int .i64 (256 * x1 + x2), .int .i64 ((q : Int) + 3), .int .i64 mn] 78)).drew
          have hwA : w4.heap.size ≤ (wr.alloc (.cells #[.int .i64 wd, .int .i64 (256 * x1 + x2), .int .i64 ((q : Int) + 3), .int .i64 mn] 78)).drew.heap.size := hbA.size
          go_wp2_with fail
          go_region
          rw [hmn.out]
          go_wp2_with (at_builtin; refine wpList_push rfl (.tmp 103) (.tmp 105) 72 rfl w4.heap.size 78 i0 _ 4 32 Tryz.underlying72 hi0 hz0 hz1 hz2 rfl (by decide) _ k _ rfl hownA [.int .i64 wd, .int .i64 (256 * x1 + x2), .int .i64 ((q : Int) + 3), .int .i64 mn] rfl ?_ _ (by simp) rfl ?_ hwA ?_)
          ·intro u hu; simp at hu; rcases hu with rfl | rfl | rfl | rfl <;> rfl
          ·omega
          intro v' w9 hown9 hg9 _
          have hb9 := hbA.grown hg9 hwA (fun j e => (hownA.lt j e).1)
          rw [← hnext.out] at hown9
          clear hownA hg9 hbA hwA hown hbw
          go_wp2_with fail
          go_roundw
          case rel => exact ⟨k + 1, by omega, by rw [← hpn2.out], by go_num, hhd1.out, by rw [hpn.out]; omega, hb9, hown9⟩
          case measure => simp [intOf]; omega
         ·have h14' : (14 : Int) < wd := by omega
          have hM2 := Lib.hid (show outM bs = none by rw [houtM.out, bodyOk_hd, hdTo_false hltN (by unfold hdOk; rw [← hq.out, hwd]; simp; omega)]; rfl)
          replace hwd := Lib.hid hwd
          replace hx1' := Lib.hid hx1'
          replace hx2' := Lib.hid hx2'
          go_wp2_with (refine wpList_storeAgg rfl 41 (.tmp 2) (.tmp 68) rfl w.heap.size zeroMen.cs.toArray rfl rfl 41 _ hAw hi26.out rfl hone.out ?_)
          refine bodyPost_ret (results_ctt2 (fn := Tryz.f24) Tryz.results24 rfl (setRow_hasO hAw) (by kernel_rfl) rfl rfl) rfl ?_
          exact ⟨setRow_below hbW (Nat.le_refl _) hbW.size, .inl ⟨hM2.out, rfl⟩⟩
        ·have h3' : (bs.length : Int) < q + 3 := by omega
         have hM2 := Lib.hid (show outM bs = none by rw [houtM.out, bodyOk_hd, hdTo_false hltN (by unfold hdOk; rw [← hq.out]; simp [h3])]; rfl)
         go_wp2_with (refine wpList_storeAgg rfl 41 (.tmp 2) (.tmp 68) rfl w.heap.size zeroMen.cs.toArray rfl rfl 41 _ hAw hi26.out rfl hone.out ?_)
         refine bodyPost_ret (results_ctt2 (fn := Tryz.f24) Tryz.results24 rfl (setRow_hasO hAw) (by kernel_rfl) rfl rfl) rfl ?_
         exact ⟨setRow_below hbW (Nat.le_refl _) hbW.size, .inl ⟨hM2.out, rfl⟩⟩
       ·obtain rfl : k = N := by omega
        have hlt2 : ¬ 0 < (n : Int) - 32 * ((k : Nat) : Int) := by omega
        by_cases hend : posB bs n k = bs.length
        ·have hM2 : outM bs = some m := by rw [houtM.out, bodyOk_hd, ← hN.out, hhd.out, hend]; simp
         have hz : (((posB bs n k : Nat) : Int) != bs.length) = false := by rw [hend]; simp
         replace hend := Lib.hid hend
         replace hM2 := Lib.hid hM2
         obtain ⟨vp, vn, vc, rfl⟩ := own_slice hown
         go_wp2_with (first | (with_reducible refine wpList_loadO rfl 41 (.tmp 5) rfl qm m.cs.toArray 41 rfl hmw (by kernel_rfl) ?_) | (with_reducible refine wpList_storeAgg rfl 41 (.tmp 2) (.tmp 112) rfl w.heap.size m.cs.toArray rfl rfl 41 _ hAw (by kernel_rfl) rfl (men_one m) ?_))
         refine bodyPost_ret (results_ctt2 (fn := Tryz.f24) Tryz.results24 rfl (setRow_hasO hAw) (by kernel_rfl) rfl rfl) rfl ?_
         refine ⟨setRow_below hbW (Nat.le_refl _) hbW.size, .inr ⟨m, _, hM2.out, rfl, ?_⟩⟩
         rw [← hnn.out, ← hN.out]
         refine (setRow_alt _ w.heap.size _).own (own_mono hown (by omega)) (fun x e => ?_)
         have := (hown.lt x e).1
         omega
        ·have hM2 : outM bs = none := by rw [houtM.out, bodyOk_hd, ← hN.out]; simp [hend]
         have hz : (((posB bs n k : Nat) : Int) != bs.length) = true := by rw [bne_iff_ne]; omega
         replace hend := Lib.hid hend
         replace hM2 := Lib.hid hM2
         go_wp2_with (refine wpList_storeAgg rfl 41 (.tmp 2) (.tmp 111) rfl w.heap.size zeroMen.cs.toArray rfl rfl 41 _ hAw hi26.out rfl hone.out ?_)
         refine bodyPost_ret (results_ctt2 (fn := Tryz.f24) Tryz.results24 rfl (setRow_hasO hAw) (by kernel_rfl) rfl rfl) rfl ?_
         exact ⟨setRow_below hbW (Nat.le_refl _) hbW.size, .inl ⟨hM2.out, rfl⟩⟩
     ·have hn2 : ¬ (countN m : Int) ≤ 262144 := by omega
      have hM2 := Lib.hid (outM_none (show headM bs = none by rw [hM.out, hpc.out]; simp [hn]))
      go_wp2_with (refine wpList_storeAgg rfl 41 (.tmp 2) (.tmp 44) rfl w.heap.size zeroMen.cs.toArray rfl rfl 41 _ hA3 hi26.out rfl hone.out ?_)
      refine bodyPost_ret (results_ctt2 (fn := Tryz.f24) Tryz.results24 rfl (setRow_hasO hA3) (by kernel_rfl) rfl rfl) rfl ?_
      exact ⟨setRow_below hb5 (Nat.le_refl _) hb5.size, .inl ⟨hM2.out, rfl⟩⟩
theorem refOutline_any (p : Option Addr) (c : Nat) (bs : List Int) (w : World) (hx : Arr .u8 w p bs) (hbs : isBytes bs) (hl : bs.length ≤ 2000000) (hc : bs.length ≤ c) :
  Calls Tryz.prog 24 #[.slice p bs.length c] w (OutlR w bs) := refOutline_wide p c bs w hx hbs (by omega) hc
end Go.Proofs.YtddkhnnpeonbgaaGreatDoor
namespace Go.Proofs.YtddkhnnpeonbgaaGreatDoor
open Go.RowKit

theorem rblkCells_len (bs : List Int) (n k : Nat) : (rblkCells bs n k).length = 4 * k := by
 induction k with
 | zero => rfl
 | succ k ih => simp only [rblkCells, List.length_append, ih, rblkCs, List.length_cons, List.length_nil]; omega
theorem rblkCells_get (bs : List Int) (n : Nat) {i k j : Nat} (hi : i < k) (hj : j < 4) : (rblkCells bs n k)[i * 4 + j]? = (rblkCs (widB bs n i) (lowB bs n i) (posB bs n i + 3) (manyB n i))[j]? := by
 induction k with
 | zero => omega
 | succ k ih =>
  simp only [rblkCells]
  by_cases e : i < k
  ·rw [List.getElem?_append_left (by rw [rblkCells_len]; omega)]; exact ih e
  ·obtain rfl : i = k := by omega
   rw [List.getElem?_append_right (by rw [rblkCells_len]; omega), rblkCells_len]
   congr 1; omega
theorem rblk_slice4 {w : World} {base : Nat} {v : Value} {bs : List Int} {n N : Nat} (h : w.ownsRow base 78 4 v N (rblkCells bs n N)) (hN : 0 < N) :
  ∃ gb cap, v = .slice (some ⟨gb, 0, none⟩) N cap ∧ base ≤ gb ∧ gb < w.heap.size ∧ N ≤ cap ∧ ∀ i j, i < N → j < 4 → w.cell? ⟨gb, i * 4 + j, none⟩ = (rblkCs (widB bs n i) (lowB bs n i) (posB bs n i + 3) (manyB n i))[j]? := by
 have h' := h
 rcases h.2 with ⟨_, h2⟩ | ⟨gb, cap, cur, rfl, hg, hh, hcap, _⟩
 ·omega
 ·refine ⟨gb, cap, rfl, hg, (h'.lt gb rfl).2, hcap, fun i j hi hj => ?_⟩
  rw [h'.cellAt _ (by omega)]
  exact rblkCells_get bs n hi hj
set_option maxHeartbeats 2000000 in
set_option maxRecDepth 100000 in
theorem refGet_any (p : Option Addr) (c : Nat) (bs : List Int) (n : Int) (w : World) (hx : Arr .u8 w p bs) (hbs : isBytes bs) (hl : bs.length ≤ 2000000) (hc : bs.length ≤ c) :
  Calls Tryz.prog 7 #[.slice p bs.length c, .int .i64 n] w fun e w' => e = .returned (.tuple #[.int .i16 (getV bs n).1, .int .i64 (getV bs n).2]) ∧ Below w.heap.size w w' := by
 have hi41 : Hid ((Tryz.prog.info? 41).map (·.size) = some zeroMen.cs.toArray.size) := Lib.hid (by kernel_rfl)
 have hone : Hid (zeroMen.cs.toArray.all (·.oneCell') = true) := Lib.hid (by kernel_rfl)
 go_enter Tryz.func7, Tryz.ntmps7
 go_wp2_with fail
 refine (refOutline_any p c bs w hx hbs hl hc).mono ?_
 rintro e w1 ⟨hb1, ⟨hM, rfl⟩ | ⟨m, v, hM, rfl, hown⟩⟩
 ·have hG : Hid (getV bs n = (0, 6)) := Lib.hid (by unfold getV; rw [hM])
  have hT := HasO.new w1 (.cells zeroMen.cs.toArray 41)
  have hb2 := setRow_below (g := w1.heap.size) (cells := zeroMen.cs.toArray) (hb1.alloc hb1.size (.cells zeroMen.cs.toArray 41)) hb1.size (by simp; have := hb1.size; omega)
  obtain ⟨w2, hw2⟩ : ∃ x, x = (w1.alloc (.cells zeroMen.cs.toArray 41)).setRow w1.heap.size zeroMen.cs.toArray := ⟨_, rfl⟩
  rw [← hw2] at hb2
  replace hw2 := Lib.hid hw2
  clear hM
  go_wp2_with (first | (refine wpList_storeTo hw2 rfl 41 (.tmp 6) (.tmp 12) rfl rfl rfl 41 _ hT hi41.out rfl hone.out ?_) | fail)
  go_ret2
  exact ⟨by rw [hG.out]; rfl, hb2⟩
 ·have hG : getV bs n = if n < 0 ∨ (countN m : Int) ≤ n then (0, 3) else (entB bs (countN m) (n.toNat / 32) (n.toNat % 32), 0) := by unfold getV; rw [hM]
  obtain ⟨hv, hnpos, hn, hbody, _⟩ := outM_fact hM
  have hlen := outM_len hM
  have hN : 0 < nBlk (countN m) := by unfold nBlk; omega
  have hT := HasO.new w1 (.cells zeroMen.cs.toArray 41)
  obtain ⟨w2, hw2⟩ : ∃ x, x = (w1.alloc (.cells zeroMen.cs.toArray 41)).setRow w1.heap.size m.cs.toArray := ⟨_, rfl⟩
  obtain ⟨q, hq⟩ : ∃ q, q = w1.heap.size := ⟨_, rfl⟩
  have hM2 : HasO w2 q (.cells m.cs.toArray 41 (0, 0)) := by rw [hw2, hq]; exact setRow_hasO hT
  have hb12 : Below w1.heap.size w1 w2 := by rw [hw2]; exact setRow_below (below_box _ _) (Nat.le_refl _) (by simp)
  have hb2 := below_call hb1 hb1.size hb12
  have hown2 := own_call hown hb12
  obtain ⟨gb, cap, rfl, hgb, hgl, hcap, hcells⟩ := rblk_slice4 hown2 hN
  have hcm := hM2.cells
  have hlm := hM2.lt
  rw [hq] at hcm hlm
  replace hw2 := Lib.hid hw2
  have hcn := fun W => refCount_any m W (Lib.hid hv)
  obtain ⟨N, hNN⟩ : ∃ N, N = countN m := ⟨_, rfl⟩
  rw [← hNN] at hG hnpos hn hbody hcn hcells hN hcap ⊢
  have hNb : nBlk N ≤ 8193 := by unfold nBlk; omega
  replace hbody := Lib.hid hbody
  replace hv := Lib.hid hv
  clear hM hown hown2 hNN hb12
  by_cases h0 : n < 0
  ·replace hG : Hid (getV bs n = (0, 3)) := Lib.hid (by rw [hG, if_pos (.inl h0)])
   clear hcells
   go_wp2_with (first | (refine wpList_storeTo hw2 rfl 41 (.tmp 6) (.tmp 12) rfl rfl rfl 41 _ hT hi41.out rfl (men_one m) ?_) | fail)
   go_ret2
   exact ⟨by rw [hG.out]; rfl, hb2⟩
  ·replace hcells := Lib.hid hcells
   go_wp2_with (first | (refine wpList_storeTo hw2 rfl 41 (.tmp 6) (.tmp 12) rfl rfl rfl 41 _ hT hi41.out rfl (men_one m) ?_) | fail)
   refine (hcn _).mono ?_
   rintro e w3 ⟨rfl, hb3⟩
   have hb4 := below_call hb2 hb2.size hb3
   clear hcm hlm hM2 hT hw2
   by_cases h1 : (N : Int) ≤ n
   ·replace hG : Hid (getV bs n = (0, 3)) := Lib.hid (by rw [hG, if_pos (.inr h1)])
    go_wp2_with fail
    go_ret2
    exact ⟨by rw [hG.out]; rfl, hb4⟩
   ·obtain ⟨i, rfl⟩ := Int.eq_ofNat_of_zero_le (by omega : 0 ≤ n)
    replace hG : Hid (getV bs i = (entB bs N (i / 32) (i % 32), 0)) := Lib.hid (by rw [hG, if_neg (by omega), Int.toNat_natCast])
    have hk : i / 32 < nBlk N := by unfold nBlk; omega
    have hi : i % 32 < manyB N (i / 32) := by unfold manyB; omega
    obtain ⟨f1, f2⟩ := blk_facts hbs hbody.out hk
    have k0 := (hb3.cell (p := ⟨gb, i / 32 * 4 + 0, none⟩) hgl).trans (hcells.out _ 0 hk (by omega))
    have k1 := (hb3.cell (p := ⟨gb, i / 32 * 4 + 1, none⟩) hgl).trans (hcells.out _ 1 hk (by omega))
    have k2 := (hb3.cell (p := ⟨gb, i / 32 * 4 + 2, none⟩) hgl).trans (hcells.out _ 2 hk (by omega))
    have k3 := (hb3.cell (p := ⟨gb, i / 32 * 4 + 3, none⟩) hgl).trans (hcells.out _ 3 hk (by omega))
    simp only [rblkCs, List.getElem?_cons_zero, List.getElem?_cons_succ, Nat.add_zero] at k0 k1 k2 k3
    have hgl3 : gb < w3.heap.size := Nat.lt_of_lt_of_le hgl hb3.size
    have hk2 : (i : Int) / 32 < nBlk N := by omega
    have hgl0 : 0 ≤ (i : Int) % 32 := by omega
    have hib : (i : Int) ≤ 262144 := by omega
    have e32 : ((i : Int) / 32).toNat = i / 32 := by omega
    obtain ⟨g, o, ep, _, _⟩ := hx.at hlen
    subst ep
    obtain ⟨hby, hgw⟩ := bytesAt_arr (hx.call hb4) hlen
    have hlow := lowB_bd hbs N (i / 32)
    have hnb : (i % 32 + 1) * widB bs N (i / 32) ≤ 8 * (bs.length - (posB bs N (i / 32) + 3)) := by
     have h5 : (i % 32 + 1) * widB bs N (i / 32) ≤ manyB N (i / 32) * widB bs N (i / 32) := Nat.mul_le_mul_right _ hi
     have h6 : nbB bs N (i / 32) = (widB bs N (i / 32) * manyB N (i / 32) + 7) / 8 := rfl
     rw [Nat.mul_comm (manyB _ _)] at h5
     omega
    have hrd := refRead_any (widB bs N (i / 32)) (posB bs N (i / 32) + 3) (manyB N (i / 32)) (i % 32) g o c (lowB bs N (i / 32)) bs w3 hbs hgw hby f2 (by omega) hnb hl (by omega) hlow
    have hent : entB bs N (i / 32) (i % 32) = i16of (lowB bs N (i / 32) + difB bs (posB bs N (i / 32) + 3) (i % 32 * widB bs N (i / 32)) (widB bs N (i / 32))) := rfl
    rw [← hent] at hrd
    clear hent hnb hlow hby hgw hx f1 f2 hcells hi
    generalize widB bs N (i / 32) = wd at *
    generalize lowB bs N (i / 32) = lw at *
    generalize posB bs N (i / 32) = ps at *
    generalize manyB N (i / 32) = mn at *
    go_wp2_with fail
    refine hrd.mono ?_
    rintro e w4 ⟨rfl, hb5⟩
    go_wp2_with fail
    go_ret2
    exact ⟨by rw [hG.out]; rfl, below_call hb4 hb4.size hb5⟩
end Go.Proofs.YtddkhnnpeonbgaaGreatDoor
