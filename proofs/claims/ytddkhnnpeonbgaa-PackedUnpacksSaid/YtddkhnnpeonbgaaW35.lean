import Derived.Test.YtddkhnnpeonbgaaW34
import Derived.Test.YtddkhnnpeonbgaaW25
import Derived.BigRegion
namespace Go.Proofs.Ytddkhnnpeonbgaa
open Go.RowKit

def rblkCells (bs : List Int) (n : Nat) : Nat → List Value
  | 0 => []
  | k + 1 => rblkCells bs n k ++ rblkCs (widB bs n k) (lowB bs n k) (posB bs n k + 3) (manyB n k)
theorem Try.info53 : (Try.prog.info? 53).map (fun i => (i.zero, i.size, i.bytes)) = some (some (.agg #[.int .i64 0, .int .i64 0, .int .i64 0, .int .i64 0]), 4, 32) := by kernel_rfl
/-- what the reference's Outline gives -/
def OutlR (w : World) (bs : List Int) (e : Ending) (w' : World) : Prop :=
  Below w.heap.size w w' ∧ ((outM bs = none ∧ e = .returned (.tuple #[.agg zeroMen.cs.toArray, .slice none 0 0, .bool false])) ∨
    ∃ m v, outM bs = some m ∧ e = .returned (.tuple #[.agg m.cs.toArray, v, .bool true]) ∧ w'.ownsRow w.heap.size 53 4 v (nBlk (countN m)) (rblkCells bs (countN m) (nBlk (countN m))))
theorem headM_bad {bs : List Int} {tx : List UInt8} (h0 : ¬ bs.length = 0) (h1 : ¬ bs.length < 1 + (atv bs 0).toNat) (ht : tx = toU ((bs.drop 1).take (atv bs 0).toNat)) : headM bs = match parseC tx with | none => none | some m => if countN m ≤ 262144 then some m else none := by
  unfold headM
  rw [if_neg h0, if_neg h1, ht]; rfl
theorem validB_hid {m : Men} (h : validB m = true) : Hid (validB m = true) := h

set_option maxHeartbeats 4000000 in
set_option maxRecDepth 100000 in
theorem refOutline_wide (p : Option Addr) (c : Nat) (bs : List Int) (w : World) (hx : Arr .u8 w p bs) (hbs : isBytes bs) (hl : bs.length ≤ 9223372036854775807) (hc : bs.length ≤ c) :
    Calls Try.prog 11 #[.slice p bs.length c] w (OutlR w bs) := by
  obtain ⟨i0, hi0, hz0, hz1, hz2⟩ := info_parts Try.info53
  have hA : HasO (w.alloc (.cells zeroMen.cs.toArray 26)) w.heap.size (.cells zeroMen.cs.toArray 26 (0, 0)) := HasO.new _ _
  have hb := below_box w (.cells zeroMen.cs.toArray 26)
  have hi26 : Hid ((Try.prog.info? 26).map (·.size) = some zeroMen.cs.toArray.size) := Lib.hid (by kernel_rfl)
  have hone : Hid (zeroMen.cs.toArray.all (·.oneCell') = true) := Lib.hid (by kernel_rfl)
  by_cases h0 : bs.length = 0
  · have hM := outM_none (headM_nil h0)
    rw [h0]
    replace h0 := Lib.hid h0
    replace hM := Lib.hid hM
    go_enter Try.func11, Try.ntmps11
    go_wp2_with (refine wpList_storeAgg rfl 26 (.tmp 2) (.tmp 24) rfl w.heap.size zeroMen.cs.toArray rfl rfl 26 _ hA hi26.out rfl hone.out ?_)
    refine bodyPost_ret (results_ctt2 (fn := Try.f11) Try.results11 rfl (setRow_hasO hA) (by kernel_rfl) rfl rfl) rfl ?_
    exact ⟨setRow_below hb (Nat.le_refl _) hb.size, .inl ⟨hM.out, rfl⟩⟩
  · obtain ⟨g, o, rfl, hgl, _⟩ := hx.at (i := 0) (by omega)
    obtain ⟨L, hL⟩ : ∃ L : Nat, atv bs 0 = (L : Int) := ⟨(atv bs 0).toNat, by have := atv_bd hbs 0; omega⟩
    have hLb : (L : Int) < 256 := by have := atv_bd hbs 0; omega
    have hLt : (atv bs 0).toNat = L := by omega
    have hP : headP bs = 1 + L := by unfold headP; rw [hLt]
    have h00 : ((bs.length : Int) == 0) = false := by rw [beq_eq_false_iff_ne]; omega
    have hbyW := bytesAt_arr hx (by omega)
    have hc0 : w.cell? ⟨g, o, none⟩ = some (.int .u8 (L : Int)) := by rw [← hL]; have := hbyW.1 0 (by omega); rw [Nat.zero_add] at this; exact this
    replace hL := Lib.hid hL
    replace hP := Lib.hid hP
    have hlen1 : 0 < (bs.length : Int) := by omega
    by_cases h1 : bs.length < 1 + L
    · have hM : outM bs = none := outM_none (by unfold headM; rw [if_neg h0, if_pos (by rw [hLt]; exact h1)])
      have h1' : (bs.length : Int) < 1 + L := by omega
      replace hM := Lib.hid hM
      replace hLt := Lib.hid hLt
      go_enter Try.func11, Try.ntmps11
      go_wp2_with (refine wpList_storeAgg rfl 26 (.tmp 2) (.tmp 24) rfl w.heap.size zeroMen.cs.toArray rfl rfl 26 _ hA hi26.out rfl hone.out ?_)
      refine bodyPost_ret (results_ctt2 (fn := Try.f11) Try.results11 rfl (setRow_hasO hA) (by kernel_rfl) rfl rfl) rfl ?_
      exact ⟨setRow_below hb (Nat.le_refl _) hb.size, .inl ⟨hM.out, rfl⟩⟩
    · have h1' : ¬ (bs.length : Int) < 1 + L := by omega
      have h1c : (1 : Int) + L ≤ c := by omega
      have hcv : ∀ ad cp, (0 < L → ad = o + 1) → (convert 31 9 (.slice (some ⟨g, ad, none⟩) L cp)).run Try.prog (w.alloc (.cells zeroMen.cs.toArray 26)) = .ok (.string (str (toU ((bs.drop 1).take L)))) (w.alloc (.cells zeroMen.cs.toArray 26)) := by
        intro ad cp had
        have hxl : ((bs.drop 1).take L).length = L := by simp; omega
        refine conv_at _ (fun j hj => ?_) hxl.symm
        rw [hxl] at hj
        have := hbyW.1 (1 + j) (by omega)
        rw [had (by omega), Nat.add_assoc, hb.cell (p := ⟨g, o + (1 + j), none⟩) hgl]
        rw [Nat.zero_add] at this
        rw [this, List.getElem?_take_of_lt hj, List.getElem?_drop]; rfl
      have hM : headM bs = match parseC (toU ((bs.drop 1).take L)) with | none => none | some m => if countN m ≤ 262144 then some m else none := headM_bad h0 (by rw [hLt]; exact h1) (by rw [hLt])
      by_cases hc1 : c = 1
      · have hL0 : L = 0 := by omega
        subst hL0
        have hpc : parseC [] = none := parse_len (.inl (by simp))
        have hM2 : outM bs = none := outM_none (by rw [hM]; simp [toU, hpc])
        have htx : toU ((bs.drop 1).take 0) = [] := by simp [toU]
        have hcv2 : (convert 31 9 (.slice (some ⟨g, o, none⟩) 0 0)).run Try.prog (w.alloc (.cells #[.int .i64 0, .int .i64 0, .int .i64 0, .int .i64 0, .int .i64 0, .int .i64 0, .int .i64 0, .int .i64 0, .int .i64 0, .int .i64 0, .int .i64 0, .int .i64 0] 26)) = .ok (.string (str [])) (w.alloc (.cells #[.int .i64 0, .int .i64 0, .int .i64 0, .int .i64 0, .int .i64 0, .int .i64 0, .int .i64 0, .int .i64 0, .int .i64 0, .int .i64 0, .int .i64 0, .int .i64 0] 26)) := by
          have := hcv o 0 (by omega)
          rw [htx] at this
          exact this
        have hpv : parseR [] = .tuple #[.agg zeroMen.cs.toArray, .bool false] := by unfold parseR; rw [hpc]
        subst hc1
        replace hM2 := Lib.hid hM2
        replace hpv := Lib.hid hpv
        replace hLt := Lib.hid hLt
        clear hM htx hcv hpc
        go_enter Try.func11, Try.ntmps11
        go_wp2_with fail
        show Calls _ 25 _ (w.alloc (.cells zeroMen.cs.toArray 26)) _
        refine (refParse_any [] _ (by simp)).mono ?_
        rintro e w1 ⟨rfl, hb1⟩
        have hA1 := hA.call hb1
        have hb2 := below_call hb (by simp) hb1
        clear hcv2
        rw [hpv.out]
        have hA2 := hA1.alloc (.cells zeroMen.cs.toArray 26)
        have hb3 := hb2.alloc hb2.size (.cells zeroMen.cs.toArray 26)
        have hl2 := hA1.lt
        go_wp2_with (refine wpList_storeAgg rfl 26 (.tmp 2) (.tmp 44) rfl w.heap.size zeroMen.cs.toArray rfl rfl 26 _ hA2 hi26.out rfl hone.out ?_)
        refine bodyPost_ret (results_ctt2 (fn := Try.f11) Try.results11 rfl (setRow_hasO hA2) (by kernel_rfl) rfl rfl) rfl ?_
        exact ⟨setRow_below hb3 (Nat.le_refl _) hb3.size, .inl ⟨hM2.out, rfl⟩⟩
      · have hcv2 : (convert 31 9 (.slice (some ⟨g, o + 1, none⟩) L (c - 1))).run Try.prog (w.alloc (.cells #[.int .i64 0, .int .i64 0, .int .i64 0, .int .i64 0, .int .i64 0, .int .i64 0, .int .i64 0, .int .i64 0, .int .i64 0, .int .i64 0, .int .i64 0, .int .i64 0] 26)) = .ok (.string (str (toU ((bs.drop 1).take L)))) (w.alloc (.cells #[.int .i64 0, .int .i64 0, .int .i64 0, .int .i64 0, .int .i64 0, .int .i64 0, .int .i64 0, .int .i64 0, .int .i64 0, .int .i64 0, .int .i64 0, .int .i64 0] 26)) := hcv (o + 1) (c - 1) (fun _ => rfl)
        have htl : (toU ((bs.drop 1).take L)).length ≤ 2000000 := by unfold toU; simp; omega
        generalize toU ((bs.drop 1).take L) = tx at *
        clear hcv
        replace hM := Lib.hid hM
        replace hLt := Lib.hid hLt
        go_enter Try.func11, Try.ntmps11
        go_wp2_with fail
        show Calls _ 25 _ (w.alloc (.cells zeroMen.cs.toArray 26)) _
        refine (refParse_any tx _ htl).mono ?_
        rintro e w1 ⟨rfl, hb1⟩
        have hA1 := hA.call hb1
        have hb2 := below_call hb (by simp) hb1
        have hx1 := hx.call hb2
        clear hcv2
        rcases hpc : parseC tx with _ | m
        · have hM2 := Lib.hid (outM_none (show headM bs = none by rw [hM.out, hpc]))
          have hpv : parseR tx = .tuple #[.agg zeroMen.cs.toArray, .bool false] := by unfold parseR; rw [hpc]
          rw [hpv]
          replace hpv := Lib.hid hpv
          replace hpc := Lib.hid hpc
          have hA2 := hA1.alloc (.cells zeroMen.cs.toArray 26)
          have hb3 := hb2.alloc hb2.size (.cells zeroMen.cs.toArray 26)
          have hl2 := hA1.lt
          go_wp2_with (refine wpList_storeAgg rfl 26 (.tmp 2) (.tmp 44) rfl w.heap.size zeroMen.cs.toArray rfl rfl 26 _ hA2 hi26.out rfl hone.out ?_)
          refine bodyPost_ret (results_ctt2 (fn := Try.f11) Try.results11 rfl (setRow_hasO hA2) (by kernel_rfl) rfl rfl) rfl ?_
          exact ⟨setRow_below hb3 (Nat.le_refl _) hb3.size, .inl ⟨hM2.out, rfl⟩⟩
        · have hv := Lib.hid (parse_some hpc).1
          have hpv : parseR tx = .tuple #[.agg m.cs.toArray, .bool true] := by unfold parseR; rw [hpc]
          rw [hpv]
          replace hpv := Lib.hid hpv
          replace hpc := Lib.hid hpc
          have hA2 := hA1.alloc (.cells m.cs.toArray 26)
          have hm2 := HasO.new w1 (.cells m.cs.toArray 26)
          have hb3 := hb2.alloc hb2.size (.cells m.cs.toArray 26)
          have hx2 := hx1.call (below_box w1 (.cells m.cs.toArray 26))
          have hl2 := hA1.lt
          go_wp2_with fail
          show Calls _ 12 #[.agg m.cs.toArray] (w1.alloc (.cells m.cs.toArray 26)) _
          obtain ⟨qm, hqm⟩ : ∃ x, x = w1.heap.size := ⟨_, rfl⟩
          rw [← hqm]
          rw [← hqm] at hm2 hl2
          generalize w1.alloc (.cells m.cs.toArray 26) = w2 at *
          clear hqm hA1 hb1 hb2 hx1
          refine (refCount_any m _ hv).mono ?_
          rintro e w3 ⟨rfl, hb4⟩
          have hA3 := hA2.call hb4
          have hm3 := hm2.call hb4
          have hb5 := below_call hb3 hb3.size hb4
          have hx3 := hx2.call hb4
          clear hA2 hm2 hb3 hb4 hx2
          by_cases hn : countN m ≤ 262144
          · have hn2 : (countN m : Int) ≤ 262144 := by omega
            have hM2 : headM bs = some m := by rw [hM.out, hpc.out]; simp [hn]
            have houtM : outM bs = if bodyOk bs (countN m) = true then some m else none := by unfold outM; rw [hM2]
            have hnpos := countN_pos hv.out
            have hc3 : w3.cell? ⟨g, o, none⟩ = some (.int .u8 (L : Int)) := by
              have := (bytesAt_arr hx3 (by omega)).1 0 (by omega)
              rw [Nat.add_zero, Nat.zero_add, hL.out] at this; exact this
            replace houtM := Lib.hid houtM
            clear hM2
            go_wp2_with (with_reducible refine wpList_loadO rfl 26 (.tmp 5) rfl qm m.cs.toArray 26 rfl hm3 (by kernel_rfl) ?_)
            refine (refCount_any m _ hv).mono ?_
            rintro e w4 ⟨rfl, hb6⟩
            have hA4 := hA3.call hb6
            have hm4 := hm3.call hb6
            have hb7 := below_call hb5 hb5.size hb6
            have hx4 := hx3.call hb6
            clear hA3 hm3 hb5 hb6 hx3
            obtain ⟨n, hnn⟩ : ∃ n, n = countN m := ⟨_, rfl⟩
            rw [← hnn]
            rw [← hnn] at hn2 hnpos hn houtM
            replace hnn := Lib.hid hnn
            go_wp2_with fail
            have hzq : qm < w4.heap.size := hm4.lt
            have hzw : w.heap.size < w4.heap.size := hA4.lt
            obtain ⟨N, hN⟩ : ∃ N, N = nBlk n := ⟨_, rfl⟩
            have hN1 : n ≤ 32 * N ∧ 32 * N < n + 32 := by rw [hN]; unfold nBlk; omega
            replace hN := Lib.hid hN
            go_loopw [7, 8, 9] (fun v a l wr => ∃ k : Nat, k ≤ N ∧ a = .int .i64 (posB bs n k) ∧ l = .int .i64 ((n : Int) - 32 * k) ∧ hdTo bs n k = true ∧ posB bs n k ≤ 300 + 60 * k ∧ Below w4.heap.size w4 wr ∧ wr.ownsRow w4.heap.size 53 4 v k (rblkCells bs n k)) (fun _ _ l _ => (intOf l + 32).toNat)
            case atStart => exact ⟨0, Nat.zero_le _, by show _ = Value.int .i64 ((headP bs : Nat) : Int); rw [hP.out]; rfl, by simp, rfl, by show headP bs ≤ _; rw [hP.out]; omega, Below.refl _ _, World.ownsRow_nil _ _ _ _⟩
            case round =>
              obtain ⟨k, hk, rfl, rfl, hhd, hpb, hbw, hown⟩ := hrel
              have hbW := hb7.trans (hbw.mono (by omega))
              have hxw := bytesAt_arr (hx4.call hbw) (by omega)
              have hAw := hA4.call hbw
              have hmw := hm4.call hbw
              have hzr := hbw.size
              have hps := posB_succ bs n k
              replace hps := Lib.hid hps
              replace hhd := Lib.hid hhd
              by_cases hlt : k < N
              · have hlt2 : 0 < (n : Int) - 32 * k := by omega
                have hltN : k < nBlk n := by rw [← hN.out]; exact hlt
                obtain ⟨q, hq⟩ : ∃ q, q = posB bs n k := ⟨_, rfl⟩
                rw [← hq]
                rw [← hq] at hpb
                replace hq := Lib.hid hq
                have hqi : (q : Int) ≤ 2000100 := by omega
                by_cases h3 : q + 3 ≤ bs.length
                · have h3' : ¬ ((bs.length : Int) < q + 3) := by omega
                  have hc0 : wr.cell? ⟨g, o + q, none⟩ = some (.int .u8 (atv bs q)) := by have := hxw.1 q (by omega); rw [Nat.zero_add] at this; exact this
                  have hc1 : wr.cell? ⟨g, o + (q + 1), none⟩ = some (.int .u8 (atv bs (q + 1))) := by have := hxw.1 (q + 1) (by omega); rw [Nat.zero_add] at this; exact this
                  have hc2 : wr.cell? ⟨g, o + (q + 2), none⟩ = some (.int .u8 (atv bs (q + 2))) := by have := hxw.1 (q + 2) (by omega); rw [Nat.zero_add] at this; exact this
                  have hgw := hxw.2
                  have hb0 := atv_bd hbs q
                  have hb1 := atv_bd hbs (q + 1)
                  have hb2 := atv_bd hbs (q + 2)
                  obtain ⟨wd, hwd⟩ : ∃ wd : Nat, atv bs q = (wd : Int) := ⟨(atv bs q).toNat, by omega⟩
                  obtain ⟨x1, hx1'⟩ : ∃ x, x = atv bs (q + 1) := ⟨_, rfl⟩
                  obtain ⟨x2, hx2'⟩ : ∃ x, x = atv bs (q + 2) := ⟨_, rfl⟩
                  rw [hwd] at hc0 hb0
                  rw [← hx1'] at hc1 hb1
                  rw [← hx2'] at hc2 hb2
                  have hq1 : (q : Int) < bs.length := by omega
                  by_cases h14 : wd ≤ 14
                  · have h14' : ¬ (14 : Int) < wd := by omega
                    have hlo : lowB bs n k = 256 * x1 + x2 := by unfold lowB; rw [← hq.out, hx1', hx2']
                    have hwid : widB bs n k = wd := by unfold widB; rw [← hq.out, hwd]; rfl
                    have hmn : min ((n : Int) - 32 * (k : Int)) 32 = (manyB n k : Int) := by unfold manyB; have := hN1; omega
                    have hmn3 : (manyB n k : Int) ≤ 32 := by unfold manyB; omega
                    have hhd1 : hdTo bs n (k + 1) = true := by simp only [hdTo, hhd.out, Bool.true_and]; unfold hdOk; rw [← hq.out, hwd]; simp; omega
                    have hnext : rblkCells bs n (k + 1) = rblkCells bs n k ++ [.int .i64 wd, .int .i64 (256 * x1 + x2), .int .i64 ((q : Int) + 3), .int .i64 (manyB n k)] := by rw [← hlo, ← hwid, hq.out]; rfl
                    obtain ⟨mn, hmd⟩ : ∃ mn, mn = manyB n k := ⟨_, rfl⟩
                    have hpn : posB bs n (k + 1) = q + 3 + (wd * mn + 7) / 8 := by rw [hps.out, ← hq.out, hwd, hmd]; rfl
                    rw [← hmd] at hmn hmn3 hnext
                    have hwm : wd * mn ≤ 14 * 32 := Nat.mul_le_mul h14 (by omega)
                    have hpn2 : (q : Int) + 3 + ((wd : Int) * mn + 7) / 8 = ((posB bs n (k + 1) : Nat) : Int) := by rw [hpn]; rfl
                    replace hpn := Lib.hid hpn
                    replace hpn2 := Lib.hid hpn2
                    clear hmd
                    replace hwd := Lib.hid hwd
                    replace hx1' := Lib.hid hx1'
                    replace hx2' := Lib.hid hx2'
                    replace hlo := Lib.hid hlo
                    replace hwid := Lib.hid hwid
                    replace hhd1 := Lib.hid hhd1
                    replace hnext := Lib.hid hnext
                    replace hmn := Lib.hid hmn
                    have hbA := (hbw.alloc hbw.size (.cells #[.int .i64 wd, .int .i64 (256 * x1 + x2), .int .i64 ((q : Int) + 3), .int .i64 mn] 53)).drew
                    have hownA := own_call hown (below_box wr (.cells #[.int .i64 wd, .int .i64 (256 * x1 + x2), .int .i64 ((q : Int) + 3), .int .i64 mn] 53)).drew
                    have hwA : w4.heap.size ≤ (wr.alloc (.cells #[.int .i64 wd, .int .i64 (256 * x1 + x2), .int .i64 ((q : Int) + 3), .int .i64 mn] 53)).drew.heap.size := hbA.size
                    go_wp2_with fail
                    go_region
                    rw [hmn.out]
                    go_wp2_with (at_builtin; refine wpList_push rfl (.tmp 103) (.tmp 105) 38 rfl w4.heap.size 53 i0 _ 4 32 Try.underlying38 hi0 hz0 hz1 hz2 rfl (by decide) _ k _ rfl hownA [.int .i64 wd, .int .i64 (256 * x1 + x2), .int .i64 ((q : Int) + 3), .int .i64 mn] rfl ?_ _ (by simp) rfl ?_ hwA ?_)
                    · intro u hu; simp at hu; rcases hu with rfl | rfl | rfl | rfl <;> rfl
                    · omega
                    intro v' w9 hown9 hg9 _
                    have hb9 := hbA.grown hg9 hwA (fun j e => (hownA.lt j e).1)
                    rw [← hnext.out] at hown9
                    clear hownA hg9 hbA hwA hown hbw
                    go_wp2_with fail
                    go_roundw
                    case rel => exact ⟨k + 1, by omega, by rw [← hpn2.out], by go_num, hhd1.out, by rw [hpn.out]; omega, hb9, hown9⟩
                    case measure => simp [intOf]; omega
                  · have h14' : (14 : Int) < wd := by omega
                    have hM2 := Lib.hid (show outM bs = none by rw [houtM.out, bodyOk_hd, hdTo_false hltN (by unfold hdOk; rw [← hq.out, hwd]; simp; omega)]; rfl)
                    replace hwd := Lib.hid hwd
                    replace hx1' := Lib.hid hx1'
                    replace hx2' := Lib.hid hx2'
                    go_wp2_with (refine wpList_storeAgg rfl 26 (.tmp 2) (.tmp 68) rfl w.heap.size zeroMen.cs.toArray rfl rfl 26 _ hAw hi26.out rfl hone.out ?_)
                    refine bodyPost_ret (results_ctt2 (fn := Try.f11) Try.results11 rfl (setRow_hasO hAw) (by kernel_rfl) rfl rfl) rfl ?_
                    exact ⟨setRow_below hbW (Nat.le_refl _) hbW.size, .inl ⟨hM2.out, rfl⟩⟩
                · have h3' : (bs.length : Int) < q + 3 := by omega
                  have hM2 := Lib.hid (show outM bs = none by rw [houtM.out, bodyOk_hd, hdTo_false hltN (by unfold hdOk; rw [← hq.out]; simp [h3])]; rfl)
                  go_wp2_with (refine wpList_storeAgg rfl 26 (.tmp 2) (.tmp 68) rfl w.heap.size zeroMen.cs.toArray rfl rfl 26 _ hAw hi26.out rfl hone.out ?_)
                  refine bodyPost_ret (results_ctt2 (fn := Try.f11) Try.results11 rfl (setRow_hasO hAw) (by kernel_rfl) rfl rfl) rfl ?_
                  exact ⟨setRow_below hbW (Nat.le_refl _) hbW.size, .inl ⟨hM2.out, rfl⟩⟩
              · obtain rfl : k = N := by omega
                have hlt2 : ¬ 0 < (n : Int) - 32 * ((k : Nat) : Int) := by omega
                by_cases hend : posB bs n k = bs.length
                · have hM2 : outM bs = some m := by rw [houtM.out, bodyOk_hd, ← hN.out, hhd.out, hend]; simp
                  have hz : (((posB bs n k : Nat) : Int) != bs.length) = false := by rw [hend]; simp
                  replace hend := Lib.hid hend
                  replace hM2 := Lib.hid hM2
                  obtain ⟨vp, vn, vc, rfl⟩ := own_slice hown
                  go_wp2_with (first | (with_reducible refine wpList_loadO rfl 26 (.tmp 5) rfl qm m.cs.toArray 26 rfl hmw (by kernel_rfl) ?_) | (with_reducible refine wpList_storeAgg rfl 26 (.tmp 2) (.tmp 112) rfl w.heap.size m.cs.toArray rfl rfl 26 _ hAw (by kernel_rfl) rfl (men_one m) ?_))
                  refine bodyPost_ret (results_ctt2 (fn := Try.f11) Try.results11 rfl (setRow_hasO hAw) (by kernel_rfl) rfl rfl) rfl ?_
                  refine ⟨setRow_below hbW (Nat.le_refl _) hbW.size, .inr ⟨m, _, hM2.out, rfl, ?_⟩⟩
                  rw [← hnn.out, ← hN.out]
                  refine (setRow_alt _ w.heap.size _).own (own_mono hown (by omega)) (fun x e => ?_)
                  have := (hown.lt x e).1
                  omega
                · have hM2 : outM bs = none := by rw [houtM.out, bodyOk_hd, ← hN.out]; simp [hend]
                  have hz : (((posB bs n k : Nat) : Int) != bs.length) = true := by rw [bne_iff_ne]; omega
                  replace hend := Lib.hid hend
                  replace hM2 := Lib.hid hM2
                  go_wp2_with (refine wpList_storeAgg rfl 26 (.tmp 2) (.tmp 111) rfl w.heap.size zeroMen.cs.toArray rfl rfl 26 _ hAw hi26.out rfl hone.out ?_)
                  refine bodyPost_ret (results_ctt2 (fn := Try.f11) Try.results11 rfl (setRow_hasO hAw) (by kernel_rfl) rfl rfl) rfl ?_
                  exact ⟨setRow_below hbW (Nat.le_refl _) hbW.size, .inl ⟨hM2.out, rfl⟩⟩
          · have hn2 : ¬ (countN m : Int) ≤ 262144 := by omega
            have hM2 := Lib.hid (outM_none (show headM bs = none by rw [hM.out, hpc.out]; simp [hn]))
            go_wp2_with (refine wpList_storeAgg rfl 26 (.tmp 2) (.tmp 44) rfl w.heap.size zeroMen.cs.toArray rfl rfl 26 _ hA3 hi26.out rfl hone.out ?_)
            refine bodyPost_ret (results_ctt2 (fn := Try.f11) Try.results11 rfl (setRow_hasO hA3) (by kernel_rfl) rfl rfl) rfl ?_
            exact ⟨setRow_below hb5 (Nat.le_refl _) hb5.size, .inl ⟨hM2.out, rfl⟩⟩
theorem refOutline_any (p : Option Addr) (c : Nat) (bs : List Int) (w : World) (hx : Arr .u8 w p bs) (hbs : isBytes bs) (hl : bs.length ≤ 2000000) (hc : bs.length ≤ c) :
    Calls Try.prog 11 #[.slice p bs.length c] w (OutlR w bs) := refOutline_wide p c bs w hx hbs (by omega) hc
end Go.Proofs.Ytddkhnnpeonbgaa
