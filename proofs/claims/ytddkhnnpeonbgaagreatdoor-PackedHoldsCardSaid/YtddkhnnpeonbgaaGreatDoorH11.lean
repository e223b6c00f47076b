import Derived.Test.YtddkhnnpeonbgaaGreatDoorH09
import Derived.Test.YtddkhnnpeonbgaaGreatDoorH10
namespace Go.Proofs.YtddkhnnpeonbgaaGreatDoor
open Go.RowKit

def parseR (s : List UInt8) : Value := .tuple (match parseC s with | some m => #[.agg m.cs.toArray, .bool true] | none => #[.agg zeroMen.cs.toArray, .bool false])

theorem u8_eq {a b : UInt8} (h : (a.toNat : Int) = b.toNat) : a = b := UInt8.toNat_inj.1 (by omega)
theorem str_index (l : List UInt8) {i : Nat} (h : i < l.length) (W : World) : (Instr.index 9 (.string (str l)) (.int .i64 i)).run Tryz.prog W = .ok (.int .u8 ((l[i]?.getD 0).toNat : Int)) W := by
 have hz : (str l).size = l.length := str_size l
 have hi : i < (str l).size := by omega
 have e : ((str l)[i]'hi) = l[i]'h := rfl
 simp [Instr.index, go_sem, hz, h, e]

set_option maxRecDepth 100000 in
set_option maxHeartbeats 2000000 in
theorem refParse_any (s : List UInt8) (w : World) (hs : s.length ≤ 2000000) : Calls Tryz.prog 48 #[.string (str s)] w fun e w' => e = .returned (parseR s) ∧ Below w.heap.size w w' := by
 have hz := str_size s
 have hR := HasO.new w (.cells zeroMen.cs.toArray 41)
 have hb := below_box w (.cells zeroMen.cs.toArray 41)
 have hi26 : Hid ((Tryz.prog.info? 41).map (·.size) = some zeroMen.cs.toArray.size) := Lib.hid (by kernel_rfl)
 have hone : Hid (zeroMen.cs.toArray.all (·.oneCell') = true) := Lib.hid (by kernel_rfl)
 go_enter Tryz.func48, Tryz.ntmps48
 by_cases hl : s.length < 6 ∨ 10 < s.length
 ·have hpv := Lib.hid (parse_len hl)
  by_cases hl1 : s.length < 6
  ·have hl2 : (s.length : Int) < 6 := by omega
   clear hl
   go_wp2_with fail
   exact bodyPost_ret (results_ct (fn := Tryz.f48) Tryz.results48 rfl hR (by kernel_rfl) hi26.out rfl) rfl ⟨ret_v (by unfold parseR; rw [hpv.out]; rfl), hb⟩
  ·have hl2 : ¬ (s.length : Int) < 6 := by omega
   have hl3 : (10 : Int) < s.length := by omega
   clear hl
   go_wp2_with fail
   exact bodyPost_ret (results_ct (fn := Tryz.f48) Tryz.results48 rfl hR (by kernel_rfl) hi26.out rfl) rfl ⟨ret_v (by unfold parseR; rw [hpv.out]; rfl), hb⟩
 ·have hl1 : 6 ≤ s.length := by omega
  have hl2 : s.length ≤ 10 := by omega
  have hl3 : ¬ (s.length : Int) < 6 := by omega
  have hl4 : ¬ (10 : Int) < s.length := by omega
  clear hl
  have hi0 : ∀ W : World, (Instr.index 9 (.string (str s)) (.int .i64 0)).run Tryz.prog W = .ok (.int .u8 ((s[0]?.getD 0).toNat : Int)) W := fun W => str_index s (i := 0) (by omega) W
  have hi2 : ∀ W : World, (Instr.index 9 (.string (str s)) (.int .i64 2)).run Tryz.prog W = .ok (.int .u8 ((s[2]?.getD 0).toNat : Int)) W := fun W => str_index s (i := 2) (by omega) W
  have ha : ((s[0]?.getD 0).toNat : Int) < 256 := by have := (s[0]?.getD 0).toNat_lt; omega
  have hc : ((s[2]?.getD 0).toNat : Int) < 256 := by have := (s[2]?.getD 0).toNat_lt; omega
  replace hi0 := Lib.hid hi0
  replace hi2 := Lib.hid hi2
  go_wp2_with fail
  have hR : HasO (w.alloc (.cells #[.int .i64 0, .int .i64 0, .int .i64 0, .int .i64 0, .int .i64 0, .int .i64 0, .int .i64 0, .int .i64 0, .int .i64 0, .int .i64 0, .int .i64 0, .int .i64 0] 41)) w.heap.size (.cells zeroMen.cs.toArray 41 (0, 0)) := hR
  have hb : Below w.heap.size w (w.alloc (.cells #[.int .i64 0, .int .i64 0, .int .i64 0, .int .i64 0, .int .i64 0, .int .i64 0, .int .i64 0, .int .i64 0, .int .i64 0, .int .i64 0, .int .i64 0, .int .i64 0] 41)) := hb
  generalize w.alloc (.cells #[.int .i64 0, .int .i64 0, .int .i64 0, .int .i64 0, .int .i64 0, .int .i64 0, .int .i64 0, .int .i64 0, .int .i64 0, .int .i64 0, .int .i64 0, .int .i64 0] 41) = wA at *
  refine wp_region_detL (by kernel_rfl) (by kernel_rfl) [some 17, some 18, some 19, some 20, some 21, some 22, some 23, some 24, some 25, some 26, some 4, none] (by rfl) (by rfl) (r5v (str s) (s[0]?.getD 0).toNat (s[2]?.getD 0).toNat wA.heap.size) (r5w wA (s[0]?.getD 0).toNat (s[2]?.getD 0).toNat) (fun S S' h => by simp only [r5w, h 10 (by decide), h 11 (by decide)]) rfl ?hstep ?hend
  case hstep =>
   have hi0 := hi0.out
   have hi2 := hi2.out
   have e1 : IntKind.i64.wrap ((s[0]?.getD 0).toNat : Int) = (s[0]?.getD 0).toNat := IntWalk.i64_in _ (by omega)
   have e2 : IntKind.i64.wrap ((s[2]?.getD 0).toNat : Int) = (s[2]?.getD 0).toNat := IntWalk.i64_in _ (by omega)
   have e3 : IntKind.i64.wrap (((s[0]?.getD 0).toNat : Int) - 48) = (s[0]?.getD 0).toNat - 48 := IntWalk.i64_in _ (by omega)
   have e4 : IntKind.i64.wrap (((s[2]?.getD 0).toNat : Int) - 48) = (s[2]?.getD 0).toNat - 48 := IntWalk.i64_in _ (by omega)
   intro S i o f ho hi hSi hpre hcl hf K hK
   have hi : i < 12 := hi
   rcases (by omega : i = 0 ∨ i = 1 ∨ i = 2 ∨ i = 3 ∨ i = 4 ∨ i = 5 ∨ i = 6 ∨ i = 7 ∨ i = 8 ∨ i = 9 ∨ i = 10 ∨ i = 11) with rfl | rfl | rfl | rfl | rfl | rfl | rfl | rfl | rfl | rfl | rfl | rfl
   all_goals (injection ho with ho; subst ho)
   all_goals (simp [Region.binds] at hpre hf)
   all_goals (simp only [putL] at hK ⊢)
   all_goals (try rw [r5w_keep (by decide)] at hK)
   all_goals (simp only [r5v] at hK)
   all_goals (try simp only [r5v] at hf)
   all_goals (try simp only [hf] at hK ⊢)
   all_goals (try simp only [hi0, hi2])
   rotate_left 10
   ·have h11 : S 11 = false := by
     rcases h : S 11 with _ | _
     ·rfl
     ·have := hcl 11 _ h rfl ⟨10, .data⟩ (by simp) rfl
      rw [hSi] at this; cases this
    rw [r5w_10 h11] at hK
    rw [r5w_no h11 hSi]
    revert hK
    go_simp
    exact id
   ·have h10 : S 10 = true := hpre.1
    rw [r5w_11] at hK
    rw [r5w_mid hSi h10]
    rw [if_pos (show Region.wanted _ _ = true from rfl)]
    with_reducible refine wp_store_row 41 (.tmp 4) (.tmp 26) ?_ wA.heap.size (startMen ((s[0]?.getD 0).toNat - 48) ((s[2]?.getD 0).toNat - 48)).cs.toArray ?_ ?_ 41 zeroMen.cs.toArray ?_ ?_ ?_ ?_ ?_
    ·rfl
    ·go_simp
    ·go_simp
    ·exact HasO.new' _ _ rfl
    ·exact hi26.out
    ·rfl
    ·exact men_one _
    ·exact hK
   all_goals (try revert hK)
   all_goals (try go_simp)
   all_goals (try simp only [e1, e2, e3, e4])
   all_goals (exact id)
  case hend =>
   intro S hS
   have hw11 : r5w wA (s[0]?.getD 0).toNat (s[2]?.getD 0).toNat S = (wA.drew.alloc (.cells zeroMen.cs.toArray 41)).setRow wA.heap.size (startMen ((s[0]?.getD 0).toNat - 48) ((s[2]?.getD 0).toNat - 48)).cs.toArray := by simp [r5w, hS 11 (by decide)]
   rw [hw11]
   have hM := setRow_hasO (w := wA.drew.alloc (.cells zeroMen.cs.toArray 41)) (g := wA.heap.size) (cells := (startMen ((s[0]?.getD 0).toNat - 48) ((s[2]?.getD 0).toNat - 48)).cs.toArray) (HasO.new' _ _ rfl)
   have hne : w.heap.size < wA.heap.size := hR.lt
   have hR3 := (hR.drew.alloc (.cells zeroMen.cs.toArray 41)).setRow_far (g := wA.heap.size) (cells := (startMen ((s[0]?.getD 0).toNat - 48) ((s[2]?.getD 0).toNat - 48)).cs.toArray) (by omega)
   have hb3 := setRow_below (g := wA.heap.size) (cells := (startMen ((s[0]?.getD 0).toNat - 48) ((s[2]?.getD 0).toNat - 48)).cs.toArray) (hb.drew.alloc hb.size (.cells zeroMen.cs.toArray 41)) hb.size (hb.drew.alloc hb.size (.cells zeroMen.cs.toArray 41)).size
   generalize (wA.drew.alloc (.cells zeroMen.cs.toArray 41)).setRow wA.heap.size (startMen ((s[0]?.getD 0).toNat - 48) ((s[2]?.getD 0).toNat - 48)).cs.toArray = wp at *
   generalize wA.heap.size = qm at *
   clear hw11 hS hR hb
   simp only [putL, r5v]
   have hM : HasO wp qm (.cells (refSt (((s[0]?.getD 0).toNat : Int) - 48) (((s[2]?.getD 0).toNat : Int) - 48) s 0).1.cs.toArray 41 (0, 0)) := hM
   have hpc := parse_ref s
   unfold refCand at hpc
   replace hpc := Lib.hid hpc
   generalize (((s[0]?.getD 0).toNat : Int) - 48) = x0 at *
   generalize (((s[2]?.getD 0).toNat : Int) - 48) = y0 at *
   go_wp2_with fail
   go_loopg [5, 6] 6 (fun q kg iv wr => ∃ i, q + i = 6 ∧ i + 4 ≤ s.length ∧ kg = .int .i64 (refSt x0 y0 s i).2 ∧ iv = .int .i64 (4 + (i : Int)) ∧ Below w.heap.size w wr ∧ HasO wr w.heap.size (.cells zeroMen.cs.toArray 41 (0, 0)) ∧ HasO wr qm (.cells (refSt x0 y0 s i).1.cs.toArray 41 (0, 0)))
   case atStart => exact ⟨0, rfl, by omega, rfl, rfl, hb3, hR3, hM⟩
   case round =>
    clear hM hR3 hb3
    obtain ⟨i, hq, hi4, rfl, rfl, hb, hR, hM⟩ := hrel
    obtain ⟨g1, hg1⟩ : ∃ x, x = gk := ⟨_, rfl⟩
    subst hg1
    by_cases hi : i + 4 < s.length
    ·have hii : 4 + (i : Int) < s.length := by omega
     have hbd := refSt_bd x0 y0 s i
     have hsc := Lib.hid (refSt_succ x0 y0 s hi)
     generalize hcd : s[i + 4]?.getD 0 = c at *
     have hidx : ∀ W : World, (Instr.index 9 (.string (str s)) (.int .i64 (4 + (i : Int)))).run Tryz.prog W = .ok (.int .u8 (c.toNat : Int)) W := fun W => by
      have := str_index s hi W
      rw [hcd] at this
      rw [show (4 + (i : Int)) = ((i + 4 : Nat) : Int) by omega]; exact this
     generalize refSt x0 y0 s i = st at *
     clear hcd
     have hcc : ((c.toNat : Int) = 75 ∧ kgs st.2 c = st.2 + 1) ∨ (¬ (c.toNat : Int) = 75 ∧ kgs st.2 c = st.2) := by
      unfold kgs
      by_cases h : c = 75
      ·subst h; exact .inl ⟨rfl, rfl⟩
      ·refine .inr ⟨fun h2 => h (u8_eq (b := 75) h2), by simp [h]⟩
     have hbk := hbd.2
     have hbm := Lib.hid hbd.1
     clear hbd
     have hi6 : i < 6 := by omega
     have hkb : 0 ≤ kgs st.2 c ∧ kgs st.2 c ≤ 7 := by rcases hcc with h | h <;> omega
     rcases hcc with ⟨h75, hkg⟩ | ⟨h75, hkg⟩
     all_goals (
      replace hkg := Lib.hid hkg
      go_wp2_with fail
      rw [← hkg.out]
      obtain ⟨kv, hkv⟩ : ∃ x, x = kgs st.2 c := ⟨_, rfl⟩
      rw [← hkv] at hkb ⊢
      replace hkv := Lib.hid hkv
      go_loopg [7] 5 (fun q kk wr' => ∃ k : Nat, q + k = 5 ∧ kk = .int .i64 (k : Int) ∧ Below w.heap.size w wr' ∧ HasO wr' w.heap.size (.cells zeroMen.cs.toArray 41 (0, 0)) ∧ HasO wr' qm (.cells (inA st.1 (decide (kv = 1)) c k).cs.toArray 41 (0, 0)))
      case atStart => exact ⟨0, rfl, rfl, hb, hR, by rw [inA_zero]; exact hM⟩
      case round =>
       clear hb hR hM
       obtain ⟨k, hq2, rfl, hb, hR, hM⟩ := hrel
       by_cases hk : k < 5
       ·have hkk : (k : Int) < 5 := by omega
        have hpx : ∀ W : World, (Instr.index 9 (.string { data := #[80, 78, 66, 82, 81] }) (.int .i64 (k : Int))).run Tryz.prog W = .ok (.int .u8 ((pnL[k]?.getD 0).toNat : Int)) W := fun W => str_index pnL (i := k) hk W
        have hbk2 := hbm.out k hk
        have hsi := Lib.hid (inA_sw st.1 (decide (kv = 1)) c k hk)
        have hsj := Lib.hid (inA_sb st.1 (decide (kv = 1)) c k hk)
        have hc1 := hM.cells (2 + k)
        rw [show (inA st.1 (decide (kv = 1)) c k).cs.toArray[2 + k]? = some (.int .i64 (st.1.sw k)) from by
         have := (inA st.1 (decide (kv = 1)) c k).cs_w hk; rw [hsi.out, hit_self, Int.add_zero] at this; simpa using this] at hc1
        have hc2 := hM.cells (7 + k)
        rw [show (inA st.1 (decide (kv = 1)) c k).cs.toArray[7 + k]? = some (.int .i64 (st.1.sb k)) from by
         have := (inA st.1 (decide (kv = 1)) c k).cs_b hk; rw [hsj.out, hit_self, Int.add_zero] at this; simpa using this] at hc2
        have hf := hM.frozen
        have hlt := hM.lt
        have hcm : ((c.toNat : Int) = ((pnL[k]?.getD 0).toNat : Int) ∧ Hid (c = pnL[k]?.getD 0)) ∨ (¬ (c.toNat : Int) = ((pnL[k]?.getD 0).toNat : Int) ∧ Hid (c ≠ pnL[k]?.getD 0)) := by
         by_cases h : c = pnL[k]?.getD 0
         ·exact .inl ⟨by rw [← h], Lib.hid h⟩
         ·exact .inr ⟨fun h2 => h (u8_eq h2), Lib.hid h⟩
        generalize hpk : ((pnL[k]?.getD 0).toNat : Int) = pk at hpx hcm
        replace hpk := Lib.hid hpk
        have hw1 : IntKind.i64.wrap (st.1.sw k + 1) = st.1.sw k + 1 := IntWalk.i64_in _ (by omega)
        have hw2 : IntKind.i64.wrap (st.1.sb k + 1) = st.1.sb k + 1 := IntWalk.i64_in _ (by omega)
        rcases hcm with ⟨hcp, hcq⟩ | ⟨hcp, hcq⟩
        ·by_cases hv1 : kv = 1
         ·have hmm := Lib.hid (inA_w (m := st.1) hk hcq.out)
          have hMw : HasO wr qm (.cells (inA st.1 true c k).cs.toArray 41 (0, 0)) := by rw [show (decide (kv = 1)) = true by simp [hv1]] at hM; exact hM
          clear hM
          go_wp2_with fail
          go_quiet (fail)
          go_wp2_with fail
          go_roundg (gk - 1)
          case measure => omega
          case rel =>
           refine ⟨k + 1, by omega, by go_num, (below_drewN hb _).setCell (Nat.le_of_lt hne) _, (hR.drewN _).far (show w.heap.size ≠ qm by omega) _, ?_⟩
           rw [show (decide (kv = 1)) = true by simp [hv1], ← hmm.out]
           exact (hMw.drewN _).set_ _ _
         ·have hmm := Lib.hid (inA_b (m := st.1) hk hcq.out)
          have hMw : HasO wr qm (.cells (inA st.1 false c k).cs.toArray 41 (0, 0)) := by rw [show (decide (kv = 1)) = false by simp [hv1]] at hM; exact hM
          clear hM
          go_wp2_with fail
          go_quiet (fail)
          go_wp2_with fail
          go_roundg (gk - 1)
          case measure => omega
          case rel =>
           refine ⟨k + 1, by omega, by go_num, (below_drewN hb _).setCell (Nat.le_of_lt hne) _, (hR.drewN _).far (show w.heap.size ≠ qm by omega) _, ?_⟩
           rw [show (decide (kv = 1)) = false by simp [hv1], ← hmm.out]
           exact (hMw.drewN _).set_ _ _
        ·have hmm := Lib.hid (inA_miss (m := st.1) (b := decide (kv = 1)) hcq.out)
         go_wp2_with fail
         go_quiet (fail)
         go_wp2_with fail
         go_roundg (gk - 1)
         case measure => omega
         case rel => exact ⟨k + 1, by omega, by go_num, below_drewN hb _, hR.drewN _, by rw [hmm.out]; exact hM.drewN _⟩
       ·obtain rfl : k = 5 := by omega
        have hMs : HasO wr qm (.cells (stp st c).1.cs.toArray 41 (0, 0)) := by unfold stp; rw [← hkv.out]; exact hM
        go_wp2_with fail
        go_roundg (g1 - 1)
        case measure => omega
        case rel =>
         refine ⟨i + 1, by omega, by omega, by rw [hsc.out]; unfold stp; rw [← hkv.out], by go_num, hb, hR, ?_⟩
         rw [hsc.out]; exact hMs)
    ·have hin : i = s.length - 4 := by omega
     have hM5 : HasO wr qm (.cells (refSt x0 y0 s (s.length - 4)).1.cs.toArray 41 (0, 0)) := by rw [← hin]; exact hM
     have hpc := hpc.out
     have hii : ¬ 4 + (i : Int) < s.length := by omega
     clear hM
     generalize (refSt x0 y0 s (s.length - 4)).1 = m at *
     have hc := hM5.cells
     have hqs : qm < wr.heap.size := hM5.lt
     go_wp2_with fail
     refine (refValid_any m _).mono ?_
     rintro e w3 ⟨rfl, hb3⟩
     have hR4 := hR.call hb3
     have hM6 := hM5.call hb3
     have hb4 := below_call hb hb.size hb3
     clear hc hR hM5 hb hb3 hqs
     rcases hv : validB m with _ | _
     ·have hpv := Lib.hid (show parseC s = none by rw [hpc, if_neg (by rintro ⟨h, _⟩; rw [hv] at h; cases h)])
      replace hpc := Lib.hid hpc
      go_wp2_with (with_reducible refine wpList_storeAgg rfl 41 (.tmp 2) (.tmp 74) rfl w.heap.size zeroMen.cs.toArray ?_ ?_ 41 _ hR4 ?_ ?_ ?_ ?_)
      ·rfl
      ·rfl
      ·exact hi26.out
      ·rfl
      ·exact hone.out
      exact bodyPost_ret (results_ct (fn := Tryz.f48) Tryz.results48 rfl (setRow_hasO hR4) (by kernel_rfl) hi26.out rfl) rfl ⟨ret_v (by unfold parseR; rw [hpv.out]; rfl), setRow_below hb4 (Nat.le_refl _) hb4.size⟩
     ·have hV := Lib.hid hv
      have hc := hM6.cells
      have hqs : qm < w3.heap.size := hM6.lt
      go_wp2_with fail
      refine (refText_any m _ hV).mono ?_
      rintro e w4 ⟨rfl, hb5⟩
      have hR7 := hR4.call hb5
      have hM7 := hM6.call hb5
      have hb7 := below_call hb4 hb4.size hb5
      clear hc hR4 hM6 hb4 hb5 hqs
      by_cases ht : textL m = s
      ·have hpv := Lib.hid (show parseC s = some m by rw [hpc, if_pos ⟨hv, ht⟩])
       replace hpc := Lib.hid hpc
       have hbs : ((str (textL m)).toList == (str s).toList) = true := by rw [str_beq]; simp [ht]
       have hc := hM7.cells
       have hqs : qm < w4.heap.size := hM7.lt
       have him : Hid ((Tryz.prog.info? 41).map (·.size) = some m.cs.toArray.size) := hi26
       replace ht := Lib.hid ht
       go_wp2_with (with_reducible refine wpList_storeAgg rfl 41 (.tmp 2) (.tmp 75) rfl w.heap.size m.cs.toArray ?_ ?_ 41 _ hR7 ?_ ?_ ?_ ?_)
       ·rfl
       ·rfl
       ·exact him.out
       ·rfl
       ·exact men_one m
       exact bodyPost_ret (results_ct (fn := Tryz.f48) Tryz.results48 rfl (setRow_hasO hR7) (by kernel_rfl) him.out rfl) rfl ⟨ret_v (by unfold parseR; rw [hpv.out]; rfl), setRow_below hb7 (Nat.le_refl _) hb7.size⟩
      ·have hpv := Lib.hid (show parseC s = none by rw [hpc, if_neg (by rintro ⟨_, h⟩; exact ht h)])
       replace hpc := Lib.hid hpc
       have hbs : ((str (textL m)).toList == (str s).toList) = false := by rw [str_beq]; simp [ht]
       replace ht := Lib.hid ht
       go_wp2_with (with_reducible refine wpList_storeAgg rfl 41 (.tmp 2) (.tmp 74) rfl w.heap.size zeroMen.cs.toArray ?_ ?_ 41 _ hR7 ?_ ?_ ?_ ?_)
       ·rfl
       ·rfl
       ·exact hi26.out
       ·rfl
       ·exact hone.out
       exact bodyPost_ret (results_ct (fn := Tryz.f48) Tryz.results48 rfl (setRow_hasO hR7) (by kernel_rfl) hi26.out rfl) rfl ⟨ret_v (by unfold parseR; rw [hpv.out]; rfl), setRow_below hb7 (Nat.le_refl _) hb7.size⟩
end Go.Proofs.YtddkhnnpeonbgaaGreatDoor
namespace Go.Proofs.YtddkhnnpeonbgaaGreatDoor
open Go.RowKit

def Arr (k : IntKind) (w : World) (p : Option Addr) (xs : List Int) : Prop :=
 xs = [] ∨ ∃ b o, p = some ⟨b, o, none⟩ ∧ b < w.heap.size ∧ ∀ j, j < xs.length → w.cell? ⟨b, o + j, none⟩ = some (.int k (xs[j]?.getD 0))
theorem Arr.call {k : IntKind} {w w' : World} {p : Option Addr} {xs : List Int} (h : Arr k w p xs) (hb : Below w.heap.size w w') : Arr k w' p xs := by
 rcases h with h | ⟨b, o, rfl, hl, hc⟩
 ·exact .inl h
 ·exact .inr ⟨b, o, rfl, Nat.lt_of_lt_of_le hl hb.size, fun j hj => (hb.cell (p := ⟨b, o + j, none⟩) hl).trans (hc j hj)⟩
theorem Arr.drewN {k : IntKind} {w : World} {p : Option Addr} {xs : List Int} (h : Arr k w p xs) (n : Nat) : Arr k (w.drewN n) p xs := h
theorem Arr.at {k : IntKind} {w : World} {p : Option Addr} {xs : List Int} (h : Arr k w p xs) {i : Nat} (hi : i < xs.length) :
  ∃ b o, p = some ⟨b, o, none⟩ ∧ b < w.heap.size ∧ ∀ j, j < xs.length → w.cell? ⟨b, o + j, none⟩ = some (.int k (xs[j]?.getD 0)) := by
 rcases h with h | h
 ·subst h; simp at hi
 ·exact h
def badE (e : Int) : Bool := decide (e < 0) || decide (10002 < e)
theorem bad_any (e : Int) (w : World) : Calls Tryz.prog 111 #[.int .i16 e] w fun e' w' => e' = .returned (.bool (badE e)) ∧ w = w' := by
 go_enter Tryz.func111, Tryz.ntmps111
 by_cases h : e < 0
 ·have hb : Hid (badE e = true) := Lib.hid (by simp [badE, h])
  go_wp2_with fail
  go_ret
  exact ⟨by rw [hb.out]; rfl, rfl⟩
 ·by_cases h2 : 10002 < e
  ·have hb : Hid (badE e = true) := Lib.hid (by simp [badE, h2])
   go_wp2_with fail
   go_ret
   exact ⟨by rw [hb.out]; rfl, rfl⟩
  ·have hb : Hid (badE e = false) := Lib.hid (by simp [badE, h, h2])
   go_wp2_with fail
   go_ret
   exact ⟨by rw [hb.out]; rfl, rfl⟩

theorem indexBad_any (p : Option Addr) (c : Nat) (xs : List Int) (w : World) (hx : Arr .i16 w p xs) (hl : xs.length ≤ 1000000000) :
  Calls Tryz.prog 126 #[.slice p xs.length c, .func (.func 111) #[] #[]] w fun e w' => (∃ k : Int, e = .returned (.int .i64 k) ∧ (0 ≤ k ↔ xs.any badE = true)) ∧ Below w.heap.size w w' := by
 go_enter Tryz.func126, Tryz.ntmps126
 go_wp2_with fail
 go_loopg [8] 1000000001 (fun q iv wr => ∃ i : Nat, q + i = 1000000001 ∧ i ≤ xs.length ∧ iv = .int .i64 i ∧ Below w.heap.size w wr ∧ (xs.take i).any badE = false)
 case atStart => exact ⟨0, rfl, Nat.zero_le _, rfl, Below.refl _ _, rfl⟩
 case round =>
  obtain ⟨i, hq, hi, rfl, hb, ha⟩ := hrel
  replace ha := Lib.hid ha
  by_cases hlt : i < xs.length
  ·have hii : (i : Int) < xs.length := by omega
   obtain ⟨b, o, rfl, hbl, hc⟩ := (hx.call hb).at hlt
   have hci := hc i hlt
   have hget : xs[i]?.getD 0 = xs[i] := by simp [hlt]
   obtain ⟨x, hxv⟩ : ∃ x, x = xs[i]?.getD 0 := ⟨_, rfl⟩
   rw [← hxv] at hci hget
   replace hget := Lib.hid hget
   clear hc hxv
   go_wp2_with fail
   refine (bad_any _ _).mono ?_
   rintro e w1 ⟨rfl, rfl⟩
   rcases hbd : badE x with _ | _
   ·go_wp2_with fail
    go_roundg (gk - 1)
    case measure => omega
    case rel => exact ⟨i + 1, by omega, by omega, by go_num, hb, by rw [List.take_succ_eq_append_getElem hlt, List.any_append, ha.out]; simp [← hget.out, hbd]⟩
   ·go_wp2_with fail
    go_ret
    refine ⟨⟨i, rfl, ?_⟩, hb⟩
    constructor
    ·intro _; rw [List.any_eq_true]; exact ⟨xs[i], List.getElem_mem hlt, by rw [← hget.out]; exact hbd⟩
    ·intro _; omega
  ·have hii : ¬ (i : Int) < xs.length := by omega
   go_wp2_with fail
   go_ret
   refine ⟨⟨-1, rfl, ?_⟩, hb⟩
   have ha := ha.out
   rw [List.take_of_length_le (by omega)] at ha
   constructor
   ·intro h; omega
   ·rintro ⟨x, hx1, hx2⟩
    rw [List.any_eq_false] at ha
    exact absurd hx2 (by simpa using ha x hx1)

theorem hasBad_any (p : Option Addr) (c : Nat) (xs : List Int) (w : World) (hx : Arr .i16 w p xs) (hl : xs.length ≤ 1000000000) :
  Calls Tryz.prog 110 #[.slice p xs.length c, .func (.func 111) #[] #[]] w fun e w' => e = .returned (.bool (xs.any badE)) ∧ Below w.heap.size w w' := by
 go_enter Tryz.func110, Tryz.ntmps110
 go_wp2_with fail
 refine (indexBad_any p c xs w hx hl).mono ?_
 rintro e w1 ⟨⟨k, rfl, hk⟩, hb⟩
 replace hk := Lib.hid hk
 by_cases h : 0 ≤ k
 ·have hb2 := Lib.hid (hk.out.1 h)
  go_wp2_with fail
  go_ret
  exact ⟨by rw [hb2.out]; rfl, hb⟩
 ·have hb2 : Hid (xs.any badE = false) := Lib.hid (by rcases h2 : xs.any badE with _ | _; rfl; exact absurd (hk.out.2 h2) h)
  go_wp2_with fail
  go_ret
  exact ⟨ret_bool (show decide (0 ≤ k) = _ by rw [hb2.out]; simp; omega), hb⟩

abbrev tabCs (m : Men) (p : Option Addr) (n c : Nat) : List Value := m.cs ++ [.slice p n c]
def tabOk (m : Men) (xs : List Int) : Bool := validB m && decide (countN m ≤ 262144) && decide (countN m = xs.length) && !(xs.any badE)
theorem tabOk_ce (m : Men) (xs : List Int) : tabOk m xs = (decide ((cntE m).2 = 0) && decide ((cntE m).1 ≤ 262144) && decide ((cntE m).1 = (xs.length : Int)) && !(xs.any badE)) := by
 unfold tabOk cntE
 by_cases h : validB m = true
 ·by_cases h2 : countN m ≤ 1048576
  ·simp only [h, h2, if_true]
   congr 2
   ·congr 1
    simp only [decide_eq_decide]; omega
   ·simp only [decide_eq_decide]; omega
  ·simp only [h, h2, if_true, if_false]
   have : ¬ countN m ≤ 262144 := by omega
   simp [this]
 ·simp [h]

theorem tvalid_any (m : Men) (p : Option Addr) (c : Nat) (xs : List Int) (w : World) (hx : Arr .i16 w p xs) (hl : xs.length ≤ 1000000000) :
  Calls Tryz.prog 70 #[.agg (tabCs m p xs.length c).toArray] w fun e w' => e = .returned (.bool (tabOk m xs)) ∧ Below w.heap.size w w' := by
 have hT : HasO (w.alloc (.cells (tabCs m p xs.length c).toArray 44)) w.heap.size (.cells (tabCs m p xs.length c).toArray 44 (0, 0)) := HasO.new _ _
 have hb0 := below_box w (.cells (tabCs m p xs.length c).toArray 44)
 have hx0 := hx.call hb0
 have hs := Lib.hid (tabOk_ce m xs)
 go_enter Tryz.func70, Tryz.ntmps70
 go_wp2_with fail
 refine (Count_any m _).mono ?_
 rintro e w1 ⟨rfl, hb1⟩
 have hT1 := hT.call hb1
 have hb2 := below_call hb0 (by simp) hb1
 have hx1 := hx0.call hb1
 have hc := hT1.cells
 have hlt := hT1.lt
 generalize cntE m = ce at *
 obtain ⟨n, er⟩ := ce
 clear hT hb0 hx0 hb1
 by_cases h1 : er = 0
 ·subst h1
  by_cases h2 : n ≤ 262144
  ·by_cases h3 : n = (xs.length : Int)
   ·subst h3
    go_wp2_with fail
    refine (hasBad_any p c xs _ hx1 hl).mono ?_
    rintro e w2 ⟨rfl, hb3⟩
    have hb4 := below_call hb2 hb2.size hb3
    clear hc
    go_wp2_with fail
    go_ret
    exact ⟨by rw [hs.out]; simp [h2]; done, hb4⟩
   ·have hv : Hid (tabOk m xs = false) := Lib.hid (by rw [hs.out]; simp [h3])
    replace hs := True.intro
    go_wp2_with fail
    go_ret
    exact ⟨by rw [hv.out]; rfl, hb2⟩
  ·have hv : Hid (tabOk m xs = false) := Lib.hid (by rw [hs.out]; simp [h2])
   replace hs := True.intro
   go_wp2_with fail
   go_ret
   exact ⟨by rw [hv.out]; rfl, hb2⟩
 ·have hv : Hid (tabOk m xs = false) := Lib.hid (by rw [hs.out]; simp [h1])
  replace hs := True.intro
  go_wp2_with fail
  go_ret
  exact ⟨by rw [hv.out]; rfl, hb2⟩

theorem results_tmp5 {fn : Func} {t1 t2 t3 t4 t5 : Tmp} (h : fn.results = #[.tmp t1, .tmp t2, .tmp t3, .tmp t4, .tmp t5]) (tmps : Array Value) (w : World) (P : Program) :
  (results fn tmps).run P w = .ok (.tuple #[tmps.getD t1 undef, tmps.getD t2 undef, tmps.getD t3 undef, tmps.getD t4 undef, tmps.getD t5 undef]) w := by
 simp [results, h, go_sem]
theorem of_any (x : Int) (w : World) : Calls Tryz.prog 71 #[.int .i16 x] w fun e w' => (∃ d b, e = .returned (.tuple #[.int .i64 d, .bool b])) ∧ w = w' := by
 go_enter Tryz.func71, Tryz.ntmps71
 go_wp2_with fail
 go_ret2
 exact ⟨⟨_, _, rfl⟩, rfl⟩
theorem won_any (d : Int) (w : World) : Calls Tryz.prog 72 #[.int .i64 d] w fun e w' => (∃ b, e = .returned (.bool b)) ∧ w = w' := by
 go_enter Tryz.func72, Tryz.ntmps72
 go_wp2_with fail
 go_ret
 exact ⟨⟨_, rfl⟩, rfl⟩

def okErr : Bool → Int | true => 0 | false => 2
theorem tally_any (m : Men) (p : Option Addr) (c : Nat) (xs : List Int) (w : World) (hx : Arr .i16 w p xs) (hl : xs.length ≤ 1000000000) :
  Calls Tryz.prog 31 #[.agg (tabCs m p xs.length c).toArray] w fun e w' => (∃ a1 a2 a3 a4, e = .returned (.tuple #[.int .i64 a1, .int .i64 a2, .int .i64 a3, .int .i64 a4, .int .i64 (okErr (tabOk m xs))])) ∧ Below w.heap.size w w' := by
 have hT : HasO (w.alloc (.cells (tabCs m p xs.length c).toArray 44)) w.heap.size (.cells (tabCs m p xs.length c).toArray 44 (0, 0)) := HasO.new _ _
 have hb0 := below_box w (.cells (tabCs m p xs.length c).toArray 44)
 have hx0 := hx.call hb0
 go_enter Tryz.func31, Tryz.ntmps31
 go_wp2_with fail
 refine (tvalid_any m p c xs _ hx0 hl).mono ?_
 rintro e w1 ⟨rfl, hb1⟩
 have hT1 := hT.call hb1
 have hb2 := below_call hb0 (by simp) hb1
 have hx1 := hx0.call hb1
 clear hT hb0 hx0 hb1
 have hc := hT1.cells
 have hlt := hT1.lt
 rcases hok : tabOk m xs with _ | _
 ·have hv := Lib.hid hok
  go_wp2_with fail
  refine bodyPost_ret (results_tmp5 rfl _ _ _) rfl ?_
  exact ⟨⟨0, 0, 0, 0, by first | rfl | (rw [hv.out]; rfl)⟩, hb2⟩
 ·have hv := Lib.hid hok
  go_wp2_with fail
  go_loopg [2, 3, 4, 5, 17] 1000000001 (fun q a1 a2 a3 a4 iv wr => (∃ n, a1 = .int .i64 n) ∧ (∃ n, a2 = .int .i64 n) ∧ (∃ n, a3 = .int .i64 n) ∧ (∃ n, a4 = .int .i64 n) ∧ ∃ i : Nat, q + i = 1000000001 ∧ i ≤ xs.length ∧ iv = .int .i64 i ∧ Below w.heap.size w wr ∧ Arr .i16 wr p xs)
  case atStart => exact ⟨⟨0, rfl⟩, ⟨0, rfl⟩, ⟨0, rfl⟩, ⟨0, rfl⟩, 0, rfl, Nat.zero_le _, rfl, hb2, hx1⟩
  case round =>
   clear hc hT1 hlt hx1 hb2
   obtain ⟨⟨n1, rfl⟩, ⟨n2, rfl⟩, ⟨n3, rfl⟩, ⟨n4, rfl⟩, i, hq, hi, rfl, hb, hx1⟩ := hrel
   by_cases hlt : i < xs.length
   ·have hii : (i : Int) < xs.length := by omega
    obtain ⟨b, o, rfl, hbl, hc⟩ := hx1.at hlt
    have hci := hc i hlt
    obtain ⟨x, hxv⟩ : ∃ x, x = xs[i]?.getD 0 := ⟨_, rfl⟩
    rw [← hxv] at hci
    clear hc hxv
    go_wp2_with fail
    refine (of_any _ _).mono ?_
    rintro e w1 ⟨⟨d, db, rfl⟩, rfl⟩
    by_cases h1 : x = 1
    ·rcases hdb : db with _ | _
     ·go_wp2_with fail
      go_roundg (gk - 1)
      case measure => omega
      case rel => exact ⟨⟨_, rfl⟩, ⟨_, rfl⟩, ⟨_, rfl⟩, ⟨_, rfl⟩, i + 1, by omega, by omega, by go_num, hb, hx1⟩
     ·go_wp2_with fail
      go_roundg (gk - 1)
      case measure => omega
      case rel => exact ⟨⟨_, rfl⟩, ⟨_, rfl⟩, ⟨_, rfl⟩, ⟨_, rfl⟩, i + 1, by omega, by omega, by go_num, hb, hx1⟩
    ·rcases hdb : db with _ | _
     ·go_wp2_with fail
      go_roundg (gk - 1)
      case measure => omega
      case rel => exact ⟨⟨_, rfl⟩, ⟨_, rfl⟩, ⟨_, rfl⟩, ⟨_, rfl⟩, i + 1, by omega, by omega, by go_num, hb, hx1⟩
     ·go_wp2_with fail
      refine (won_any _ _).mono ?_
      rintro e w2 ⟨⟨wb, rfl⟩, rfl⟩
      rcases hwb : wb with _ | _
      ·go_wp2_with fail
       go_roundg (gk - 1)
       case measure => omega
       case rel => exact ⟨⟨_, rfl⟩, ⟨_, rfl⟩, ⟨_, rfl⟩, ⟨_, rfl⟩, i + 1, by omega, by omega, by go_num, hb, hx1⟩
      ·go_wp2_with fail
       go_roundg (gk - 1)
       case measure => omega
       case rel => exact ⟨⟨_, rfl⟩, ⟨_, rfl⟩, ⟨_, rfl⟩, ⟨_, rfl⟩, i + 1, by omega, by omega, by go_num, hb, hx1⟩
   ·have hii : ¬ (i : Int) < xs.length := by omega
    go_wp2_with fail
    refine bodyPost_ret (results_tmp5 rfl _ _ _) rfl ?_
    exact ⟨⟨n1, n2, n3, n4, by first | rfl | (rw [hv.out]; rfl)⟩, hb⟩
end Go.Proofs.YtddkhnnpeonbgaaGreatDoor
