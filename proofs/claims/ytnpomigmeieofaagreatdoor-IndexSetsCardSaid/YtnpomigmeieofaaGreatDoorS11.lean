import Derived.Test.YtnpomigmeieofaaGreatDoorS05
import Derived.Test.YtnpomigmeieofaaGreatDoorS09
import Derived.Test.YtnpomigmeieofaaGreatDoorS10
set_option maxHeartbeats 12800000
namespace Go.Proofs.YtnpomigmeieofaaGreatDoor
open Go.RowKit

def parseR (s : List UInt8) : Value := .tuple (match parseC s with | some m => #[.agg m.cs.toArray, .bool true] | none => #[.agg zeroMen.cs.toArray, .bool false])

theorem u8_eq {a b : UInt8} (h : (a.toNat : Int) = b.toNat) : a = b := UInt8.toNat_inj.1 (by omega)
theorem str_index (l : List UInt8) {i : Nat} (h : i < l.length) (W : World) : (Instr.index 9 (.string (str l)) (.int .i64 i)).run Tryz.prog W = .ok (.int .u8 ((l[i]?.getD 0).toNat : Int)) W := by
 have hz : (str l).size = l.length := str_size l
 have hi : i < (str l).size := by omega
 have e : ((str l)[i]'hi) = l[i]'h := rfl
 simp [Instr.index, go_sem, hz, h, e]

set_option maxRecDepth 100000 in
theorem refParse_any (s : List UInt8) (w : World) (hs : s.length ≤ 2000000) : Calls Tryz.prog 13 #[.string (str s)] w fun e w' => e = .returned (parseR s) ∧ Below w.heap.size w w' := by
 have hz := str_size s
 have hR := HasO.new w (.cells zeroMen.cs.toArray 26)
 have hb := below_box w (.cells zeroMen.cs.toArray 26)
 have hi26 : Hid ((Tryz.prog.info? 26).map (·.size) = some zeroMen.cs.toArray.size) := Lib.hid (by kernel_rfl)
 have hone : Hid (zeroMen.cs.toArray.all (·.oneCell') = true) := Lib.hid (by kernel_rfl)
 go_enter Tryz.func13, Tryz.ntmps13
 by_cases hl : s.length < 6 ∨ 10 < s.length
 ·have hpv := Lib.hid (parse_len hl)
  by_cases hl1 : s.length < 6
  ·have hl2 : (s.length : Int) < 6 := by omega
   clear hl
   go_wp2_with fail
   exact bodyPost_ret (results_ct (fn := Tryz.f13) Tryz.results13 rfl hR (by kernel_rfl) hi26.out rfl) rfl ⟨ret_v (by unfold parseR; rw [hpv.out]; rfl), hb⟩
  ·have hl2 : ¬ (s.length : Int) < 6 := by omega
   have hl3 : (10 : Int) < s.length := by omega
   clear hl
   go_wp2_with fail
   exact bodyPost_ret (results_ct (fn := Tryz.f13) Tryz.results13 rfl hR (by kernel_rfl) hi26.out rfl) rfl ⟨ret_v (by unfold parseR; rw [hpv.out]; rfl), hb⟩
 ·have hl1 : 6 ≤ s.length := by omega
  have hl2 : s.length ≤ 10 := by omega
  have hl3 : ¬ (s.length : Int) < 6 := by omega
  have hl4 : ¬ (10 : Int) < s.length := by omega
  clear hl
  have hi0 : ∀ W : World, (Instr.index 9 (.string (str s)) (.int .i64 0)).run Tryz.prog W = .ok (.int .u8 ((s[0]?.getD 0).toNat : Int)) W := fun W => str_index s (i := 0) (by omega) W
  have hi2 : ∀ W : World, (Instr.index 9 (.string (str s)) (.int .i64 2)).run Tryz.prog W = .ok (.int .u8 ((s[2]?.getD 0).toNat : Int)) W := fun W => str_index s (i := 2) (by omega) W
  have ha : ((s[0]?.getD 0).toNat : Int) < 256 := by have := (s[0]?.getD 0).toNat_lt; omega
  have hc : ((s[2]?.getD 0).toNat : Int) < 256 := by have := (s[2]?.getD 0).toNat_lt; omega
  replace hi0 := Lib.hid hi0
  replace hi2 := Lib.hid hi2
  go_wp2_with fail
  have hR : HasO (w.alloc (.cells #[.int .i64 0, .int .i64 0, .int .i64 0, .int .i64 0, .int .i64 0, .int .i64 0, .int .i64 0, .int .i64 0, .int .i64 0, .int .i64 0, .int .i64 0, .int .i64 0] 26)) w.heap.size (.cells zeroMen.cs.toArray 26 (0, 0)) := hR
  have hb : Below w.heap.size w (w.alloc (.cells #[.int .i64 0, .int .i64 0, .int .i64 0, .int .i64 0, .int .i64 0, .int .i64 0, .int .i64 0, .int .i64 0, .int .i64 0, .int .i64 0, .int .i64 0, .int .i64 0] 26)) := hb
  generalize w.alloc (.cells #[.int .i64 0, .int .i64 0, .int .i64 0, .int .i64 0, .int .i64 0, .int .i64 0, .int .i64 0, .int .i64 0, .int .i64 0, .int .i64 0, .int .i64 0, .int .i64 0] 26) = wA at *
  refine wp_region_detL (by kernel_rfl) (by kernel_rfl) [some 17, some 18, some 19, some 20, some 21, some 22, some 23, some 24, some 25, some 26, some 4, none] (by rfl) (by rfl) (r5v (str s) (s[0]?.getD 0).toNat (s[2]?.getD 0).toNat wA.heap.size) (r5w wA (s[0]?.getD 0).toNat (s[2]?.getD 0).toNat) (fun S S' h => by simp only [r5w, h 10 (by decide), h 11 (by decide)]) rfl ?hstep ?hend
  case hstep =>
   have hi0 := hi0.out
   have hi2 := hi2.out
   have e1 : IntKind.i64.wrap ((s[0]?.getD 0).toNat : Int) = (s[0]?.getD 0).toNat := IntWalk.i64_in _ (by omega)
   have e2 : IntKind.i64.wrap ((s[2]?.getD 0).toNat : Int) = (s[2]?.getD 0).toNat := IntWalk.i64_in _ (by omega)
   have e3 : IntKind.i64.wrap (((s[0]?.getD 0).toNat : Int) - 48) = (s[0]?.getD 0).toNat - 48 := IntWalk.i64_in _ (by omega)
   have e4 : IntKind.i64.wrap (((s[2]?.getD 0).toNat : Int) - 48) = (s[2]?.getD 0).toNat - 48 := IntWalk.i64_in _ (by omega)
   intro S i o f ho hi hSi hpre hcl hf K hK
   have hi : i < 12 := hi
   rcases (by omega : i = 0 ∨ i = 1 ∨ i = 2 ∨ i = 3 ∨ i = 4 ∨ i = 5 ∨ i = 6 ∨ i = 7 ∨ i = 8 ∨ i = 9 ∨ i = 10 ∨ i = 11) with rfl | rfl | rfl | rfl | rfl | rfl | rfl | rfl | rfl | rfl | rfl | rfl
   all_goals (injection ho with ho; subst ho)
   all_goals (simp [Region.binds] at hpre hf)
   all_goals (simp only [putL] at hK ⊢)
   all_goals (try rw [r5w_keep (by decide)] at hK)
   all_goals (simp only [r5v] at hK)
   all_goals (try simp only [r5v] at hf)
   all_goals (try simp only [hf] at hK ⊢)
   all_goals (try simp only [hi0, hi2])
   rotate_left 10
   ·have h11 : S 11 = false := by
     rcases h : S 11 with _ | _
     ·rfl
     ·have := hcl 11 _ h rfl ⟨10, .data⟩ (by simp) rfl
      rw [hSi] at this; cases this
    rw [r5w_10 h11] at hK
    rw [r5w_no h11 hSi]
    revert hK
    go_simp
    exact id
   ·have h10 : S 10 = true := hpre.1
    rw [r5w_11] at hK
    rw [r5w_mid hSi h10]
    rw [if_pos (show Region.wanted _ _ = true from rfl)]
    with_reducible refine wp_store_row 26 (.tmp 4) (.tmp 26) ?_ wA.heap.size (startMen ((s[0]?.getD 0).toNat - 48) ((s[2]?.getD 0).toNat - 48)).cs.toArray ?_ ?_ 26 zeroMen.cs.toArray ?_ ?_ ?_ ?_ ?_
    ·rfl
    ·go_simp
    ·go_simp
    ·exact HasO.new' _ _ rfl
    ·exact hi26.out
    ·rfl
    ·exact men_one _
    ·exact hK
   all_goals (try revert hK)
   all_goals (try go_simp)
   all_goals (try simp only [e1, e2, e3, e4])
   all_goals (exact id)
  case hend =>
   intro S hS
   have hw11 : r5w wA (s[0]?.getD 0).toNat (s[2]?.getD 0).toNat S = (wA.drew.alloc (.cells zeroMen.cs.toArray 26)).setRow wA.heap.size (startMen ((s[0]?.getD 0).toNat - 48) ((s[2]?.getD 0).toNat - 48)).cs.toArray := by simp [r5w, hS 11 (by decide)]
   rw [hw11]
   have hM := setRow_hasO (w := wA.drew.alloc (.cells zeroMen.cs.toArray 26)) (g := wA.heap.size) (cells := (startMen ((s[0]?.getD 0).toNat - 48) ((s[2]?.getD 0).toNat - 48)).cs.toArray) (HasO.new' _ _ rfl)
   have hne : w.heap.size < wA.heap.size := hR.lt
   have hR3 := (hR.drew.alloc (.cells zeroMen.cs.toArray 26)).setRow_far (g := wA.heap.size) (cells := (startMen ((s[0]?.getD 0).toNat - 48) ((s[2]?.getD 0).toNat - 48)).cs.toArray) (by omega)
   have hb3 := setRow_below (g := wA.heap.size) (cells := (startMen ((s[0]?.getD 0).toNat - 48) ((s[2]?.getD 0).toNat - 48)).cs.toArray) (hb.drew.alloc hb.size (.cells zeroMen.cs.toArray 26)) hb.size (hb.drew.alloc hb.size (.cells zeroMen.cs.toArray 26)).size
   generalize (wA.drew.alloc (.cells zeroMen.cs.toArray 26)).setRow wA.heap.size (startMen ((s[0]?.getD 0).toNat - 48) ((s[2]?.getD 0).toNat - 48)).cs.toArray = wp at *
   generalize wA.heap.size = qm at *
   clear hw11 hS hR hb
   simp only [putL, r5v]
   have hM : HasO wp qm (.cells (refSt (((s[0]?.getD 0).toNat : Int) - 48) (((s[2]?.getD 0).toNat : Int) - 48) s 0).1.cs.toArray 26 (0, 0)) := hM
   have hpc := parse_ref s
   unfold refCand at hpc
   replace hpc := Lib.hid hpc
   generalize (((s[0]?.getD 0).toNat : Int) - 48) = x0 at *
   generalize (((s[2]?.getD 0).toNat : Int) - 48) = y0 at *
   go_wp2_with fail
   go_loopg [5, 6] 6 (fun q kg iv wr => ∃ i, q + i = 6 ∧ i + 4 ≤ s.length ∧ kg = .int .i64 (refSt x0 y0 s i).2 ∧ iv = .int .i64 (4 + (i : Int)) ∧ Below w.heap.size w wr ∧ HasO wr w.heap.size (.cells zeroMen.cs.toArray 26 (0, 0)) ∧ HasO wr qm (.cells (refSt x0 y0 s i).1.cs.toArray 26 (0, 0)))
   case atStart => exact ⟨0, rfl, by omega, rfl, rfl, hb3, hR3, hM⟩
   case round =>
    clear hM hR3 hb3
    obtain ⟨i, hq, hi4, rfl, rfl, hb, hR, hM⟩ := hrel
    obtain ⟨g1, hg1⟩ : ∃ x, x = gk := ⟨_, rfl⟩
    subst hg1
    by_cases hi : i + 4 < s.length
    ·have hii : 4 + (i : Int) < s.length := by omega
     have hbd := refSt_bd x0 y0 s i
     have hsc := Lib.hid (refSt_succ x0 y0 s hi)
     generalize hcd : s[i + 4]?.getD 0 = c at *
     have hidx : ∀ W : World, (Instr.index 9 (.string (str s)) (.int .i64 (4 + (i : Int)))).run Tryz.prog W = .ok (.int .u8 (c.toNat : Int)) W := fun W => by
      have := str_index s hi W
      rw [hcd] at this
      rw [show (4 + (i : Int)) = ((i + 4 : Nat) : Int) by omega]; exact this
     generalize refSt x0 y0 s i = st at *
     clear hcd
     have hcc : ((c.toNat : Int) = 75 ∧ kgs st.2 c = st.2 + 1) ∨ (¬ (c.toNat : Int) = 75 ∧ kgs st.2 c = st.2) := by
      unfold kgs
      by_cases h : c = 75
      ·subst h; exact .inl ⟨rfl, rfl⟩
      ·refine .inr ⟨fun h2 => h (u8_eq (b := 75) h2), by simp [h]⟩
     have hbk := hbd.2
     have hbm := Lib.hid hbd.1
     clear hbd
     have hi6 : i < 6 := by omega
     have hkb : 0 ≤ kgs st.2 c ∧ kgs st.2 c ≤ 7 := by rcases hcc with h | h <;> omega
     rcases hcc with ⟨h75, hkg⟩ | ⟨h75, hkg⟩
     all_goals (
      replace hkg := Lib.hid hkg
      go_wp2_with fail
      rw [← hkg.out]
      obtain ⟨kv, hkv⟩ : ∃ x, x = kgs st.2 c := ⟨_, rfl⟩
      rw [← hkv] at hkb ⊢
      replace hkv := Lib.hid hkv
      go_loopg [7] 5 (fun q kk wr' => ∃ k : Nat, q + k = 5 ∧ kk = .int .i64 (k : Int) ∧ Below w.heap.size w wr' ∧ HasO wr' w.heap.size (.cells zeroMen.cs.toArray 26 (0, 0)) ∧ HasO wr' qm (.cells (inA st.1 (decide (kv = 1)) c k).cs.toArray 26 (0, 0)))
      case atStart => exact ⟨0, rfl, rfl, hb, hR, by rw [inA_zero]; exact hM⟩
      case round =>
       clear hb hR hM
       obtain ⟨k, hq2, rfl, hb, hR, hM⟩ := hrel
       by_cases hk : k < 5
       ·have hkk : (k : Int) < 5 := by omega
        have hpx : ∀ W : World, (Instr.index 9 (.string { data := #[80, 78, 66, 82, 81] }) (.int .i64 (k : Int))).run Tryz.prog W = .ok (.int .u8 ((pnL[k]?.getD 0).toNat : Int)) W := fun W => str_index pnL (i := k) hk W
        have hbk2 := hbm.out k hk
        have hsi := Lib.hid (inA_sw st.1 (decide (kv = 1)) c k hk)
        have hsj := Lib.hid (inA_sb st.1 (decide (kv = 1)) c k hk)
        have hc1 := hM.cells (2 + k)
        rw [show (inA st.1 (decide (kv = 1)) c k).cs.toArray[2 + k]? = some (.int .i64 (st.1.sw k)) from by
         have := (inA st.1 (decide (kv = 1)) c k).cs_w hk; rw [hsi.out, hit_self, Int.add_zero] at this; simpa using this] at hc1
        have hc2 := hM.cells (7 + k)
        rw [show (inA st.1 (decide (kv = 1)) c k).cs.toArray[7 + k]? = some (.int .i64 (st.1.sb k)) from by
         have := (inA st.1 (decide (kv = 1)) c k).cs_b hk; rw [hsj.out, hit_self, Int.add_zero] at this; simpa using this] at hc2
        have hf := hM.frozen
        have hlt := hM.lt
        have hcm : ((c.toNat : Int) = ((pnL[k]?.getD 0).toNat : Int) ∧ Hid (c = pnL[k]?.getD 0)) ∨ (¬ (c.toNat : Int) = ((pnL[k]?.getD 0).toNat : Int) ∧ Hid (c ≠ pnL[k]?.getD 0)) := by
         by_cases h : c = pnL[k]?.getD 0
         ·exact .inl ⟨by rw [← h], Lib.hid h⟩
         ·exact .inr ⟨fun h2 => h (u8_eq h2), Lib.hid h⟩
        generalize hpk : ((pnL[k]?.getD 0).toNat : Int) = pk at hpx hcm
        replace hpk := Lib.hid hpk
        have hw1 : IntKind.i64.wrap (st.1.sw k + 1) = st.1.sw k + 1 := IntWalk.i64_in _ (by omega)
        have hw2 : IntKind.i64.wrap (st.1.sb k + 1) = st.1.sb k + 1 := IntWalk.i64_in _ (by omega)
        rcases hcm with ⟨hcp, hcq⟩ | ⟨hcp, hcq⟩
        ·by_cases hv1 : kv = 1
         ·have hmm := Lib.hid (inA_w (m := st.1) hk hcq.out)
          have hMw : HasO wr qm (.cells (inA st.1 true c k).cs.toArray 26 (0, 0)) := by rw [show (decide (kv = 1)) = true by simp [hv1]] at hM; exact hM
          clear hM
          go_wp2_with fail
          go_quiet (fail)
          go_wp2_with fail
          go_roundg (gk - 1)
          case measure => omega
          case rel =>
           refine ⟨k + 1, by omega, by go_num, (below_drewN hb _).setCell (Nat.le_of_lt hne) _, (hR.drewN _).far (show w.heap.size ≠ qm by omega) _, ?_⟩
           rw [show (decide (kv = 1)) = true by simp [hv1], ← hmm.out]
           exact (hMw.drewN _).set_ _ _
         ·have hmm := Lib.hid (inA_b (m := st.1) hk hcq.out)
          have hMw : HasO wr qm (.cells (inA st.1 false c k).cs.toArray 26 (0, 0)) := by rw [show (decide (kv = 1)) = false by simp [hv1]] at hM; exact hM
          clear hM
          go_wp2_with fail
          go_quiet (fail)
          go_wp2_with fail
          go_roundg (gk - 1)
          case measure => omega
          case rel =>
           refine ⟨k + 1, by omega, by go_num, (below_drewN hb _).setCell (Nat.le_of_lt hne) _, (hR.drewN _).far (show w.heap.size ≠ qm by omega) _, ?_⟩
           rw [show (decide (kv = 1)) = false by simp [hv1], ← hmm.out]
           exact (hMw.drewN _).set_ _ _
        ·have hmm := Lib.hid (inA_miss (m := st.1) (b := decide (kv = 1)) hcq.out)
         go_wp2_with fail
         go_quiet (fail)
         go_wp2_with fail
         go_roundg (gk - 1)
         case measure => omega
         case rel => exact ⟨k + 1, by omega, by go_num, below_drewN hb _, hR.drewN _, by rw [hmm.out]; exact hM.drewN _⟩
       ·obtain rfl : k = 5 := by omega
        have hMs : HasO wr qm (.cells (stp st c).1.cs.toArray 26 (0, 0)) := by unfold stp; rw [← hkv.out]; exact hM
        go_wp2_with fail
        go_roundg (g1 - 1)
        case measure => omega
        case rel =>
         refine ⟨i + 1, by omega, by omega, by rw [hsc.out]; unfold stp; rw [← hkv.out], by go_num, hb, hR, ?_⟩
         rw [hsc.out]; exact hMs)
    ·have hin : i = s.length - 4 := by omega
     have hM5 : HasO wr qm (.cells (refSt x0 y0 s (s.length - 4)).1.cs.toArray 26 (0, 0)) := by rw [← hin]; exact hM
     have hpc := hpc.out
     have hii : ¬ 4 + (i : Int) < s.length := by omega
     clear hM
     generalize (refSt x0 y0 s (s.length - 4)).1 = m at *
     have hc := hM5.cells
     have hqs : qm < wr.heap.size := hM5.lt
     go_wp2_with fail
     refine (refValid_any m _).mono ?_
     rintro e w3 ⟨rfl, hb3⟩
     have hR4 := hR.call hb3
     have hM6 := hM5.call hb3
     have hb4 := below_call hb hb.size hb3
     clear hc hR hM5 hb hb3 hqs
     rcases hv : validB m with _ | _
     ·have hpv := Lib.hid (show parseC s = none by rw [hpc, if_neg (by rintro ⟨h, _⟩; rw [hv] at h; cases h)])
      replace hpc := Lib.hid hpc
      go_wp2_with (with_reducible refine wpList_storeAgg rfl 26 (.tmp 2) (.tmp 74) rfl w.heap.size zeroMen.cs.toArray ?_ ?_ 26 _ hR4 ?_ ?_ ?_ ?_)
      ·rfl
      ·rfl
      ·exact hi26.out
      ·rfl
      ·exact hone.out
      exact bodyPost_ret (results_ct (fn := Tryz.f13) Tryz.results13 rfl (setRow_hasO hR4) (by kernel_rfl) hi26.out rfl) rfl ⟨ret_v (by unfold parseR; rw [hpv.out]; rfl), setRow_below hb4 (Nat.le_refl _) hb4.size⟩
     ·have hV := Lib.hid hv
      have hc := hM6.cells
      have hqs : qm < w3.heap.size := hM6.lt
      go_wp2_with fail
      refine (refText_any m _ hV).mono ?_
      rintro e w4 ⟨rfl, hb5⟩
      have hR7 := hR4.call hb5
      have hM7 := hM6.call hb5
      have hb7 := below_call hb4 hb4.size hb5
      clear hc hR4 hM6 hb4 hb5 hqs
      by_cases ht : textL m = s
      ·have hpv := Lib.hid (show parseC s = some m by rw [hpc, if_pos ⟨hv, ht⟩])
       replace hpc := Lib.hid hpc
       have hbs : ((str (textL m)).toList == (str s).toList) = true := by rw [str_beq]; simp [ht]
       have hc := hM7.cells
       have hqs : qm < w4.heap.size := hM7.lt
       have him : Hid ((Tryz.prog.info? 26).map (·.size) = some m.cs.toArray.size) := hi26
       replace ht := Lib.hid ht
       go_wp2_with (with_reducible refine wpList_storeAgg rfl 26 (.tmp 2) (.tmp 75) rfl w.heap.size m.cs.toArray ?_ ?_ 26 _ hR7 ?_ ?_ ?_ ?_)
       ·rfl
       ·rfl
       ·exact him.out
       ·rfl
       ·exact men_one m
       exact bodyPost_ret (results_ct (fn := Tryz.f13) Tryz.results13 rfl (setRow_hasO hR7) (by kernel_rfl) him.out rfl) rfl ⟨ret_v (by unfold parseR; rw [hpv.out]; rfl), setRow_below hb7 (Nat.le_refl _) hb7.size⟩
      ·have hpv := Lib.hid (show parseC s = none by rw [hpc, if_neg (by rintro ⟨_, h⟩; exact ht h)])
       replace hpc := Lib.hid hpc
       have hbs : ((str (textL m)).toList == (str s).toList) = false := by rw [str_beq]; simp [ht]
       replace ht := Lib.hid ht
       go_wp2_with (with_reducible refine wpList_storeAgg rfl 26 (.tmp 2) (.tmp 74) rfl w.heap.size zeroMen.cs.toArray ?_ ?_ 26 _ hR7 ?_ ?_ ?_ ?_)
       ·rfl
       ·rfl
       ·exact hi26.out
       ·rfl
       ·exact hone.out
       exact bodyPost_ret (results_ct (fn := Tryz.f13) Tryz.results13 rfl (setRow_hasO hR7) (by kernel_rfl) hi26.out rfl) rfl ⟨ret_v (by unfold parseR; rw [hpv.out]; rfl), setRow_below hb7 (Nat.le_refl _) hb7.size⟩
def Arr (k : IntKind) (w : World) (p : Option Addr) (xs : List Int) : Prop :=
 xs = [] ∨ ∃ b o, p = some ⟨b, o, none⟩ ∧ b < w.heap.size ∧ ∀ j, j < xs.length → w.cell? ⟨b, o + j, none⟩ = some (.int k (xs[j]?.getD 0))
theorem Arr.call {k : IntKind} {w w' : World} {p : Option Addr} {xs : List Int} (h : Arr k w p xs) (hb : Below w.heap.size w w') : Arr k w' p xs := by
 rcases h with h | ⟨b, o, rfl, hl, hc⟩
 ·exact .inl h
 ·exact .inr ⟨b, o, rfl, Nat.lt_of_lt_of_le hl hb.size, fun j hj => (hb.cell (p := ⟨b, o + j, none⟩) hl).trans (hc j hj)⟩
theorem Arr.drewN {k : IntKind} {w : World} {p : Option Addr} {xs : List Int} (h : Arr k w p xs) (n : Nat) : Arr k (w.drewN n) p xs := h
theorem Arr.at {k : IntKind} {w : World} {p : Option Addr} {xs : List Int} (h : Arr k w p xs) {i : Nat} (hi : i < xs.length) :
  ∃ b o, p = some ⟨b, o, none⟩ ∧ b < w.heap.size ∧ ∀ j, j < xs.length → w.cell? ⟨b, o + j, none⟩ = some (.int k (xs[j]?.getD 0)) := by
 rcases h with h | h
 ·subst h; simp at hi
 ·exact h
def badP15 (x : Int) : Bool := !pOk x
def badO (x : Int) : Bool := !decide (x = 0) && !oOk x
theorem badP15_any (x : Int) (w : World) : Calls Tryz.prog 139 #[.int .i8 x] w fun e w' => e = .returned (.bool (badP15 x)) ∧ w = w' := by
 go_enter Tryz.func139, Tryz.ntmps139
 go_wp2_with fail
 refine (pValid_any x w).mono ?_
 rintro e w' ⟨rfl, rfl⟩
 go_wp2_with fail
 go_ret
 exact ⟨rfl, rfl⟩
theorem badO_any (x : Int) (w : World) : Calls Tryz.prog 191 #[.int .i8 x] w fun e w' => e = .returned (.bool (badO x)) ∧ w = w' := by
 go_enter Tryz.func191, Tryz.ntmps191
 by_cases h : x = 0
 ·have hb : Hid (badO x = false) := Lib.hid (by simp [badO, h])
  subst h
  go_wp2_with fail
  go_ret
  exact ⟨by rw [hb.out]; rfl, rfl⟩
 ·have hb : Hid (badO x = !oOk x) := Lib.hid (by simp [badO, h])
  go_wp2_with fail
  refine (orth_any x w).mono ?_
  rintro e w' ⟨rfl, rfl⟩
  go_wp2_with fail
  go_ret
  exact ⟨ret_bool (show (x != 0 && !oOk x) = badO x by rw [hb.out]; simp [h]), rfl⟩
set_option maxRecDepth 10000 in
theorem idxFunc_any (fn : Nat) (g : Int → Bool) (hcf : ∀ args w, (callFunc fn args).run Tryz.prog w = .ok (.enter fn args) w) (hf : ∀ x w, Calls Tryz.prog fn #[.int .i8 x] w fun e w' => e = .returned (.bool (g x)) ∧ w = w') (p : Option Addr) (c : Nat) (xs : List Int) (w : World) (hx : Arr .i8 w p xs) (hl : xs.length ≤ 1000000000) :
  Calls Tryz.prog 175 #[.slice p xs.length c, .func (.func fn) #[] #[]] w fun e w' => (∃ k : Int, e = .returned (.int .i64 k) ∧ (0 ≤ k ↔ xs.any g = true)) ∧ Below w.heap.size w w' := by
 go_enter Tryz.func175, Tryz.ntmps175
 go_wp2_with fail
 go_loopg [8] 1000000001 (fun q iv wr => ∃ i : Nat, q + i = 1000000001 ∧ i ≤ xs.length ∧ iv = .int .i64 i ∧ Below w.heap.size w wr ∧ (xs.take i).any g = false)
 case atStart => exact ⟨0, rfl, Nat.zero_le _, rfl, Below.refl _ _, rfl⟩
 case round =>
  obtain ⟨i, hq, hi, rfl, hb, ha⟩ := hrel
  replace ha := Lib.hid ha
  by_cases hlt : i < xs.length
  ·have hii : (i : Int) < xs.length := by omega
   obtain ⟨b, o, rfl, hbl, hc⟩ := (hx.call hb).at hlt
   have hci := hc i hlt
   have hget : xs[i]?.getD 0 = xs[i] := by simp [hlt]
   obtain ⟨x, hxv⟩ : ∃ x, x = xs[i]?.getD 0 := ⟨_, rfl⟩
   rw [← hxv] at hci hget
   replace hget := Lib.hid hget
   clear hc hxv
   go_wp2_with fail
   refine (hf _ _).mono ?_
   rintro e w1 ⟨rfl, rfl⟩
   rcases hbd : g x with _ | _
   ·go_wp2_with fail
    go_roundg (gk - 1)
    case measure => omega
    case rel => exact ⟨i + 1, by omega, by omega, by go_num, hb, by rw [List.take_succ_eq_append_getElem hlt, List.any_append, ha.out]; simp [← hget.out, hbd]⟩
   ·go_wp2_with fail
    go_ret
    refine ⟨⟨i, rfl, ?_⟩, hb⟩
    constructor
    ·intro _; rw [List.any_eq_true]; exact ⟨xs[i], List.getElem_mem hlt, by rw [← hget.out]; exact hbd⟩
    ·intro _; omega
  ·have hii : ¬ (i : Int) < xs.length := by omega
   go_wp2_with fail
   go_ret
   refine ⟨⟨-1, rfl, ?_⟩, hb⟩
   have ha := ha.out
   rw [List.take_of_length_le (by omega)] at ha
   constructor
   ·intro h; omega
   ·rintro ⟨x, hx1, hx2⟩
    rw [List.any_eq_false] at ha
    exact absurd hx2 (by simpa using ha x hx1)
theorem hasFunc_any (fn : Nat) (g : Int → Bool) (hcf : ∀ args w, (callFunc fn args).run Tryz.prog w = .ok (.enter fn args) w) (hf : ∀ x w, Calls Tryz.prog fn #[.int .i8 x] w fun e w' => e = .returned (.bool (g x)) ∧ w = w') (p : Option Addr) (c : Nat) (xs : List Int) (w : World) (hx : Arr .i8 w p xs) (hl : xs.length ≤ 1000000000) :
  Calls Tryz.prog 138 #[.slice p xs.length c, .func (.func fn) #[] #[]] w fun e w' => e = .returned (.bool (xs.any g)) ∧ Below w.heap.size w w' := by
 go_enter Tryz.func138, Tryz.ntmps138
 go_wp2_with fail
 refine (idxFunc_any fn g hcf hf p c xs w hx hl).mono ?_
 rintro e w1 ⟨⟨k, rfl, hk⟩, hb⟩
 replace hk := Lib.hid hk
 by_cases h : 0 ≤ k
 ·have hb2 := Lib.hid (hk.out.1 h)
  go_wp2_with fail
  go_ret
  exact ⟨by rw [hb2.out]; rfl, hb⟩
 ·have hb2 : Hid (xs.any g = false) := Lib.hid (by rcases h2 : xs.any g with _ | _; rfl; exact absurd (hk.out.2 h2) h)
  go_wp2_with fail
  go_ret
  exact ⟨ret_bool (show decide (0 ≤ k) = _ by rw [hb2.out]; simp; omega), hb⟩
def idxI (xs : List Int) (x : Int) : Int := if xs.any (· == x) then (xs.findIdx (· == x) : Nat) else -1
theorem idxI_at {xs : List Int} {x : Int} {i : Nat} (h1 : (xs.take i).any (· == x) = false) (hlt : i < xs.length) (h2 : xs[i]?.getD 0 = x) : idxI xs x = i := by
 have hg : xs[i] = x := by simpa [hlt] using h2
 have h3 : xs.any (· == x) = true := by rw [List.any_eq_true]; exact ⟨xs[i], List.getElem_mem hlt, by simp [hg]⟩
 unfold idxI
 rw [if_pos h3]
 congr 1
 rw [List.findIdx_eq hlt]
 refine ⟨by simp [hg], fun j hj => ?_⟩
 rw [List.any_eq_false] at h1
 have := h1 xs[j] (by rw [List.mem_take_iff_getElem]; exact ⟨j, by omega, rfl⟩)
 simpa using this
theorem idxI_none {xs : List Int} {x : Int} (h : xs.any (· == x) = false) : idxI xs x = -1 := by
 unfold idxI; rw [h]; rfl
theorem idxI_lt {xs : List Int} {x : Int} : -1 ≤ idxI xs x ∧ idxI xs x < xs.length := by
 unfold idxI
 split
 ·rename_i h
  rw [List.any_eq_true] at h
  have := List.findIdx_lt_length_of_exists (p := (· == x)) h
  omega
 ·omega
theorem index_any (p : Option Addr) (c : Nat) (xs : List Int) (x : Int) (w : World) (hx : Arr .i8 w p xs) (hl : xs.length ≤ 1000000000) :
  Calls Tryz.prog 47 #[.slice p xs.length c, .int .i8 x] w fun e w' => e = .returned (.int .i64 (idxI xs x)) ∧ Below w.heap.size w w' := by
 go_enter Tryz.func47, Tryz.ntmps47
 go_wp2_with fail
 go_loopg [8] 1000000001 (fun q iv wr => ∃ i : Nat, q + i = 1000000001 ∧ i ≤ xs.length ∧ iv = .int .i64 i ∧ Below w.heap.size w wr ∧ (xs.take i).any (· == x) = false)
 case atStart => exact ⟨0, rfl, Nat.zero_le _, rfl, Below.refl _ _, rfl⟩
 case round =>
  obtain ⟨i, hq, hi, rfl, hb, ha⟩ := hrel
  replace ha := Lib.hid ha
  by_cases hlt : i < xs.length
  ·have hii : (i : Int) < xs.length := by omega
   obtain ⟨b, o, rfl, hbl, hc⟩ := (hx.call hb).at hlt
   have hci := hc i hlt
   have hget : xs[i]?.getD 0 = xs[i] := by simp [hlt]
   obtain ⟨y, hxv⟩ : ∃ y, y = xs[i]?.getD 0 := ⟨_, rfl⟩
   rw [← hxv] at hci hget
   replace hget := Lib.hid hget
   replace hxv := Lib.hid hxv
   clear hc
   by_cases hyx : x = y
   ·have e1 : Hid (idxI xs x = i) := Lib.hid (idxI_at ha.out hlt (by rw [← hxv.out]; exact hyx.symm))
    subst hyx
    go_wp2_with fail
    go_ret
    exact ⟨by rw [e1.out]; rfl, hb⟩
   ·go_wp2_with fail
    go_roundg (gk - 1)
    case measure => omega
    case rel => exact ⟨i + 1, by omega, by omega, by go_num, hb, by rw [List.take_succ_eq_append_getElem hlt, List.any_append, ha.out]; simp [← hget.out]; exact fun h => hyx h.symm⟩
  ·have hii : ¬ (i : Int) < xs.length := by omega
   have e1 : Hid (idxI xs x = -1) := Lib.hid (idxI_none (by have ha := ha.out; rwa [List.take_of_length_le (by omega)] at ha))
   go_wp2_with fail
   go_ret
   exact ⟨by rw [e1.out]; rfl, hb⟩
theorem contains_any (p : Option Addr) (c : Nat) (xs : List Int) (x : Int) (w : World) (hx : Arr .i8 w p xs) (hl : xs.length ≤ 1000000000) :
  Calls Tryz.prog 143 #[.slice p xs.length c, .int .i8 x] w fun e w' => e = .returned (.bool (xs.any (· == x))) ∧ Below w.heap.size w w' := by
 go_enter Tryz.func143, Tryz.ntmps143
 go_wp2_with fail
 refine (index_any p c xs x w hx hl).mono ?_
 rintro e w1 ⟨rfl, hb⟩
 have e1 : Hid (decide (0 ≤ idxI xs x) = xs.any (· == x)) := Lib.hid (by
  unfold idxI
  rcases h : xs.any (· == x) with _ | _ <;> simp)
 go_wp2_with fail
 go_ret
 exact ⟨ret_bool e1.out, hb⟩
end Go.Proofs.YtnpomigmeieofaaGreatDoor
