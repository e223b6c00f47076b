import Derived.Test.YtnpomigmeieofaaGreatDoorI08
import Derived.Test.YtnpomigmeieofaaGreatDoorI09
import Derived.Test.YtnpomigmeieofaaGreatDoorI43
import Derived.Test.YtnpomigmeieofaaGreatDoorI44
namespace Go.Proofs.YtnpomigmeieofaaGreatDoor
open Go.RowKit
attribute [local go_sem] Oper.semAt_some

def resP (m : Men) (n : Int) : Int :=
 if validB m = true then (if countN m ≤ 1048576 then (if n < 0 ∨ n ≥ (countN m : Nat) then 3 else if okS m m.f.toNat m.r.toNat m.sq n.toNat = true then 0 else 9) else 7) else 2
def PosU (m : Men) (n : Int) (w : World) (e : Ending) (w' : World) : Prop :=
 (if resP m n = 0 then ∃ gp, e = .returned (.tuple #[.agg (posCs m.f m.r (some ⟨gp, 0, none⟩) m.sq m.sq (finB m m.sq n.toNat) 0 (-1) 0 1).toArray, .int .i64 0]) ∧ HasO w' gp (pcs (finS m m.sq n.toNat).1)
  else e = .returned (.tuple #[.agg (posCs 0 0 none 0 0 false 0 0 0 0).toArray, .int .i64 (resP m n)])) ∧ Below w.heap.size w w'
theorem valid_sides {m : Men} (hv : validB m = true) : m.f = (m.f.toNat : Nat) ∧ m.r = (m.r.toNat : Nat) ∧ m.f.toNat * m.r.toNat = m.sq := by
 have h := validB_size hv
 refine ⟨by omega, by omega, ?_⟩
 have h2 := (validB_sq hv).1
 have e1 : m.f = (m.f.toNat : Nat) := by omega
 have e2 : m.r = (m.r.toNat : Nat) := by omega
 rw [e1, e2, ← Int.natCast_mul] at h2
 exact Int.ofNat.inj h2
set_option maxRecDepth 100000 in
set_option maxHeartbeats 6400000 in
theorem posErr_any (m : Men) (n c er : Int) (hcnt : cntE m = (c, er)) (w : World) (r : Int) (h : (er = 2 ∧ r = 2) ∨ (er = 7 ∧ r = 7) ∨ (er = 0 ∧ n < 0 ∧ r = 3) ∨ (er = 0 ∧ ¬ n < 0 ∧ n ≥ c ∧ r = 3)) :
  Calls Tryz.prog 21 #[.agg m.cs.toArray, .int .i64 n] w fun e w' => e = .returned (.tuple #[.agg (posCs 0 0 none 0 0 false 0 0 0 0).toArray, .int .i64 r]) ∧ Below w.heap.size w w' := by
 have hM := ((HasO.new w (.cells m.cs.toArray 26)).alloc (.cells #[.int .i64 n] 3)).alloc (.cells (posCs 0 0 none 0 0 false 0 0 0 0).toArray 40)
 have hN := (HasO.new' (w.alloc (.cells m.cs.toArray 26)) (.cells #[.int .i64 n] 3) (q := w.heap.size + 1) (by simp)).alloc (.cells (posCs 0 0 none 0 0 false 0 0 0 0).toArray 40)
 have hR := HasO.new' ((w.alloc (.cells m.cs.toArray 26)).alloc (.cells #[.int .i64 n] 3)) (.cells (posCs 0 0 none 0 0 false 0 0 0 0).toArray 40) (q := w.heap.size + 2) (by simp)
 have hB := ((below_box w (.cells m.cs.toArray 26)).alloc (by simp) (.cells #[.int .i64 n] 3)).alloc (by simp; omega) (.cells (posCs 0 0 none 0 0 false 0 0 0 0).toArray 40)
 have hct := fun W => Count_any m W
 rw [hcnt] at hct
 clear hcnt
 refine (callsIn_wide (n := 3)).1 ?_
 refine callsIn_of_wp_marks Tryz.func21 rfl trivial ?_ rfl
 simp only [Tryz.ntmps21, List.size_toArray, List.length_cons, List.length_nil, Nat.reduceAdd, Nat.reduceSub, Array.replicate_succ, Array.replicate_zero, List.push_toArray, List.append_toArray, List.nil_append, List.cons_append]
 rw [wpIn_wide]
 go_upto_region 1 with fail
 show Code.wp _ _ _ _ (((w.alloc (.cells m.cs.toArray 26)).alloc (.cells #[.int .i64 n] 3)).alloc (.cells (posCs 0 0 none 0 0 false 0 0 0 0).toArray 40))
 generalize ((w.alloc (.cells m.cs.toArray 26)).alloc (.cells #[.int .i64 n] 3)).alloc (.cells (posCs 0 0 none 0 0 false 0 0 0 0).toArray 40) = w1 at *
 obtain ⟨q0, hq0⟩ : ∃ q, q = w.heap.size := ⟨_, rfl⟩
 rw [← hq0] at hM hN hR ⊢
 replace hq0 := Lib.hid hq0
 go_wp2_with (first | (refine wpList_loadO rfl 26 (.tmp 2) rfl q0 _ 26 rfl hM (by kernel_rfl) ?_) | fail)
 refine (hct w1).mono ?_
 rintro e w2 ⟨rfl, hb2⟩
 replace hN := hN.call hb2
 replace hR := hR.call hb2
 replace hB := below_call hB hB.size hb2
 clear hct hb2 hM
 have hc3 := hN.cells 0
 have hl3 := hN.lt
 rcases h with ⟨rfl, rfl⟩ | ⟨rfl, rfl⟩ | ⟨rfl, hn0, rfl⟩ | ⟨rfl, hn0, hn1, rfl⟩
 all_goals
  go_wp2_with (first | (refine wpList_storeAgg rfl 40 (.tmp 4) (.tmp 25) rfl (q0 + 2) _ rfl rfl 40 _ hR (by kernel_rfl) rfl (by kernel_rfl) ?_; rintro w9 rfl) | (refine wpList_storeAgg rfl 40 (.tmp 4) (.tmp 35) rfl (q0 + 2) _ rfl rfl 40 _ hR (by kernel_rfl) rfl (by kernel_rfl) ?_; rintro w9 rfl) | fail)
  refine leave0 _ (results_ct (fn := Tryz.f21) Tryz.results21 rfl (setRow_hasO hR) (by kernel_rfl) (by kernel_rfl) rfl) ⟨rfl, setRow_below hB (by have := hq0.out; omega) hB.size⟩
theorem posU_any (m : Men) (n : Int) (w : World) (hg : GlobOk w) : Calls Tryz.prog 21 #[.agg m.cs.toArray, .int .i64 n] w fun e w' => PosU m n w e w' := by
 by_cases hv : validB m = true
 ·by_cases hc : countN m ≤ 1048576
  ·have hcnt : cntE m = (((countN m : Nat) : Int), 0) := by unfold cntE; rw [if_pos hv, if_pos hc]
   by_cases hn : n < 0 ∨ n ≥ (countN m : Nat)
   ·have hr : resP m n = 3 := by unfold resP; rw [if_pos hv, if_pos hc, if_pos hn]
    refine (posErr_any m n _ _ hcnt w 3 ?_).mono ?_
    ·by_cases h0 : n < 0
     ·exact .inr (.inr (.inl ⟨rfl, h0, rfl⟩))
     ·exact .inr (.inr (.inr ⟨rfl, h0, by omega, rfl⟩))
    ·rintro e w' ⟨he, hb⟩
     exact ⟨by rw [hr, if_neg (by decide)]; exact he, hb⟩
   ·obtain ⟨n', rfl⟩ : ∃ k : Nat, n = (k : Nat) := ⟨n.toNat, by omega⟩
    have hf := valid_sides hv
    refine (posG_any m m.f.toNat m.r.toNat m.sq n' hf.1 hf.2.1 hf.2.2 rfl hv hc (by omega) w hg).mono ?_
    rintro e w' ⟨he, hb⟩
    refine ⟨?_, hb⟩
    by_cases hk : okS m m.f.toNat m.r.toNat m.sq n' = true
    ·have hr : resP m (n' : Nat) = 0 := by unfold resP; rw [if_pos hv, if_pos hc, if_neg hn, Int.toNat_natCast, if_pos hk]
     rw [if_pos hk] at he
     obtain ⟨gp, he, _, ho⟩ := he
     rw [if_pos hr, Int.toNat_natCast]
     exact ⟨gp, by rw [he, ← hf.1, ← hf.2.1], ho⟩
    ·have hr : resP m (n' : Nat) = 9 := by unfold resP; rw [if_pos hv, if_pos hc, if_neg hn, Int.toNat_natCast, if_neg hk]
     rw [if_neg hk] at he
     rw [hr, if_neg (by decide)]
     exact he
  ·have hcnt : cntE m = (0, 7) := by unfold cntE; rw [if_pos hv, if_neg hc]
   have hr : resP m n = 7 := by unfold resP; rw [if_pos hv, if_neg hc]
   refine (posErr_any m n _ _ hcnt w 7 (.inr (.inl ⟨rfl, rfl⟩))).mono ?_
   rintro e w' ⟨he, hb⟩
   exact ⟨by rw [hr, if_neg (by decide)]; exact he, hb⟩
 ·have hcnt : cntE m = (0, 2) := by unfold cntE; rw [if_neg hv]
  have hr : resP m n = 2 := by unfold resP; rw [if_neg hv]
  refine (posErr_any m n _ _ hcnt w 2 (.inl ⟨rfl, rfl⟩)).mono ?_
  rintro e w' ⟨he, hb⟩
  exact ⟨by rw [hr, if_neg (by decide)]; exact he, hb⟩
set_option maxRecDepth 100000 in
set_option maxHeartbeats 6400000 in
theorem refPosU_any (m : Men) (n : Int) (w : World) : Calls Tryz.prog 22 #[.agg m.cs.toArray, .int .i64 n] w fun e w' => PosU m n w e w' := by
 have hM := (HasO.new w (.cells m.cs.toArray 26)).alloc (.cells (posCs 0 0 none 0 0 false 0 0 0 0).toArray 40)
 have hR := HasO.new' (w.alloc (.cells m.cs.toArray 26)) (.cells (posCs 0 0 none 0 0 false 0 0 0 0).toArray 40) (q := w.heap.size + 1) (by simp)
 have hB := (below_box w (.cells m.cs.toArray 26)).alloc (by simp) (.cells (posCs 0 0 none 0 0 false 0 0 0 0).toArray 40)
 have hvl := fun W => refValid_any m W
 have hcn := fun (h : Hid (validB m = true)) W => refCount_any m W h
 obtain ⟨r, hr⟩ : ∃ x, x = resP m n := ⟨_, rfl⟩
 have hru := hr
 unfold resP at hru
 replace hr := Lib.hid hr
 obtain ⟨v, hv⟩ : ∃ x, x = validB m := ⟨_, rfl⟩
 rw [← hv] at hvl
 go_enter Tryz.func22, Tryz.ntmps22
 go_upto_region 1 with fail
 show Code.wp _ _ _ _ ((w.alloc (.cells m.cs.toArray 26)).alloc (.cells (posCs 0 0 none 0 0 false 0 0 0 0).toArray 40))
 generalize (w.alloc (.cells m.cs.toArray 26)).alloc (.cells (posCs 0 0 none 0 0 false 0 0 0 0).toArray 40) = w1 at *
 obtain ⟨q0, hq0⟩ : ∃ q, q = w.heap.size := ⟨_, rfl⟩
 rw [← hq0] at hM hR ⊢
 have hq0l : w.heap.size ≤ q0 + 1 := by omega
 replace hq0 := Lib.hid hq0
 replace hru := Lib.hid hru
 go_wp2_with (first | (refine wpList_loadO rfl 26 (.tmp 2) rfl q0 _ 26 rfl hM (by kernel_rfl) ?_) | fail)
 refine (hvl w1).mono ?_
 rintro e w2 ⟨rfl, hb⟩
 replace hM := hM.call hb
 replace hR := hR.call hb
 replace hB := below_call hB hB.size hb
 clear hb hvl
 cases v
 ·have hr2 : Hid (resP m n = 2) := Lib.hid (by unfold resP; rw [if_neg (by rw [← hv]; simp)])
  replace hv := Lib.hid hv
  go_wp2_with (first | (refine wpList_storeAgg rfl 40 (.tmp 4) (.tmp 11) rfl (q0 + 1) _ rfl rfl 40 _ hR (by kernel_rfl) rfl (by kernel_rfl) ?_; rintro w9 rfl) | fail)
  refine bodyPost_ret (results_ct (fn := Tryz.f22) Tryz.results22 rfl (setRow_hasO hR) (by kernel_rfl) (by kernel_rfl) rfl) rfl ?_
  refine ⟨?_, setRow_below hB hq0l hB.size⟩
  rw [hr2.out, if_neg (by decide)]
  rfl
 ·have hvH : Hid (validB m = true) := Lib.hid hv.symm
  replace hcn := hcn hvH
  obtain ⟨cn, hcne⟩ : ∃ x, x = countN m := ⟨_, rfl⟩
  rw [← hcne] at hcn
  replace hcne := Lib.hid hcne
  replace hv := Lib.hid hv
  go_wp2_with (first | (refine wpList_loadO rfl 26 (.tmp 2) rfl q0 _ 26 rfl hM (by kernel_rfl) ?_) | fail)
  refine (hcn w2).mono ?_
  rintro e w3 ⟨rfl, hb⟩
  replace hM := hM.call hb
  replace hR := hR.call hb
  replace hB := below_call hB hB.size hb
  clear hb
  by_cases hc : cn ≤ 1048576
  ·have hci : ¬ (cn : Int) > 1048576 := by omega
   by_cases hn0 : n < 0
   ·have hr2 : Hid (resP m n = 3) := Lib.hid (by unfold resP; rw [if_pos hvH.out, if_pos (by rw [← hcne.out]; exact hc), if_pos (.inl hn0)])
    go_wp2_with (first | (refine wpList_storeAgg rfl 40 (.tmp 4) (.tmp 24) rfl (q0 + 1) _ rfl rfl 40 _ hR (by kernel_rfl) rfl (by kernel_rfl) ?_; rintro w9 rfl) | fail)
    refine bodyPost_ret (results_ct (fn := Tryz.f22) Tryz.results22 rfl (setRow_hasO hR) (by kernel_rfl) (by kernel_rfl) rfl) rfl ?_
    refine ⟨?_, setRow_below hB hq0l hB.size⟩
    rw [hr2.out, if_neg (by decide)]
    rfl
   ·have hcM := hM.cells
    have hlM := hM.lt
    go_wp2_with fail
    refine (hcn w3).mono ?_
    rintro e w4 ⟨rfl, hb⟩
    clear hcM hlM
    replace hM := hM.call hb
    replace hR := hR.call hb
    replace hB := below_call hB hB.size hb
    clear hb hcn
    by_cases hnc : n ≥ (cn : Nat)
    ·have hr2 : Hid (resP m n = 3) := Lib.hid (by unfold resP; rw [if_pos hvH.out, if_pos (by rw [← hcne.out]; exact hc), if_pos (.inr (by rw [← hcne.out]; exact hnc))])
     go_wp2_with (first | (refine wpList_storeAgg rfl 40 (.tmp 4) (.tmp 24) rfl (q0 + 1) _ rfl rfl 40 _ hR (by kernel_rfl) rfl (by kernel_rfl) ?_; rintro w9 rfl) | fail)
     refine bodyPost_ret (results_ct (fn := Tryz.f22) Tryz.results22 rfl (setRow_hasO hR) (by kernel_rfl) (by kernel_rfl) rfl) rfl ?_
     refine ⟨?_, setRow_below hB hq0l hB.size⟩
     rw [hr2.out, if_neg (by decide)]
     rfl
    ·obtain ⟨n', rfl⟩ : ∃ k : Nat, n = (k : Nat) := ⟨n.toNat, by omega⟩
     have hf := valid_sides hvH.out
     have h64 := fun W => ref64_any m m.f.toNat m.r.toNat m.sq n' hf.1 hf.2.1 hf.2.2 rfl hvH.out (by rw [← hcne.out]; exact hc) (by have := hcne.out; omega) W
     obtain ⟨ok, hok⟩ : ∃ x, x = okS m m.f.toNat m.r.toNat m.sq n' := ⟨_, rfl⟩
     have hrr : Hid (resP m (n' : Nat) = if ok = true then 0 else 9) := Lib.hid (by unfold resP; rw [if_pos hvH.out, if_pos (by rw [← hcne.out]; exact hc), if_neg (by rw [← hcne.out]; omega), Int.toNat_natCast, ← hok])
     unfold RefG at h64
     rw [← hok, ← hf.1, ← hf.2.1] at h64
     replace hf := Lib.hid hf
     replace hok := Lib.hid hok
     go_wp2_with (first | (refine wpList_loadO rfl 26 (.tmp 2) rfl q0 _ 26 rfl hM (by kernel_rfl) ?_) | fail)
     refine (h64 w4).mono ?_
     rintro e w5 ⟨he, hb⟩
     replace hR := hR.call hb
     replace hB := below_call hB hB.size hb
     clear hb h64 hM
     cases ok
     ·rw [if_neg (by simp)] at he
      subst he
      have hbx := below_box w5 (.cells (posCs 0 0 none 0 0 false 0 0 0 0).toArray 40)
      replace hR := hR.call hbx
      replace hB := below_call hB hB.size hbx
      go_upto_region 8 with fail
      show Code.wp _ _ _ _ (w5.alloc (.cells (posCs 0 0 none 0 0 false 0 0 0 0).toArray 40))
      generalize w5.alloc (.cells (posCs 0 0 none 0 0 false 0 0 0 0).toArray 40) = w6 at *
      go_wp2_with (first | (refine wpList_storeAgg rfl 40 (.tmp 4) (.tmp 33) rfl (q0 + 1) _ rfl rfl 40 _ hR (by kernel_rfl) rfl (by kernel_rfl) ?_; rintro w9 rfl) | fail)
      refine bodyPost_ret (results_ct (fn := Tryz.f22) Tryz.results22 rfl (setRow_hasO hR) (by kernel_rfl) (by kernel_rfl) rfl) rfl ?_
      refine ⟨?_, setRow_below hB hq0l hB.size⟩
      rw [hrr.out, if_neg (by simp)]
      rfl
     ·rw [if_pos rfl] at he
      obtain ⟨gp, he, _, ho⟩ := he
      subst he
      obtain ⟨cs, hcs⟩ : ∃ x, x = posCs m.f m.r (some ⟨gp, 0, none⟩) m.sq m.sq (finB m m.sq n') 0 (-1) 0 1 := ⟨_, rfl⟩
      have hbx := below_box w5 (.cells cs.toArray 40)
      have hX := HasO.new w5 (.cells cs.toArray 40)
      replace hR := hR.call hbx
      replace hB := below_call hB hB.size hbx
      replace ho := ho.call hbx
      have hne1 : gp ≠ q0 + 1 := ho.ne_ hR (by intro h; injection h with _ h; cases h)
      have hi40 : Hid ((Tryz.prog.info? 40).map (·.size) = some cs.toArray.size) := Lib.hid (by rw [hcs]; kernel_rfl)
      have hisR : Hid (isRow Tryz.prog 40 cs.toArray.size = true) := Lib.hid (by rw [hcs]; kernel_rfl)
      have hone : Hid (cs.toArray.all (·.oneCell') = true) := Lib.hid (by rw [hcs]; first | kernel_rfl | simp [Value.oneCell'])
      have hcz : Hid (cs.toArray.size = 8) := Lib.hid (by rw [hcs]; rfl)
      go_upto_region 8 with fail
      show Code.wp _ _ _ _ (w5.alloc (.cells (posCs m.f m.r (some ⟨gp, 0, none⟩) m.sq m.sq (finB m m.sq n') 0 (-1) 0 1).toArray 40))
      rw [← hcs]
      generalize w5.alloc (.cells cs.toArray 40) = w6 at *
      replace hcs := Lib.hid hcs
      go_wp2_with (first | (refine wpList_loadO rfl 40 (.tmp 6) rfl w5.heap.size _ 40 rfl hX hisR.out ?_) | (refine wpList_storeAgg rfl 40 (.tmp 4) (.tmp 34) rfl (q0 + 1) _ rfl rfl 40 _ hR hi40.out hcz.out.symm hone.out ?_; rintro w9 rfl) | fail)
      refine bodyPost_ret (results_ct (fn := Tryz.f22) Tryz.results22 rfl (setRow_hasO hR) (by kernel_rfl) hi40.out rfl) rfl ?_
      refine ⟨?_, setRow_below hB hq0l hB.size⟩
      rw [hrr.out, if_pos (by simp), Int.toNat_natCast]
      exact ⟨gp, by rw [← hcs.out]; rfl, ho.setRow_far hne1⟩
  ·have hci : (cn : Int) > 1048576 := by omega
   have hr2 : Hid (resP m n = 7) := Lib.hid (by unfold resP; rw [if_pos hvH.out, if_neg (by rw [← hcne.out]; exact hc)])
   go_wp2_with (first | (refine wpList_storeAgg rfl 40 (.tmp 4) (.tmp 15) rfl (q0 + 1) _ rfl rfl 40 _ hR (by kernel_rfl) rfl (by kernel_rfl) ?_; rintro w9 rfl) | fail)
   refine bodyPost_ret (results_ct (fn := Tryz.f22) Tryz.results22 rfl (setRow_hasO hR) (by kernel_rfl) (by kernel_rfl) rfl) rfl ?_
   refine ⟨?_, setRow_below hB hq0l hB.size⟩
   rw [hr2.out, if_neg (by decide)]
   rfl
end Go.Proofs.YtnpomigmeieofaaGreatDoor
namespace Go.Proofs.YtnpomigmeieofaaGreatDoor
open Go.RowKit

def mA : Men := ⟨3, 4, 0, 0, 0, 0, 1, 0, 0, 0, 2, 0⟩
def mKK : Men := ⟨3, 3, 0, 0, 0, 0, 0, 0, 0, 0, 0, 0⟩
def mKQ : Men := ⟨3, 3, 0, 0, 0, 0, 1, 0, 0, 0, 0, 0⟩
def mNN : Men := ⟨3, 3, 0, 2, 0, 0, 0, 0, 0, 0, 0, 0⟩
def mKP : Men := ⟨3, 3, 1, 0, 0, 0, 0, 0, 0, 0, 0, 0⟩
def mKB : Men := ⟨3, 3, 0, 0, 1, 0, 0, 0, 0, 0, 0, 0⟩
def mKN : Men := ⟨3, 3, 0, 1, 0, 0, 0, 0, 0, 0, 0, 0⟩
def mKR : Men := ⟨3, 3, 0, 0, 0, 1, 0, 0, 0, 0, 0, 0⟩
abbrev sA : List UInt8 := [51, 120, 52, 32, 75, 81, 75, 82, 82]
abbrev sA2 : List UInt8 := [51, 120, 52, 32, 75, 82, 81, 75]
abbrev sKK : List UInt8 := [51, 120, 51, 32, 75, 75]
abbrev sKQ : List UInt8 := [51, 120, 51, 32, 75, 81, 75]
abbrev sNN : List UInt8 := [51, 120, 51, 32, 75, 78, 78, 75]
abbrev sKP : List UInt8 := [51, 120, 51, 32, 75, 80, 75]
abbrev sKB : List UInt8 := [51, 120, 51, 32, 75, 66, 75]
abbrev sKN : List UInt8 := [51, 120, 51, 32, 75, 78, 75]
abbrev sKR : List UInt8 := [51, 120, 51, 32, 75, 82, 75]
theorem kn_vA : validB mA = true := by decide +kernel
theorem kn_tA : textL mA = sA := by decide +kernel
theorem kn_pA : parseC sA = some mA := by decide +kernel
theorem kn_pA2 : parseC sA2 = none := by decide +kernel
theorem kn_pKK : parseC sKK = some mKK := by decide +kernel
theorem kn_pKQ : parseC sKQ = some mKQ := by decide +kernel
theorem kn_pNN : parseC sNN = some mNN := by decide +kernel
theorem kn_pKP : parseC sKP = some mKP := by decide +kernel
theorem kn_pKB : parseC sKB = some mKB := by decide +kernel
theorem kn_pKN : parseC sKN = some mKN := by decide +kernel
theorem kn_pKR : parseC sKR = some mKR := by decide +kernel
theorem kn_cKK : cntE mKK = (162, 0) := by decide +kernel
theorem kn_cKQ : cntE mKQ = (1458, 0) := by decide +kernel
theorem kn_cNN : cntE mNN = (5832, 0) := by decide +kernel
abbrev t1 : List UInt8 := [51, 120, 51, 32, 107, 50, 47, 51, 47, 75, 50, 32, 119, 32, 45, 32, 45, 32, 48, 32, 49]
abbrev t2 : List UInt8 := [51, 120, 51, 32, 107, 50, 47, 51, 47, 75, 49, 78, 32, 119, 32, 45, 32, 45, 32, 48, 32, 49]
abbrev t3 : List UInt8 := [51, 120, 51, 32, 107, 50, 47, 51, 47, 49, 75, 49, 32, 98, 32, 45, 32, 45, 32, 55, 32, 57]
abbrev r1 : List (List UInt8) := [[107, 50], [51], [75, 50]]
abbrev r2 : List (List UInt8) := [[107, 50], [51], [75, 49, 78]]
abbrev r3 : List (List UInt8) := [[107, 50], [51], [49, 75, 49]]
theorem kn_PP1 : PP t1 [107, 50, 47, 51, 47, 75, 50] r1 3 3 0 1 false := ⟨by decide, by decide +kernel, by decide, by decide +kernel, rfl, by omega, by omega, by decide +kernel, by omega, by omega, by decide +kernel⟩
theorem kn_PP2 : PP t2 [107, 50, 47, 51, 47, 75, 49, 78] r2 3 3 0 1 false := ⟨by decide, by decide +kernel, by decide, by decide +kernel, rfl, by omega, by omega, by decide +kernel, by omega, by omega, by decide +kernel⟩
theorem kn_PP3 : PP t3 [107, 50, 47, 51, 47, 49, 75, 49] r3 3 3 7 9 true := ⟨by decide, by decide +kernel, by decide, by decide +kernel, rfl, by omega, by omega, by decide +kernel, by omega, by omega, by decide +kernel⟩
theorem kn_81 : ∀ x ∈ brdL r1 3, -128 ≤ x ∧ x ≤ 127 := by decide +kernel
theorem kn_82 : ∀ x ∈ brdL r2 3, -128 ≤ x ∧ x ≤ 127 := by decide +kernel
theorem kn_83 : ∀ x ∈ brdL r3 3, -128 ≤ x ∧ x ≤ 127 := by decide +kernel
theorem kn_n1 : numE ((3 : Nat) : Int) ((3 : Nat) : Int) (brdL r1 3) false 0 (-1) ((0 : Nat) : Int) ((1 : Nat) : Int) = (((6 : Nat) : Int), 0) := by decide +kernel
theorem kn_n2 : numE ((3 : Nat) : Int) ((3 : Nat) : Int) (brdL r2 3) false 0 (-1) ((0 : Nat) : Int) ((1 : Nat) : Int) = (((56 : Nat) : Int), 0) := by decide +kernel
theorem kn_n3 : numE ((3 : Nat) : Int) ((3 : Nat) : Int) (brdL r3 3) true 0 (-1) ((7 : Nat) : Int) ((9 : Nat) : Int) = (((96 : Nat) : Int), 0) := by decide +kernel
theorem kn_vKQ : validB mKQ = true := by decide +kernel
theorem kn_vKP : validB mKP = true := by decide +kernel
theorem kn_vKK : validB mKK = true := by decide +kernel
theorem kn_v36 : validB men36 = false := by decide +kernel
theorem kn_sKQ : nextS mKQ = [mKK] := by decide +kernel
theorem kn_sKK : nextS mKK = [] := by decide +kernel
theorem kn_sKP : nextS mKP = [mKB, mKK, mKN, mKQ, mKR] := by decide +kernel
theorem kn_cl : insS (ltc cmpC) [mKQ, mKK] 1 = [mKK, mKQ] := by decide +kernel
theorem ap0 : apart [] := fun j h => by simp at h
theorem ap1 (x : Men) : apart [x] := fun j h => by simp at h
theorem kn_apP : apart (nextS mKP) := by
 rw [kn_sKP]
 intro j h
 have hj : j = 0 ∨ j = 1 ∨ j = 2 ∨ j = 3 := by simp at h; omega
 rcases hj with rfl | rfl | rfl | rfl <;> decide +kernel
theorem kn_okQ : NextOk mKQ := ⟨by unfold mB; decide +kernel, by decide +kernel, by decide +kernel, by rw [kn_sKQ]; exact ap1 _⟩
theorem kn_okK : NextOk mKK := ⟨by unfold mB; decide +kernel, by decide +kernel, by decide +kernel, by rw [kn_sKK]; exact ap0⟩
theorem kn_okP : NextOk mKP := ⟨by unfold mB; decide +kernel, by decide +kernel, by decide +kernel, kn_apP⟩
theorem kn_kQ : (keyOf Tryz.prog 26 (.agg mKQ.cs.toArray)).isSome = true := by kernel_rfl
theorem kn_kK : (keyOf Tryz.prog 26 (.agg mKK.cs.toArray)).isSome = true := by kernel_rfl
theorem kn_at : (cD mKQ mKK 0).atKey (menK mKK) (.lit (.bool false)) = .lit (.bool false) := by kernel_rfl
end Go.Proofs.YtnpomigmeieofaaGreatDoor
namespace Go.Proofs.YtnpomigmeieofaaGreatDoor
open Go.RowKit
attribute [local go_sem] Oper.semAt_some

theorem kc_text (W : World) : Calls Tryz.prog 8 #[.agg mA.cs.toArray] W fun e w' => e = .returned (.tuple #[.string { data := #[51, 120, 52, 32, 75, 81, 75, 82, 82] }, .int .i64 0]) ∧ Below W.heap.size W w' := by
 have h := Text_any mA W
 rw [if_pos kn_vA, kn_tA] at h
 exact h
theorem kc_parse1 (W : World) (hm : MaxOk W) : Calls Tryz.prog 12 #[.string { data := #[51, 120, 52, 32, 75, 81, 75, 82, 82] }] W fun e w' => e = .returned (.tuple #[.agg mA.cs.toArray, .int .i64 0]) ∧ Below W.heap.size W w' := by
 have h := parse_any sA W (by decide) hm
 rw [show parseV sA = .tuple #[.agg mA.cs.toArray, .int .i64 0] from by unfold parseV; rw [kn_pA]] at h
 exact h
theorem kc_parse2 (W : World) (hm : MaxOk W) : Calls Tryz.prog 12 #[.string { data := #[51, 120, 52, 32, 75, 82, 81, 75] }] W fun e w' => e = .returned (.tuple #[.agg zeroMen.cs.toArray, .int .i64 6]) ∧ Below W.heap.size W w' := by
 have h := parse_any sA2 W (by decide) hm
 rw [show parseV sA2 = .tuple #[.agg zeroMen.cs.toArray, .int .i64 6] from by unfold parseV; rw [kn_pA2]] at h
 exact h
theorem kc_KK (W : World) : Calls Tryz.prog 31 #[.string { data := #[51, 120, 51, 32, 75, 75] }] W fun e w' => e = .returned (.agg mKK.cs.toArray) ∧ Below W.heap.size W w' := lawMen_any sKK mKK W (by decide) kn_pKK
theorem kc_KQ (W : World) : Calls Tryz.prog 31 #[.string { data := #[51, 120, 51, 32, 75, 81, 75] }] W fun e w' => e = .returned (.agg mKQ.cs.toArray) ∧ Below W.heap.size W w' := lawMen_any sKQ mKQ W (by decide) kn_pKQ
theorem kc_NN (W : World) : Calls Tryz.prog 31 #[.string { data := #[51, 120, 51, 32, 75, 78, 78, 75] }] W fun e w' => e = .returned (.agg mNN.cs.toArray) ∧ Below W.heap.size W w' := lawMen_any sNN mNN W (by decide) kn_pNN
theorem kc_KP (W : World) : Calls Tryz.prog 31 #[.string { data := #[51, 120, 51, 32, 75, 80, 75] }] W fun e w' => e = .returned (.agg mKP.cs.toArray) ∧ Below W.heap.size W w' := lawMen_any sKP mKP W (by decide) kn_pKP
theorem kc_cKK (W : World) : Calls Tryz.prog 20 #[.agg mKK.cs.toArray] W fun e w' => e = .returned (.tuple #[.int .i64 162, .int .i64 0]) ∧ Below W.heap.size W w' := by
 have h := Count_any mKK W
 rw [kn_cKK] at h
 exact h
theorem kc_cKQ (W : World) : Calls Tryz.prog 20 #[.agg mKQ.cs.toArray] W fun e w' => e = .returned (.tuple #[.int .i64 1458, .int .i64 0]) ∧ Below W.heap.size W w' := by
 have h := Count_any mKQ W
 rw [kn_cKQ] at h
 exact h
theorem kc_cNN (W : World) : Calls Tryz.prog 20 #[.agg mNN.cs.toArray] W fun e w' => e = .returned (.tuple #[.int .i64 5832, .int .i64 0]) ∧ Below W.heap.size W w' := by
 have h := Count_any mNN W
 rw [kn_cNN] at h
 exact h
theorem kc_n1 (W : World) (hg : GlobOk W) : Calls Tryz.prog 32 #[.string { data := #[51, 120, 51, 32, 107, 50, 47, 51, 47, 75, 50, 32, 119, 32, 45, 32, 45, 32, 48, 32, 49] }, .int .i64 6] W fun e w' => e = .returned (.bool true) ∧ Below W.heap.size W w' := lawNumber_any t1 _ r1 3 3 0 1 false 6 kn_PP1 kn_81 kn_n1 W hg
theorem kc_n2 (W : World) (hg : GlobOk W) : Calls Tryz.prog 32 #[.string { data := #[51, 120, 51, 32, 107, 50, 47, 51, 47, 75, 49, 78, 32, 119, 32, 45, 32, 45, 32, 48, 32, 49] }, .int .i64 56] W fun e w' => e = .returned (.bool true) ∧ Below W.heap.size W w' := lawNumber_any t2 _ r2 3 3 0 1 false 56 kn_PP2 kn_82 kn_n2 W hg
theorem kc_n3 (W : World) (hg : GlobOk W) : Calls Tryz.prog 32 #[.string { data := #[51, 120, 51, 32, 107, 50, 47, 51, 47, 49, 75, 49, 32, 98, 32, 45, 32, 45, 32, 55, 32, 57] }, .int .i64 96] W fun e w' => e = .returned (.bool true) ∧ Below W.heap.size W w' := lawNumber_any t3 _ r3 3 3 7 9 true 96 kn_PP3 kn_83 kn_n3 W hg
theorem kn_sqKK : 9 = mKK.sq := by decide +kernel
theorem kn_nKK : countN mKK = 162 := by decide +kernel
theorem kn_ok6 : okS mKK 3 3 9 6 = true := by decide +kernel
theorem kn_ok0 : okS mKK 3 3 9 0 = false := by decide +kernel
theorem kn_f6 : (finS mKK 9 6).1 = brdL r1 3 := by decide +kernel
theorem kn_b6' : finB mKK 9 6 = false := by decide +kernel
theorem kc_p6 (W : World) (hg : GlobOk W) : Calls Tryz.prog 21 #[.agg mKK.cs.toArray, .int .i64 6] W fun e w' => (∃ gp, e = .returned (.tuple #[.agg (posCs 3 3 (some ⟨gp, 0, none⟩) 9 9 false 0 (-1) 0 1).toArray, .int .i64 0]) ∧ Arr .i8 w' (some ⟨gp, 0, none⟩) (brdL r1 3)) ∧ Below W.heap.size W w' := by
 refine (posG_any mKK 3 3 9 6 rfl rfl rfl kn_sqKK kn_vKK (by rw [kn_nKK]; decide) (by rw [kn_nKK]; decide) W hg).mono ?_
 rintro e w' ⟨h, hb⟩
 rw [if_pos kn_ok6] at h
 obtain ⟨gp, he, _, hP⟩ := h
 rw [kn_f6] at hP
 rw [kn_b6'] at he
 exact ⟨⟨gp, he, arr_pcs hP⟩, hb⟩
theorem kc_p0 (W : World) (hg : GlobOk W) : Calls Tryz.prog 21 #[.agg mKK.cs.toArray, .int .i64 0] W fun e w' => e = .returned (.tuple #[.agg (posCs 0 0 none 0 0 false 0 0 0 0).toArray, .int .i64 9]) ∧ Below W.heap.size W w' := by
 refine (posG_any mKK 3 3 9 0 rfl rfl rfl kn_sqKK kn_vKK (by rw [kn_nKK]; decide) (by rw [kn_nKK]; decide) W hg).mono ?_
 rintro e w' ⟨h, hb⟩
 rw [if_neg (by rw [kn_ok0]; simp)] at h
 exact ⟨h, hb⟩
theorem kc_p9 (W : World) : Calls Tryz.prog 21 #[.agg mKK.cs.toArray, .int .i64 162] W fun e w' => e = .returned (.tuple #[.agg (posCs 0 0 none 0 0 false 0 0 0 0).toArray, .int .i64 3]) ∧ Below W.heap.size W w' := posErr_any mKK 162 162 0 kn_cKK W 3 (.inr (.inr (.inr ⟨rfl, by decide, by decide, rfl⟩)))
theorem kc_t1 (W : World) : Calls Tryz.prog 33 #[.string { data := #[51, 120, 51, 32, 107, 50, 47, 51, 47, 75, 50, 32, 119, 32, 45, 32, 45, 32, 48, 32, 49] }] W fun e w' => (∃ p c, e = .returned (.tuple #[.agg (posCs 3 3 p 9 c false 0 (-1) 0 1).toArray, .bool true]) ∧ 9 ≤ c ∧ Arr .i8 w' p (brdL r1 3)) ∧ Below W.heap.size W w' := kn_PP1.parse W
theorem kc_eq (gp c : Nat) (p : Option Addr) (W : World) (h1 : Arr .i8 W (some ⟨gp, 0, none⟩) (brdL r1 3)) (h2 : Arr .i8 W p (brdL r1 3)) :
  Calls Tryz.prog 17 #[.agg (posCs 3 3 (some ⟨gp, 0, none⟩) 9 9 false 0 (-1) 0 1).toArray, .agg (posCs 3 3 p 9 c false 0 (-1) 0 1).toArray] W fun e w' => e = .returned (.bool true) ∧ Below W.heap.size W w' :=
 equal_any 3 3 0 (-1) 0 1 false (some ⟨gp, 0, none⟩) p 9 9 c (brdL r1 3) (by decide +kernel) (by decide) W h1 h2
theorem kc_nQ (W : World) : Calls Tryz.prog 25 #[.agg mKQ.cs.toArray] W fun e w' => (∃ v, e = .returned (.tuple #[v, .int .i64 0]) ∧ w'.ownsRow W.heap.size 26 12 v 1 (mensV [mKK])) ∧ Below W.heap.size W w' := by
 have h := Next_any mKQ kn_vKQ kn_okQ W
 rw [kn_sKQ] at h
 exact h
theorem kc_nP (W : World) : Calls Tryz.prog 25 #[.agg mKP.cs.toArray] W fun e w' => (∃ v, e = .returned (.tuple #[v, .int .i64 0]) ∧ w'.ownsRow W.heap.size 26 12 v 5 (mensV [mKB, mKK, mKN, mKQ, mKR])) ∧ Below W.heap.size W w' := by
 have h := Next_any mKP kn_vKP kn_okP W
 rw [kn_sKP] at h
 exact h
theorem kc_cl (W : World) : Calls Tryz.prog 26 #[.agg mKQ.cs.toArray] W fun e w' => (∃ v, e = .returned (.tuple #[v, .int .i64 0]) ∧ w'.ownsRow W.heap.size 26 12 v 2 (mensV [mKK, mKQ])) ∧ Below W.heap.size W w' := by
 have h := closure2_any mKQ mKK kn_vKQ kn_vKK kn_okQ kn_okK kn_sKQ kn_sKK kn_kQ kn_kK kn_at W
 rw [kn_cl] at h
 exact h
theorem kc_v36 (W : World) : Calls Tryz.prog 9 #[.agg men36.cs.toArray] W fun e w' => e = .returned (.bool false) ∧ Below W.heap.size W w' := by
 have h := valid_any men36 W
 rw [kn_v36] at h
 exact h
theorem kc_s1 (v : Value) (base g2 : Nat) (W : World) (hown : W.ownsRow base 26 12 v 1 (mensV [mKK])) (hO : HasO W g2 (.cells #[.string { data := #[51, 120, 51, 32, 75, 75] }] 9 (0, 0))) :
  Calls Tryz.prog 34 #[v, .int .i64 0, .slice (some ⟨g2, 0, none⟩) 1 1] W fun e w' => e = .returned (.bool true) ∧ Below W.heap.size W w' := by
 refine sets_any 1 v [mKK] g2 [sKK] rfl (by decide) (by decide) rfl ?_ W base hown hO.lt ?_
 ·intro j hj
  have hj9 : j = 0 := by simp at hj; omega
  subst hj9
  exact ⟨by decide, kn_pKK⟩
 ·intro j hj
  have hj9 : j = 0 := by simp at hj; omega
  subst hj9
  rw [hO.cells 0]; rfl
theorem kc_s5 (v : Value) (base g2 : Nat) (W : World) (hown : W.ownsRow base 26 12 v 5 (mensV [mKB, mKK, mKN, mKQ, mKR])) (hO : HasO W g2 (.cells #[.string { data := #[51, 120, 51, 32, 75, 66, 75] }, .string { data := #[51, 120, 51, 32, 75, 75] }, .string { data := #[51, 120, 51, 32, 75, 78, 75] }, .string { data := #[51, 120, 51, 32, 75, 81, 75] }, .string { data := #[51, 120, 51, 32, 75, 82, 75] }] 9 (0, 0))) :
  Calls Tryz.prog 34 #[v, .int .i64 0, .slice (some ⟨g2, 0, none⟩) 5 5] W fun e w' => e = .returned (.bool true) ∧ Below W.heap.size W w' := by
 refine sets_any 5 v [mKB, mKK, mKN, mKQ, mKR] g2 [sKB, sKK, sKN, sKQ, sKR] rfl (by decide) (by decide) rfl ?_ W base hown hO.lt ?_
 ·intro j hj
  have hj9 : j = 0 ∨ j = 1 ∨ j = 2 ∨ j = 3 ∨ j = 4 := by simp at hj; omega
  rcases hj9 with rfl | rfl | rfl | rfl | rfl
  ·exact ⟨by decide, kn_pKB⟩
  ·exact ⟨by decide, kn_pKK⟩
  ·exact ⟨by decide, kn_pKN⟩
  ·exact ⟨by decide, kn_pKQ⟩
  ·exact ⟨by decide, kn_pKR⟩
 ·intro j hj
  have hj9 : j = 0 ∨ j = 1 ∨ j = 2 ∨ j = 3 ∨ j = 4 := by simp at hj; omega
  rcases hj9 with rfl | rfl | rfl | rfl | rfl <;> (rw [hO.cells]; rfl)
theorem kc_s2 (v : Value) (base g2 : Nat) (W : World) (hown : W.ownsRow base 26 12 v 2 (mensV [mKK, mKQ])) (hO : HasO W g2 (.cells #[.string { data := #[51, 120, 51, 32, 75, 75] }, .string { data := #[51, 120, 51, 32, 75, 81, 75] }] 9 (0, 0))) :
  Calls Tryz.prog 34 #[v, .int .i64 0, .slice (some ⟨g2, 0, none⟩) 2 2] W fun e w' => e = .returned (.bool true) ∧ Below W.heap.size W w' := by
 refine sets_any 2 v [mKK, mKQ] g2 [sKK, sKQ] rfl (by decide) (by decide) rfl ?_ W base hown hO.lt ?_
 ·intro j hj
  have hj9 : j = 0 ∨ j = 1 := by simp at hj; omega
  rcases hj9 with rfl | rfl
  ·exact ⟨by decide, kn_pKK⟩
  ·exact ⟨by decide, kn_pKQ⟩
 ·intro j hj
  have hj9 : j = 0 ∨ j = 1 := by simp at hj; omega
  rcases hj9 with rfl | rfl <;> (rw [hO.cells]; rfl)
end Go.Proofs.YtnpomigmeieofaaGreatDoor
