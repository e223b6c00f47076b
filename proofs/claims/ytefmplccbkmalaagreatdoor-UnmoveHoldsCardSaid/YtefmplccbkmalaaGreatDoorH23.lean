import Derived.Test.YtefmplccbkmalaaGreatDoorH19
import Derived.Test.YtefmplccbkmalaaGreatDoorH20
import Derived.Test.YtefmplccbkmalaaGreatDoorH21
import Derived.Test.YtefmplccbkmalaaGreatDoorH22
import Derived.Recover
import Derived.Defers
set_option maxHeartbeats 12800000
namespace Go.Proofs.YtefmplccbkmalaaGreatDoor
open Go.RowKit Go.Sort Go.BigFrame

abbrev zeroCas : List Value := [.int .u8 0, .bool false, .int .i64 0, .int .i64 0, .int .i64 0, .int .i64 0]
def casCs (o : Option Cas) : List Value := match o with | some c => c.cs | none => zeroCas
theorem cas_at {i : Nat} {c : Cas} (h : casL[i]? = some c) : c.bit < 256 ∧ 0 < c.bit ∧ c.fr < 64 ∧ c.tg < 64 ∧ c.co < 64 ∧ c.cr < 64 ∧ c.fr ≠ c.co ∧ c.co / 8 = c.fr / 8 := by
 have hm := List.mem_of_getElem? h
 unfold casL at hm
 simp only [List.mem_cons, List.not_mem_nil, or_false] at hm
 rcases hm with rfl | rfl | rfl | rfl <;> decide
theorem cas_drop {i : Nat} {c : Cas} (h : casL[i]? = some c) : casL.drop i = c :: casL.drop (i + 1) := by
 obtain ⟨hl, e⟩ := List.getElem?_eq_some_iff.1 h
 rw [List.drop_eq_getElem_cons hl, e]
theorem row_grk {Wk : Nat → World} {q : Nat} {cs : Array Value} {t : TypeId} (h : ∀ k, HasO (Wk k) q (.cells cs t (0, 0))) (k d : Nat) (os : Array Obj) (j : Nat) : (grow (redrawn (Wk k) d) os).cell? ⟨q, j, none⟩ = cs[j]? := row_gr (h k) d os j
theorem btwR_lt {b : Int} {n : Nat} : ∀ (L : List Int) (S : Nat), (∀ x ∈ L, 0 ≤ x ∧ x < n) → S < 2 ^ n → btwR b L S < 2 ^ n := by
 intro L
 induction L with
 | nil => intro S _ h; exact h
 | cons x r ih =>
  intro S hL hS
  have hx := hL x (by simp)
  have h1 : S ||| 2 ^ x.toNat < 2 ^ n := Nat.or_lt_two_pow hS (Nat.pow_lt_pow_right (by decide) (by omega))
  simp only [btwR]
  split
  ·exact hS
  ·exact ih _ (fun y hy => hL y (by simp [hy])) h1
theorem btwW_lt {F R a b : Nat} (hF : 3 ≤ F ∧ F ≤ 8) (hR : 3 ≤ R ∧ R ≤ 8) : btwW F R a b < 18446744073709551616 := by
 unfold btwW
 refine Nat.lt_of_lt_of_le (btwR_lt (n := F * R) _ _ (fun x hx => ?_) (Nat.two_pow_pos _)) (pow_FR hF hR)
 have := rayL_sq x hx
 rw [Int.natCast_mul]; exact this
set_option maxRecDepth 100000 in
theorem castling_any (F R a b : Nat) (ca pa ha fu pr : Int) (bl : Bool) (p : Option Addr) (c : Nat) (xs : List Int) (hF : 3 ≤ F ∧ F ≤ 8) (hR : 3 ≤ R ∧ R ≤ 8) (hlen : xs.length = F * R) (hor : orthB F R xs = true) (hal : a < F * R) (hbl : b < F * R)
  (hca : 0 ≤ ca ∧ ca < 256) (h88 : ca ≠ 0 → F = 8 ∧ R = 8) (w : World) (hg : GlobU w) (hx : Arr .i8 w p xs) :
  Calls Tryz.prog 62 #[.agg (posCs F R p xs.length c bl ca pa ha fu).toArray, .agg #[.int .i64 a, .int .i64 b, .int .i8 pr]] w fun e w' =>
   e = .returned (.tuple #[.agg (casCs (castW ⟨F, R, xs, bl, ca, pa, ha, fu⟩ ⟨a, b, pr⟩).1).toArray, .bool (castW ⟨F, R, xs, bl, ca, pa, ha, fu⟩ ⟨a, b, pr⟩).2]) ∧ Below w.heap.size w w' := by
 have hbo : boardB F R xs = true := by unfold orthB at hor; simp only [Bool.and_eq_true] at hor; exact hor.1
 have h6 := orth6 hor
 have hla : a < xs.length := by omega
 have hax : -6 ≤ xs[a]?.getD 0 ∧ xs[a]?.getD 0 ≤ 6 := h6 _ (by rw [List.getElem?_eq_getElem hla]; exact List.getElem_mem hla)
 have hoc := fun W h => occ_any F R ca pa ha fu bl p c xs W h hbo
 have hbt := fun F R a b hF hR ha hb hab hrk W => between_any F R a b hF hR ha hb hab hrk W
 have hV : castW ⟨F, R, xs, bl, ca, pa, ha, fu⟩ ⟨a, b, pr⟩ = if kindI (xs[a]?.getD 0) ≠ 6 then (none, false) else casW ⟨F, R, xs, bl, ca, pa, ha, fu⟩ ⟨a, b, pr⟩ casL := rfl
 have hcw : ∀ cc l, casW ⟨F, R, xs, bl, ca, pa, ha, fu⟩ ⟨a, b, pr⟩ (cc :: l) = if cc.bl ≠ bl ∨ ca.toNat &&& cc.bit = 0 ∨ (cc.fr : Int) ≠ a ∨ (cc.tg : Int) ≠ b then casW ⟨F, R, xs, bl, ca, pa, ha, fu⟩ ⟨a, b, pr⟩ l else (some cc, decide (btwW F R cc.fr cc.co &&& setW gNon xs xs.length = 0)) := fun cc l => rfl
 have hc0 : casW ⟨F, R, xs, bl, ca, pa, ha, fu⟩ ⟨a, b, pr⟩ [] = (none, false) := rfl
 have hocl : setW gNon xs xs.length < 18446744073709551616 := setW_lt _ _ (by rw [hlen]; exact Nat.mul_le_mul hF.2 hR.2)
 generalize castW ⟨F, R, xs, bl, ca, pa, ha, fu⟩ ⟨a, b, pr⟩ = V at *
 generalize casW ⟨F, R, xs, bl, ca, pa, ha, fu⟩ ⟨a, b, pr⟩ = CW at *
 generalize setW gNon xs xs.length = oc at *
 obtain ⟨g, o, rfl, hgl, hcc⟩ := hx.at hla
 have hca1 := hcc a hla
 clear hcc
 obtain ⟨x, hxe⟩ : ∃ x, xs[a]?.getD 0 = x := ⟨_, rfl⟩
 rw [hxe] at hca1 hax hV
 have hkd := fun W => kind64_any x (by omega) W
 have hA := ((HasO.new w (.cells (posCs F R (some ⟨g, o, none⟩) xs.length c bl ca pa ha fu).toArray 26)).alloc (.cells #[.int .i64 a, .int .i64 b, .int .i8 pr] 40)).alloc (.cells zeroCas.toArray 104)
 have hM := (HasO.new' (w.alloc (.cells (posCs F R (some ⟨g, o, none⟩) xs.length c bl ca pa ha fu).toArray 26)) (.cells #[.int .i64 a, .int .i64 b, .int .i8 pr] 40) (q := w.heap.size + 1) (by simp)).alloc (.cells zeroCas.toArray 104)
 have hZ := HasO.new' ((w.alloc (.cells (posCs F R (some ⟨g, o, none⟩) xs.length c bl ca pa ha fu).toArray 26)).alloc (.cells #[.int .i64 a, .int .i64 b, .int .i8 pr] 40)) (.cells zeroCas.toArray 104) (q := w.heap.size + 1 + 1) (by simp)
 have hB := ((below_box w (.cells (posCs F R (some ⟨g, o, none⟩) xs.length c bl ca pa ha fu).toArray 26)).alloc (by simp) (.cells #[.int .i64 a, .int .i64 b, .int .i8 pr] 40)).alloc (by simp; omega) (.cells zeroCas.toArray 104)
 have hg1 := hg.call hB
 have hx1 := hx.call hB
 have hcx1 := (bcell hB).1 g (o + a) hgl
 rw [hca1] at hcx1
 have hgl1 := Nat.lt_of_lt_of_le hgl hB.size
 have hii : (a : Int) < xs.length := by omega
 have hc1 := hA.cells
 have hc2 := hM.cells
 have hl1 := hA.lt
 have hl2 := hM.lt
 have hl3 := hZ.lt
 replace hlen := Lib.hid hlen
 replace hor := Lib.hid hor
 replace hbo := Lib.hid hbo
 replace hxe := Lib.hid hxe
 clear hx hg
 go_enter Tryz.func62, Tryz.ntmps62
 go_wp2_with fail
 show Calls _ _ _ (((w.alloc (.cells (posCs F R (some ⟨g, o, none⟩) xs.length c bl ca pa ha fu).toArray 26)).alloc (.cells #[.int .i64 a, .int .i64 b, .int .i8 pr] 40)).alloc (.cells zeroCas.toArray 104)) _
 generalize ((w.alloc (.cells (posCs F R (some ⟨g, o, none⟩) xs.length c bl ca pa ha fu).toArray 26)).alloc (.cells #[.int .i64 a, .int .i64 b, .int .i8 pr] 40)).alloc (.cells zeroCas.toArray 104) = w1 at *
 clear hca1 hgl
 refine (hkd _).mono ?_
 rintro e w2 ⟨rfl, rfl⟩
 by_cases hk : kindI x = 6
 rotate_left
 ·have hkk : ((kindI x : Int) != 6) = true := by simp [hk]
  rw [if_pos hk] at hV
  replace hV := Lib.hid hV
  generalize kindI x = k at *
  have hi : Hid ((Tryz.prog.info? 104).map (·.size) = some zeroCas.toArray.size) := Lib.hid (by kernel_rfl)
  have ho : Hid (zeroCas.toArray.all (·.oneCell') = true) := Lib.hid (by simp [Value.oneCell'])
  go_wp2_with ((refine wpList_storeAgg rfl 104 (.tmp 4) (.tmp 18) rfl (w.heap.size + 1 + 1) zeroCas.toArray rfl rfl 104 _ hZ hi.out rfl ho.out ?_); rintro w3 rfl)
  have hZ3 := setRow_hasO (cells := zeroCas.toArray) hZ
  have hB3 : RowKit.Below w.heap.size w (w1.setRow (w.heap.size + 1 + 1) zeroCas.toArray) := setRow_below hB (by omega) hB.size
  go_wp2_with fail
  refine bodyPost_ret (results_ct (fn := Tryz.f62) Tryz.results62 rfl hZ3 (by kernel_rfl) (by kernel_rfl) rfl) rfl ?_
  exact ⟨by rw [hV.out]; rfl, hB3⟩
 ·have hkk : ((kindI x : Int) != 6) = false := by simp [hk]
  rw [if_neg (by simp [hk])] at hV
  have hld := ld2 w1 hg1
  have hix := ix2
  generalize kindI x = k at *
  generalize casV.toArray = cv at *
  replace hV := Lib.hid hV
  go_wp2_with (with_reducible refine wpList_loadG rfl 150 (.global 2) rfl rfl hld ?_)
  go_loopg [20] 5 (fun q iv wr => ∃ i : Nat, q + i = 5 ∧ i ≤ 4 ∧ iv = .int .i64 i ∧ Hid (CW (casL.drop i) = V) ∧ RowKit.Below w1.heap.size w1 wr)
  case atStart => exact ⟨0, rfl, Nat.zero_le _, rfl, Lib.hid (by rw [hV.out]; rfl), Below.refl _ _⟩
  case round =>
   obtain ⟨i, hq, hi, rfl, hcv, hbr⟩ := hrel
   have hAr := hA.call hbr
   have hMr := hM.call hbr
   have hZr := hZ.call hbr
   have hBr := below_call hB hB.size hbr
   have hgr := hg1.call hbr
   have hxr := hx1.call hbr
   by_cases hlt : i < 4
   ·have hii : (i : Int) < 4 := by omega
    obtain ⟨cc, hc, _, hix2⟩ := hix i hlt
    obtain ⟨k1, k2, k3, k4, k5, k6, k7, k8⟩ := cas_at hc
    have hnx := hcw cc (casL.drop (i + 1))
    rw [← cas_drop hc, hcv.out] at hnx
    have e2 : ca.toNat &&& cc.bit = 0 ↔ (bits .and .u8 ca (cc.bit : Nat) == 0) = true := by
     have h1 := u8_and_nat ca.toNat cc.bit (by omega) k1
     rw [show ((ca.toNat : Nat) : Int) = ca by omega] at h1
     rw [h1]; simp
    have hsk : (cc.bl == bl) = false ∨ (bits .and .u8 ca (cc.bit : Nat) == 0) = true ∨ ((cc.fr : Int) != a) = true ∨ ((cc.tg : Int) != b) = true → Hid (CW (casL.drop (i + 1)) = V) := fun h => Lib.hid (by
     rw [hnx, if_pos]
     simpa [← e2] using h)
    have hht : (cc.bl == bl) = true → (bits .and .u8 ca (cc.bit : Nat) == 0) = false → ((cc.fr : Int) != a) = false → ((cc.tg : Int) != b) = false → Hid (V = (some cc, decide (btwW F R cc.fr cc.co &&& oc = 0))) := fun h1 h2 h3 h4 => Lib.hid (by
     rw [hnx, if_neg]
     have h5 : ¬ (ca.toNat &&& cc.bit = 0) := fun h => by rw [e2.1 h] at h2; cases h2
     simp only [bne_eq_false_iff_eq, beq_iff_eq] at h1 h3 h4
     simp [h1, h3, h4, h5])
    clear hix hcw e2 hnx hA hM hZ hc1 hc2 hl1 hl2 hl3 hcv
    have hb3 := below_box wr (.cells cc.cs.toArray 104)
    have hQ := HasO.new wr (.cells cc.cs.toArray 104)
    have hA3 := hAr.call hb3
    have hM3 := hMr.call hb3
    have hZ3 := hZr.call hb3
    have hB3 := below_call hBr hBr.size hb3
    have hb4 := below_call hbr hbr.size hb3
    have hx3 := hxr.call hb3
    have c1 := hAr.cells
    have c2 := hMr.cells
    have l1 := hAr.lt
    have l2 := hMr.lt
    have hlq : wr.heap.size < (wr.alloc (.cells cc.cs.toArray 104)).heap.size := by simp
    rcases z1 : (cc.bl == bl) with _ | _ <;> rcases z2 : (bits .and .u8 ca (cc.bit : Nat) == 0) with _ | _ <;> rcases z3 : ((cc.fr : Int) != a) with _ | _ <;> rcases z4 : ((cc.tg : Int) != b) with _ | _
    case true.false.false.false =>
     have hV := hht z1 z2 z3 z4
     clear hsk hht
     have hca0 : ca ≠ 0 := by
      rintro rfl
      have h1 := u8_and_nat 0 cc.bit (by decide) k1
      rw [Nat.zero_and] at h1
      rw [show ((0 : Nat) : Int) = 0 from rfl] at h1
      rw [h1] at z2
      cases z2
     obtain ⟨rfl, rfl⟩ := h88 hca0
     have hbt := hbt 8 8 cc.fr cc.co hF hR (by omega) (by omega) k7 k8
     have hbl := btwW_lt (a := cc.fr) (b := cc.co) hF hR
     have ean := u64_and_nat _ _ hbl hocl
     have hV : Hid (V = (some cc, ((btwW 8 8 cc.fr cc.co &&& oc : Nat) : Int) == 0)) := Lib.hid (by rw [hV.out]; congr 1; simp [BEq.beq])
     generalize btwW 8 8 cc.fr cc.co &&& oc = N at *
     generalize btwW 8 8 cc.fr cc.co = S at *
     go_wp2_with fail
     refine (hbt _).mono ?_
     rintro e w4 ⟨rfl, hb5⟩
     have hA4 := hA3.call hb5
     have hQ4 := hQ.call hb5
     have hZ4 := hZ3.call hb5
     have hB4 := below_call hB3 hB3.size hb5
     have hx4 := hx3.call hb5
     have hq3 : w.heap.size + 1 + 1 < wr.heap.size := hZr.lt
     have hno : w.heap.size ≠ w.heap.size + 1 + 1 := by omega
     have hnq : wr.heap.size ≠ w.heap.size + 1 + 1 := by omega
     clear c1 c2 l1 l2 hlq hA3 hM3 hZ3 hb5 hQ hb3 hAr hMr hZr hbr hgr hxr hx3 hB3 hb4 hbt
     obtain ⟨Wk, hWk⟩ : ∃ Wk : Nat → World, Wk = fun k => match k with | 0 => w4 | _ => w4.setRow (w.heap.size + 1 + 1) cc.cs.toArray := ⟨_, rfl⟩
     have hW0 : Wk 0 = w4 := by subst hWk; rfl
     have hW1 : Wk (0 + 1) = (Wk 0).setRow (w.heap.size + 1 + 1) cc.cs.toArray := by subst hWk; rfl
     have m1 := row_grk (Wk := Wk) (fun k => by rw [hWk]; cases k with | zero => exact hA4 | succ k => exact hA4.setRow_far hno)
     have m2 := row_grk (Wk := Wk) (fun k => by rw [hWk]; cases k with | zero => exact hQ4 | succ k => exact hQ4.setRow_far hnq)
     have t2 := call_gr (w := Wk 0) (fun W h => hoc W (hx4.call (by rw [hW0] at h; exact h)))
     have hZ0 : HasO (Wk 0) (w.heap.size + 1 + 1) (.cells zeroCas.toArray 104 (0, 0)) := by rw [hW0]; exact hZ4
     clear hWk
     replace hW1 := Lib.hid hW1
     go_wp2_with fail
     refine wp_region_turn [6] [(0, 0), (0, 1), (0, 1), (0, 0), (0, 1), (0, 1), (9, 9), (1, 1)] Wk (by kernel_rfl) (by kernel_rfl) hW0 ?_
     replace hW0 := Lib.hid hW0
     refine wpT_q 0 rfl rfl ?_
     go_big_quiet_step (fail)
     refine wpQuiet_nil ?_
     refine wpT_f rfl rfl ?_
     go_big_quiet_step (fail)
     refine wpQuiet_nil ?_
     refine wpT_f rfl rfl ?_
     go_big_quiet_step (fail)
     refine wpQuiet_nil ?_
     refine wpT_q 0 rfl rfl ?_
     go_big_quiet_step (exact t2 _ _)
     refine wpQuiet_nil ?_
     refine wpT_f rfl rfl ?_
     go_big_quiet_step (fail)
     refine wpQuiet_nil ?_
     refine wpT_f rfl rfl ?_
     go_big_quiet_step (fail)
     refine wpQuiet_nil ?_
     refine wpT_r 0 rfl rfl 104 (.tmp 4) (.tmp 60) rfl rfl rfl hZ0 (by kernel_rfl) rfl (by simp [Value.oneCell']) hW1.out rfl ?_
     refine wpT_q 1 rfl rfl ?_
     go_big_quiet_step (fail)
     refine wpQuiet_nil ?_
     refine wpT_nil ?_
     intro w5 hb6
     have hw1 : Wk [6].length = w4.setRow (w.heap.size + 1 + 1) cc.cs.toArray := by rw [← hW0.out]; exact hW1.out
     rw [hw1] at hb6
     have hZ5 := (setRow_hasO (cells := cc.cs.toArray) hZ4).call hb6
     have hB5 : RowKit.Below w.heap.size w (w4.setRow (w.heap.size + 1 + 1) cc.cs.toArray) := setRow_below hB4 (by omega) hB4.size
     have hB6 := below_call hB5 hB5.size hb6
     clear hW1 hw1 hb6 m1 m2 t2 hZ0 hB5
     go_wp2_with fail
     refine bodyPost_ret (results_ct (fn := Tryz.f62) Tryz.results62 rfl hZ5 (by kernel_rfl) (by kernel_rfl) rfl) rfl ?_
     exact ⟨by rw [hV.out]; rfl, hB6⟩
    all_goals
     have hcv : Hid (CW (casL.drop (i + 1)) = V) := hsk (by simp [z1, z2, z3, z4])
     go_wp2_with fail
     go_roundg (gk - 1)
     case measure => omega
     case rel => exact ⟨i + 1, by omega, by omega, by go_num, hcv, below_call hbr hbr.size (below_box _ _)⟩
   ·obtain rfl : i = 4 := by omega
    have hcv : Hid (V = (none, false)) := Lib.hid (by rw [← hcv.out]; exact hc0)
    have hi : Hid ((Tryz.prog.info? 104).map (·.size) = some zeroCas.toArray.size) := Lib.hid (by kernel_rfl)
    have ho : Hid (zeroCas.toArray.all (·.oneCell') = true) := Lib.hid (by simp [Value.oneCell'])
    go_wp2_with ((refine wpList_storeAgg rfl 104 (.tmp 4) (.tmp 67) rfl (w.heap.size + 1 + 1) zeroCas.toArray rfl rfl 104 _ hZr hi.out rfl ho.out ?_); rintro w3 rfl)
    have hZ3 := setRow_hasO (cells := zeroCas.toArray) hZr
    have hB3 : RowKit.Below w.heap.size w (wr.setRow (w.heap.size + 1 + 1) zeroCas.toArray) := setRow_below hBr (by omega) hBr.size
    refine bodyPost_ret (results_ct (fn := Tryz.f62) Tryz.results62 rfl hZ3 (by kernel_rfl) (by kernel_rfl) rfl) rfl ?_
    exact ⟨by rw [hcv.out]; rfl, hB3⟩
theorem ta_no (x : Int) (w : World) : (Instr.typeAssert (.iface 31 (.int .i64 x)) 20 31 true).run Tryz.prog w = .ok (.tuple #[.int .i64 x, .bool true]) w := by kernel_rfl
theorem eq_nilI (x : Int) (w : World) : (binOp .eql 20 (.iface 31 (.int .i64 x)) .nilIface).run Tryz.prog w = .ok (.bool false) w := by kernel_rfl
theorem eq_nil2 (w : World) : (binOp .eql 20 .nilIface .nilIface).run Tryz.prog w = .ok (.bool true) w := by kernel_rfl
set_option maxRecDepth 100000 in
theorem ref_yes (q : Nat) (x : Value) (n : Int) (older : List PanicEntry) (w : World) (h : HasO w q (.cells #[x] 31 (0, 0))) :
  CallsD Tryz.prog 59 #[.pointer (some ⟨q, 0, none⟩)] (.panicking ({ v := .iface 31 (.int .i64 n), recovered := false } :: older)) w fun e u' w' =>
   e = .returned (.tuple #[]) ∧ u' = .panicking ({ v := .iface 31 (.int .i64 n), recovered := true } :: older) ∧ w' = w.setCell ⟨q, 0, none⟩ (.int .i64 n) := by
 refine callsD_of_wpS Tryz.func59 rfl fun c₀ cs hu => ?_
 simp only [Tryz.ntmps59, List.size_toArray, List.length_cons, List.length_nil, Nat.reduceAdd, Nat.reduceSub, Array.replicate_succ, Array.replicate_zero, List.push_toArray, List.append_toArray, List.nil_append, List.cons_append]
 apply wpS_seq
 apply wpS_region
 simp [wpOpsS, go_sem, recoverD, hu, Exit.thenS]
 refine wpS_of_wp ?_
 have hc := h.cells 0
 have hf := h.frozen
 have hl := h.lt
 have e1 := eq_nilI n
 have e2 := ta_no n
 go_wp2_with fail
 cases c₀
 simp_all [bodyPostS, results, Tryz.results59]
set_option maxRecDepth 100000 in
theorem ref_idle (q : Nat) (w : World) :
  CallsD Tryz.prog 59 #[.pointer (some ⟨q, 0, none⟩)] .returning w fun e u' w' => e = .returned (.tuple #[]) ∧ u' = .returning ∧ w' = w := by
 refine callsD_of_wpS Tryz.func59 rfl fun c₀ cs hu => ?_
 simp only [Tryz.ntmps59, List.size_toArray, List.length_cons, List.length_nil, Nat.reduceAdd, Nat.reduceSub, Array.replicate_succ, Array.replicate_zero, List.push_toArray, List.append_toArray, List.nil_append, List.cons_append]
 apply wpS_seq
 apply wpS_region
 simp [wpOpsS, go_sem, recoverD, hu, Exit.thenS]
 refine wpS_of_wp ?_
 have e1 := eq_nil2
 go_wp2_with fail
 cases c₀
 simp_all [bodyPostS, results, Tryz.results59]
abbrev zeroPos : List Value := posCs 0 0 none 0 0 false 0 0 0 0
abbrev zeroUnd : List Value := [.int .i64 0, .int .i64 0, .int .i8 0, .int .i8 0, .int .i64 0, .int .u8 0, .int .i64 0, .int .i64 0, .int .i64 0]
set_option maxRecDepth 100000 in
theorem last_no (qe qo qu : Nat) (n : Int) (hn : n ≠ 0) (oo ou : Array Value) (w : World) (he : HasO w qe (.cells #[.int .i64 n] 31 (0, 0))) (ho : HasO w qo (.cells oo 26 (0, 0))) (hos : oo.size = 8) (hu : HasO w qu (.cells ou 54 (0, 0))) (hus : ou.size = 9) (hne : qo ≠ qu) :
  CallsD Tryz.prog 58 #[.pointer (some ⟨qe, 0, none⟩), .pointer (some ⟨qo, 0, none⟩), .pointer (some ⟨qu, 0, none⟩)] .returning w fun e u' w' => e = .returned (.tuple #[]) ∧ u' = .returning ∧ w' = (w.setRow qo zeroPos.toArray).setRow qu zeroUnd.toArray := by
 refine callsD_of_wpS Tryz.func58 rfl fun c₀ cs hm => ?_
 simp only [Tryz.ntmps58, List.size_toArray, List.length_cons, List.length_nil, Nat.reduceAdd, Nat.reduceSub, Array.replicate_succ, Array.replicate_zero, List.push_toArray, List.append_toArray, List.nil_append, List.cons_append]
 refine wpS_of_wp ?_
 have hc := he.cells 0
 have hl := he.lt
 have hz : ((n : Int) != 0) = true := by simp [hn]
 have hu1 := hu.setRow_far (g := qo) (cells := zeroPos.toArray) (fun h => hne h.symm)
 have hi1 : Hid ((Tryz.prog.info? 26).map (·.size) = some zeroPos.toArray.size) := Lib.hid (by kernel_rfl)
 have hi2 : Hid ((Tryz.prog.info? 54).map (·.size) = some zeroUnd.toArray.size) := Lib.hid (by kernel_rfl)
 have h11 : Hid (zeroPos.toArray.all (·.oneCell') = true) := Lib.hid (by simp [Value.oneCell'])
 have h12 : Hid (zeroUnd.toArray.all (·.oneCell') = true) := Lib.hid (by simp [Value.oneCell'])
 have hos : Hid (oo.size = zeroPos.toArray.size) := Lib.hid hos
 have hus : Hid (ou.size = zeroUnd.toArray.size) := Lib.hid hus
 go_wp2_with (first | ((refine wpList_storeAgg rfl 26 (.tmp 1) (.tmp 5) rfl qo zeroPos.toArray rfl rfl 26 _ ho hi1.out hos.out h11.out ?_); rintro w3 rfl) | ((refine wpList_storeAgg rfl 54 (.tmp 2) (.tmp 6) rfl qu zeroUnd.toArray rfl rfl 54 _ hu1 hi2.out hus.out h12.out ?_); rintro w3 rfl) | fail)
 cases c₀
 simp_all [bodyPostS, results, Tryz.results58]
set_option maxRecDepth 100000 in
theorem last_ok (qe qo qu : Nat) (w : World) (he : HasO w qe (.cells #[.int .i64 0] 31 (0, 0))) :
  CallsD Tryz.prog 58 #[.pointer (some ⟨qe, 0, none⟩), .pointer (some ⟨qo, 0, none⟩), .pointer (some ⟨qu, 0, none⟩)] .returning w fun e u' w' => e = .returned (.tuple #[]) ∧ u' = .returning ∧ w' = w := by
 refine callsD_of_wpS Tryz.func58 rfl fun c₀ cs hm => ?_
 simp only [Tryz.ntmps58, List.size_toArray, List.length_cons, List.length_nil, Nat.reduceAdd, Nat.reduceSub, Array.replicate_succ, Array.replicate_zero, List.push_toArray, List.append_toArray, List.nil_append, List.cons_append]
 refine wpS_of_wp ?_
 have hc := he.cells 0
 have hl := he.lt
 go_wp2_with fail
 cases c₀
 simp_all [bodyPostS, results, Tryz.results58]
theorem results_ccc {P : Program} {fn : Func} {p u x : Tmp} {ty ty2 ty3 : TypeId} (h : fn.results = #[.cell p ty, .cell u ty2, .cell x ty3]) {tmps : Array Value} {w : World} {g g2 g3 : Nat} {t t2 : TypeId} {cs cs2 : Array Value} {n : Value}
  (hp : tmps.getD p undef = .pointer (some ⟨g, 0, none⟩)) (hg : HasO w g (.cells cs t (0, 0))) (hr : isRow P ty cs.size = true)
  (hu : tmps.getD u undef = .pointer (some ⟨g2, 0, none⟩)) (hg2 : HasO w g2 (.cells cs2 t2 (0, 0))) (hr2 : isRow P ty2 cs2.size = true)
  (hx : tmps.getD x undef = .pointer (some ⟨g3, 0, none⟩)) (hg3 : w.cell? ⟨g3, 0, none⟩ = some n) (hr3 : isScal P ty3 = true) {v : Value} (hv : v = .tuple #[.agg cs, .agg cs2, n]) :
  (results fn tmps).run P w = .ok v w := by
 subst hv
 have e1 : (loadVar ty ⟨g, 0, none⟩).run P w = .ok (.agg cs) w := by
  have := run_loadA (P := P) (w := w) (ty := ty) (g := g) (b := 0) cs.toList (by simpa using hr) (fun j v hv => by rw [Nat.zero_add, hg.cells j]; simpa using hv)
  simpa using this
 have e2 : (loadVar ty2 ⟨g2, 0, none⟩).run P w = .ok (.agg cs2) w := by
  have := run_loadA (P := P) (w := w) (ty := ty2) (g := g2) (b := 0) cs2.toList (by simpa using hr2) (fun j v hv => by rw [Nat.zero_add, hg2.cells j]; simpa using hv)
  simpa using this
 have e3 := run_loadS (P := P) (w := w) (ty := ty3) (p := ⟨g3, 0, none⟩) hr3 hg3
 have hp' : tmps[p]?.getD undef = .pointer (some ⟨g, 0, none⟩) := by simpa using hp
 have hu' : tmps[u]?.getD undef = .pointer (some ⟨g2, 0, none⟩) := by simpa using hu
 have hx' : tmps[x]?.getD undef = .pointer (some ⟨g3, 0, none⟩) := by simpa using hx
 simp [results, h, hp', hu', hx', asAddr, e1, e2, e3]
abbrev mkDs (qe qo qu : Nat) : List Deferred := [{ target := .fn (.func 59) #[], args := #[.pointer (some ⟨qe, 0, none⟩)] }, { target := .fn (.func 58) #[.pointer (some ⟨qe, 0, none⟩), .pointer (some ⟨qo, 0, none⟩), .pointer (some ⟨qu, 0, none⟩)], args := #[] }]
theorem mk_no {tmps : Array Value} {R : Ending → World → Prop} (qe qo qu : Nat) (n z : Int) (hn : n ≠ 0) (oo ou : Array Value) (w w0 : World) (h4 : tmps.getD 4 undef = .pointer (some ⟨qo, 0, none⟩)) (h5 : tmps.getD 5 undef = .pointer (some ⟨qu, 0, none⟩)) (h6 : tmps.getD 6 undef = .pointer (some ⟨qe, 0, none⟩))
  (he : HasO w qe (.cells #[.int .i64 z] 31 (0, 0))) (ho : HasO w qo (.cells oo 26 (0, 0))) (hos : oo.size = 8) (hu : HasO w qu (.cells ou 54 (0, 0))) (hus : ou.size = 9) (hB : RowKit.Below w0.heap.size w0 w) (h1 : w0.heap.size ≤ qe) (h2 : w0.heap.size ≤ qo) (h3 : w0.heap.size ≤ qu)
  (hR : ∀ w', RowKit.Below w0.heap.size w0 w' → R (.returned (.tuple #[.agg zeroPos.toArray, .agg zeroUnd.toArray, .int .i64 n])) w') : Leaves Tryz.prog Tryz.f23 tmps R (mkDs qe qo qu) (.panicking (noP n)) w := by
 have hoe : qe ≠ qo := he.ne_ ho (by intro h; injection h with h; rw [← h] at hos; cases hos)
 have hue : qe ≠ qu := he.ne_ hu (by intro h; injection h with h; rw [← h] at hus; cases hus)
 have hou : qo ≠ qu := ho.ne_ hu (by intro h; injection h with h; rw [h] at hos; omega)
 refine leaves_cons (f := 59) (args := #[.pointer (some ⟨qe, 0, none⟩)]) (by simp) (by simp [go_sem]) ?_
 refine (ref_yes qe _ n [] w he).mono ?_
 rintro e u' w1 ⟨rfl, rfl, rfl⟩
 have he1 := he.set_ 0 (.int .i64 n)
 have ho1 := ho.far (p := ⟨qe, 0, none⟩) (fun h => hoe h.symm) (.int .i64 n)
 have hu1 := hu.far (p := ⟨qe, 0, none⟩) (fun h => hue h.symm) (.int .i64 n)
 show Leaves _ _ _ _ _ .returning _
 refine leaves_cons (f := 58) (args := #[.pointer (some ⟨qe, 0, none⟩), .pointer (some ⟨qo, 0, none⟩), .pointer (some ⟨qu, 0, none⟩)]) (by simp) (by simp [go_sem]) ?_
 refine (last_no qe qo qu n hn oo ou _ he1 ho1 hos hu1 hus hou).mono ?_
 rintro e u' w2 ⟨rfl, rfl, rfl⟩
 have ho2 := (setRow_hasO (cells := zeroPos.toArray) ho1).setRow_far (g := qu) (cells := zeroUnd.toArray) hou
 have hu2 := setRow_hasO (cells := zeroUnd.toArray) (hu1.setRow_far (g := qo) (cells := zeroPos.toArray) (fun h => hou h.symm))
 have he2 := (he1.setRow_far (g := qo) (cells := zeroPos.toArray) hoe).setRow_far (g := qu) (cells := zeroUnd.toArray) hue
 refine ⟨_, results_ccc (fn := Tryz.f23) Tryz.results23 h4 ho2 (by kernel_rfl) h5 hu2 (by kernel_rfl) h6 (he2.cells 0) (by kernel_rfl) rfl, hR _ ?_⟩
 have hB1 : RowKit.Below w0.heap.size w0 (w.setCell ⟨qe, 0, none⟩ (.int .i64 n)) := hB.setCell h1 _
 exact setRow_below (setRow_below hB1 h2 hB1.size) h3 (by rw [setRow_size]; exact hB1.size)
theorem mk_ok {tmps : Array Value} {R : Ending → World → Prop} (qe qo qu : Nat) (oo ou : Array Value) (w : World) (h4 : tmps.getD 4 undef = .pointer (some ⟨qo, 0, none⟩)) (h5 : tmps.getD 5 undef = .pointer (some ⟨qu, 0, none⟩)) (h6 : tmps.getD 6 undef = .pointer (some ⟨qe, 0, none⟩))
  (he : HasO w qe (.cells #[.int .i64 0] 31 (0, 0))) (ho : HasO w qo (.cells oo 26 (0, 0))) (hos : isRow Tryz.prog 26 oo.size = true) (hu : HasO w qu (.cells ou 54 (0, 0))) (hus : isRow Tryz.prog 54 ou.size = true)
  (hR : R (.returned (.tuple #[.agg oo, .agg ou, .int .i64 0])) w) : Leaves Tryz.prog Tryz.f23 tmps R (mkDs qe qo qu) .returning w := by
 refine leaves_cons (f := 59) (args := #[.pointer (some ⟨qe, 0, none⟩)]) (by simp) (by simp [go_sem]) ?_
 refine (ref_idle qe w).mono ?_
 rintro e u' w1 ⟨rfl, rfl, rfl⟩
 refine leaves_cons (f := 58) (args := #[.pointer (some ⟨qe, 0, none⟩), .pointer (some ⟨qo, 0, none⟩), .pointer (some ⟨qu, 0, none⟩)]) (by simp [settle]) (by simp [go_sem]) ?_
 refine (last_ok qe qo qu _ he).mono ?_
 rintro e u' w2 ⟨rfl, rfl, rfl⟩
 exact ⟨_, results_ccc (fn := Tryz.f23) Tryz.results23 h4 ho hos h5 hu hus h6 (he.cells 0) (by kernel_rfl) rfl, hR⟩
end Go.Proofs.YtefmplccbkmalaaGreatDoor
