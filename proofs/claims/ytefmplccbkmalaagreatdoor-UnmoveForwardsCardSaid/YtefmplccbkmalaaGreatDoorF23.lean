import Derived.Test.YtefmplccbkmalaaGreatDoorF20
import Derived.Test.YtefmplccbkmalaaGreatDoorF21
import Derived.Test.YtefmplccbkmalaaGreatDoorF22
import Derived.Laws.OwnMore
import Derived.WalkSpells
set_option maxHeartbeats 12800000
namespace Go.Proofs.YtefmplccbkmalaaGreatDoor
open Go.RowKit Go.Sort Go.BigFrame

abbrev zeroCas : List Value := [.int .u8 0, .bool false, .int .i64 0, .int .i64 0, .int .i64 0, .int .i64 0]
def casCs (o : Option Cas) : List Value := match o with | some c => c.cs | none => zeroCas
theorem cas_at {i : Nat} {c : Cas} (h : casL[i]? = some c) : c.bit < 256 ∧ 0 < c.bit ∧ c.fr < 64 ∧ c.tg < 64 ∧ c.co < 64 ∧ c.cr < 64 ∧ c.fr ≠ c.co ∧ c.co / 8 = c.fr / 8 := by
 have hm := List.mem_of_getElem? h
 unfold casL at hm
 simp only [List.mem_cons, List.not_mem_nil, or_false] at hm
 rcases hm with rfl | rfl | rfl | rfl <;> decide
theorem cas_drop {i : Nat} {c : Cas} (h : casL[i]? = some c) : casL.drop i = c :: casL.drop (i + 1) := by
 obtain ⟨hl, e⟩ := List.getElem?_eq_some_iff.1 h
 rw [List.drop_eq_getElem_cons hl, e]
theorem row_grk {Wk : Nat → World} {q : Nat} {cs : Array Value} {t : TypeId} (h : ∀ k, HasO (Wk k) q (.cells cs t (0, 0))) (k d : Nat) (os : Array Obj) (j : Nat) : (grow (redrawn (Wk k) d) os).cell? ⟨q, j, none⟩ = cs[j]? := row_gr (h k) d os j
theorem btwR_lt {b : Int} {n : Nat} : ∀ (L : List Int) (S : Nat), (∀ x ∈ L, 0 ≤ x ∧ x < n) → S < 2 ^ n → btwR b L S < 2 ^ n := by
 intro L
 induction L with
 | nil => intro S _ h; exact h
 | cons x r ih =>
  intro S hL hS
  have hx := hL x (by simp)
  have h1 : S ||| 2 ^ x.toNat < 2 ^ n := Nat.or_lt_two_pow hS (Nat.pow_lt_pow_right (by decide) (by omega))
  simp only [btwR]
  split
  ·exact hS
  ·exact ih _ (fun y hy => hL y (by simp [hy])) h1
theorem btwW_lt {F R a b : Nat} (hF : 3 ≤ F ∧ F ≤ 8) (hR : 3 ≤ R ∧ R ≤ 8) : btwW F R a b < 18446744073709551616 := by
 unfold btwW
 refine Nat.lt_of_lt_of_le (btwR_lt (n := F * R) _ _ (fun x hx => ?_) (Nat.two_pow_pos _)) (pow_FR hF hR)
 have := rayL_sq x hx
 rw [Int.natCast_mul]; exact this
set_option maxRecDepth 100000 in
theorem castling_any (F R a b : Nat) (ca pa ha fu pr : Int) (bl : Bool) (p : Option Addr) (c : Nat) (xs : List Int) (hF : 3 ≤ F ∧ F ≤ 8) (hR : 3 ≤ R ∧ R ≤ 8) (hlen : xs.length = F * R) (hor : orthB F R xs = true) (hal : a < F * R) (hbl : b < F * R)
  (hca : 0 ≤ ca ∧ ca < 256) (h88 : ca ≠ 0 → F = 8 ∧ R = 8) (w : World) (hg : GlobU w) (hx : Arr .i8 w p xs) :
  Calls Tryz.prog 62 #[.agg (posCs F R p xs.length c bl ca pa ha fu).toArray, .agg #[.int .i64 a, .int .i64 b, .int .i8 pr]] w fun e w' =>
   e = .returned (.tuple #[.agg (casCs (castW ⟨F, R, xs, bl, ca, pa, ha, fu⟩ ⟨a, b, pr⟩).1).toArray, .bool (castW ⟨F, R, xs, bl, ca, pa, ha, fu⟩ ⟨a, b, pr⟩).2]) ∧ Below w.heap.size w w' := by
 have hbo : boardB F R xs = true := by unfold orthB at hor; simp only [Bool.and_eq_true] at hor; exact hor.1
 have h6 := orth6 hor
 have hla : a < xs.length := by omega
 have hax : -6 ≤ xs[a]?.getD 0 ∧ xs[a]?.getD 0 ≤ 6 := h6 _ (by rw [List.getElem?_eq_getElem hla]; exact List.getElem_mem hla)
 have hoc := fun W h => occ_any F R ca pa ha fu bl p c xs W h hbo
 have hbt := fun F R a b hF hR ha hb hab hrk W => between_any F R a b hF hR ha hb hab hrk W
 have hV : castW ⟨F, R, xs, bl, ca, pa, ha, fu⟩ ⟨a, b, pr⟩ = if kindI (xs[a]?.getD 0) ≠ 6 then (none, false) else casW ⟨F, R, xs, bl, ca, pa, ha, fu⟩ ⟨a, b, pr⟩ casL := rfl
 have hcw : ∀ cc l, casW ⟨F, R, xs, bl, ca, pa, ha, fu⟩ ⟨a, b, pr⟩ (cc :: l) = if cc.bl ≠ bl ∨ ca.toNat &&& cc.bit = 0 ∨ (cc.fr : Int) ≠ a ∨ (cc.tg : Int) ≠ b then casW ⟨F, R, xs, bl, ca, pa, ha, fu⟩ ⟨a, b, pr⟩ l else (some cc, decide (btwW F R cc.fr cc.co &&& setW gNon xs xs.length = 0)) := fun cc l => rfl
 have hc0 : casW ⟨F, R, xs, bl, ca, pa, ha, fu⟩ ⟨a, b, pr⟩ [] = (none, false) := rfl
 have hocl : setW gNon xs xs.length < 18446744073709551616 := setW_lt _ _ (by rw [hlen]; exact Nat.mul_le_mul hF.2 hR.2)
 generalize castW ⟨F, R, xs, bl, ca, pa, ha, fu⟩ ⟨a, b, pr⟩ = V at *
 generalize casW ⟨F, R, xs, bl, ca, pa, ha, fu⟩ ⟨a, b, pr⟩ = CW at *
 generalize setW gNon xs xs.length = oc at *
 obtain ⟨g, o, rfl, hgl, hcc⟩ := hx.at hla
 have hca1 := hcc a hla
 clear hcc
 obtain ⟨x, hxe⟩ : ∃ x, xs[a]?.getD 0 = x := ⟨_, rfl⟩
 rw [hxe] at hca1 hax hV
 have hkd := fun W => kind64_any x (by omega) W
 have hA := ((HasO.new w (.cells (posCs F R (some ⟨g, o, none⟩) xs.length c bl ca pa ha fu).toArray 26)).alloc (.cells #[.int .i64 a, .int .i64 b, .int .i8 pr] 40)).alloc (.cells zeroCas.toArray 104)
 have hM := (HasO.new' (w.alloc (.cells (posCs F R (some ⟨g, o, none⟩) xs.length c bl ca pa ha fu).toArray 26)) (.cells #[.int .i64 a, .int .i64 b, .int .i8 pr] 40) (q := w.heap.size + 1) (by simp)).alloc (.cells zeroCas.toArray 104)
 have hZ := HasO.new' ((w.alloc (.cells (posCs F R (some ⟨g, o, none⟩) xs.length c bl ca pa ha fu).toArray 26)).alloc (.cells #[.int .i64 a, .int .i64 b, .int .i8 pr] 40)) (.cells zeroCas.toArray 104) (q := w.heap.size + 1 + 1) (by simp)
 have hB := ((below_box w (.cells (posCs F R (some ⟨g, o, none⟩) xs.length c bl ca pa ha fu).toArray 26)).alloc (by simp) (.cells #[.int .i64 a, .int .i64 b, .int .i8 pr] 40)).alloc (by simp; omega) (.cells zeroCas.toArray 104)
 have hg1 := hg.call hB
 have hx1 := hx.call hB
 have hcx1 := (bcell hB).1 g (o + a) hgl
 rw [hca1] at hcx1
 have hgl1 := Nat.lt_of_lt_of_le hgl hB.size
 have hii : (a : Int) < xs.length := by omega
 have hc1 := hA.cells
 have hc2 := hM.cells
 have hl1 := hA.lt
 have hl2 := hM.lt
 have hl3 := hZ.lt
 replace hlen := Lib.hid hlen
 replace hor := Lib.hid hor
 replace hbo := Lib.hid hbo
 replace hxe := Lib.hid hxe
 clear hx hg
 go_enter Tryz.func62, Tryz.ntmps62
 go_wp2_with fail
 show Calls _ _ _ (((w.alloc (.cells (posCs F R (some ⟨g, o, none⟩) xs.length c bl ca pa ha fu).toArray 26)).alloc (.cells #[.int .i64 a, .int .i64 b, .int .i8 pr] 40)).alloc (.cells zeroCas.toArray 104)) _
 generalize ((w.alloc (.cells (posCs F R (some ⟨g, o, none⟩) xs.length c bl ca pa ha fu).toArray 26)).alloc (.cells #[.int .i64 a, .int .i64 b, .int .i8 pr] 40)).alloc (.cells zeroCas.toArray 104) = w1 at *
 clear hca1 hgl
 refine (hkd _).mono ?_
 rintro e w2 ⟨rfl, rfl⟩
 by_cases hk : kindI x = 6
 rotate_left
 ·have hkk : ((kindI x : Int) != 6) = true := by simp [hk]
  rw [if_pos hk] at hV
  replace hV := Lib.hid hV
  generalize kindI x = k at *
  have hi : Hid ((Tryz.prog.info? 104).map (·.size) = some zeroCas.toArray.size) := Lib.hid (by kernel_rfl)
  have ho : Hid (zeroCas.toArray.all (·.oneCell') = true) := Lib.hid (by simp [Value.oneCell'])
  go_wp2_with ((refine wpList_storeAgg rfl 104 (.tmp 4) (.tmp 18) rfl (w.heap.size + 1 + 1) zeroCas.toArray rfl rfl 104 _ hZ hi.out rfl ho.out ?_); rintro w3 rfl)
  have hZ3 := setRow_hasO (cells := zeroCas.toArray) hZ
  have hB3 : RowKit.Below w.heap.size w (w1.setRow (w.heap.size + 1 + 1) zeroCas.toArray) := setRow_below hB (by omega) hB.size
  go_wp2_with fail
  refine bodyPost_ret (results_ct (fn := Tryz.f62) Tryz.results62 rfl hZ3 (by kernel_rfl) (by kernel_rfl) rfl) rfl ?_
  exact ⟨by rw [hV.out]; rfl, hB3⟩
 ·have hkk : ((kindI x : Int) != 6) = false := by simp [hk]
  rw [if_neg (by simp [hk])] at hV
  have hld := ld2 w1 hg1
  have hix := ix2
  generalize kindI x = k at *
  generalize casV.toArray = cv at *
  replace hV := Lib.hid hV
  go_wp2_with (with_reducible refine wpList_loadG rfl 150 (.global 2) rfl rfl hld ?_)
  go_loopg [20] 5 (fun q iv wr => ∃ i : Nat, q + i = 5 ∧ i ≤ 4 ∧ iv = .int .i64 i ∧ Hid (CW (casL.drop i) = V) ∧ RowKit.Below w1.heap.size w1 wr)
  case atStart => exact ⟨0, rfl, Nat.zero_le _, rfl, Lib.hid (by rw [hV.out]; rfl), Below.refl _ _⟩
  case round =>
   obtain ⟨i, hq, hi, rfl, hcv, hbr⟩ := hrel
   have hAr := hA.call hbr
   have hMr := hM.call hbr
   have hZr := hZ.call hbr
   have hBr := below_call hB hB.size hbr
   have hgr := hg1.call hbr
   have hxr := hx1.call hbr
   by_cases hlt : i < 4
   ·have hii : (i : Int) < 4 := by omega
    obtain ⟨cc, hc, _, hix2⟩ := hix i hlt
    obtain ⟨k1, k2, k3, k4, k5, k6, k7, k8⟩ := cas_at hc
    have hnx := hcw cc (casL.drop (i + 1))
    rw [← cas_drop hc, hcv.out] at hnx
    have e2 : ca.toNat &&& cc.bit = 0 ↔ (bits .and .u8 ca (cc.bit : Nat) == 0) = true := by
     have h1 := u8_and_nat ca.toNat cc.bit (by omega) k1
     rw [show ((ca.toNat : Nat) : Int) = ca by omega] at h1
     rw [h1]; simp
    have hsk : (cc.bl == bl) = false ∨ (bits .and .u8 ca (cc.bit : Nat) == 0) = true ∨ ((cc.fr : Int) != a) = true ∨ ((cc.tg : Int) != b) = true → Hid (CW (casL.drop (i + 1)) = V) := fun h => Lib.hid (by
     rw [hnx, if_pos]
     simpa [← e2] using h)
    have hht : (cc.bl == bl) = true → (bits .and .u8 ca (cc.bit : Nat) == 0) = false → ((cc.fr : Int) != a) = false → ((cc.tg : Int) != b) = false → Hid (V = (some cc, decide (btwW F R cc.fr cc.co &&& oc = 0))) := fun h1 h2 h3 h4 => Lib.hid (by
     rw [hnx, if_neg]
     have h5 : ¬ (ca.toNat &&& cc.bit = 0) := fun h => by rw [e2.1 h] at h2; cases h2
     simp only [bne_eq_false_iff_eq, beq_iff_eq] at h1 h3 h4
     simp [h1, h3, h4, h5])
    clear hix hcw e2 hnx hA hM hZ hc1 hc2 hl1 hl2 hl3 hcv
    have hb3 := below_box wr (.cells cc.cs.toArray 104)
    have hQ := HasO.new wr (.cells cc.cs.toArray 104)
    have hA3 := hAr.call hb3
    have hM3 := hMr.call hb3
    have hZ3 := hZr.call hb3
    have hB3 := below_call hBr hBr.size hb3
    have hb4 := below_call hbr hbr.size hb3
    have hx3 := hxr.call hb3
    have c1 := hAr.cells
    have c2 := hMr.cells
    have l1 := hAr.lt
    have l2 := hMr.lt
    have hlq : wr.heap.size < (wr.alloc (.cells cc.cs.toArray 104)).heap.size := by simp
    rcases z1 : (cc.bl == bl) with _ | _ <;> rcases z2 : (bits .and .u8 ca (cc.bit : Nat) == 0) with _ | _ <;> rcases z3 : ((cc.fr : Int) != a) with _ | _ <;> rcases z4 : ((cc.tg : Int) != b) with _ | _
    case true.false.false.false =>
     have hV := hht z1 z2 z3 z4
     clear hsk hht
     have hca0 : ca ≠ 0 := by
      rintro rfl
      have h1 := u8_and_nat 0 cc.bit (by decide) k1
      rw [Nat.zero_and] at h1
      rw [show ((0 : Nat) : Int) = 0 from rfl] at h1
      rw [h1] at z2
      cases z2
     obtain ⟨rfl, rfl⟩ := h88 hca0
     have hbt := hbt 8 8 cc.fr cc.co hF hR (by omega) (by omega) k7 k8
     have hbl := btwW_lt (a := cc.fr) (b := cc.co) hF hR
     have ean := u64_and_nat _ _ hbl hocl
     have hV : Hid (V = (some cc, ((btwW 8 8 cc.fr cc.co &&& oc : Nat) : Int) == 0)) := Lib.hid (by rw [hV.out]; congr 1; simp [BEq.beq])
     generalize btwW 8 8 cc.fr cc.co &&& oc = N at *
     generalize btwW 8 8 cc.fr cc.co = S at *
     go_wp2_with fail
     refine (hbt _).mono ?_
     rintro e w4 ⟨rfl, hb5⟩
     have hA4 := hA3.call hb5
     have hQ4 := hQ.call hb5
     have hZ4 := hZ3.call hb5
     have hB4 := below_call hB3 hB3.size hb5
     have hx4 := hx3.call hb5
     have hq3 : w.heap.size + 1 + 1 < wr.heap.size := hZr.lt
     have hno : w.heap.size ≠ w.heap.size + 1 + 1 := by omega
     have hnq : wr.heap.size ≠ w.heap.size + 1 + 1 := by omega
     clear c1 c2 l1 l2 hlq hA3 hM3 hZ3 hb5 hQ hb3 hAr hMr hZr hbr hgr hxr hx3 hB3 hb4 hbt
     obtain ⟨Wk, hWk⟩ : ∃ Wk : Nat → World, Wk = fun k => match k with | 0 => w4 | _ => w4.setRow (w.heap.size + 1 + 1) cc.cs.toArray := ⟨_, rfl⟩
     have hW0 : Wk 0 = w4 := by subst hWk; rfl
     have hW1 : Wk (0 + 1) = (Wk 0).setRow (w.heap.size + 1 + 1) cc.cs.toArray := by subst hWk; rfl
     have m1 := row_grk (Wk := Wk) (fun k => by rw [hWk]; cases k with | zero => exact hA4 | succ k => exact hA4.setRow_far hno)
     have m2 := row_grk (Wk := Wk) (fun k => by rw [hWk]; cases k with | zero => exact hQ4 | succ k => exact hQ4.setRow_far hnq)
     have t2 := call_gr (w := Wk 0) (fun W h => hoc W (hx4.call (by rw [hW0] at h; exact h)))
     have hZ0 : HasO (Wk 0) (w.heap.size + 1 + 1) (.cells zeroCas.toArray 104 (0, 0)) := by rw [hW0]; exact hZ4
     clear hWk
     replace hW1 := Lib.hid hW1
     go_wp2_with fail
     refine wp_region_turn [6] [(0, 0), (0, 1), (0, 1), (0, 0), (0, 1), (0, 1), (9, 9), (1, 1)] Wk (by kernel_rfl) (by kernel_rfl) hW0 ?_
     replace hW0 := Lib.hid hW0
     refine wpT_q 0 rfl rfl ?_
     go_big_quiet_step (fail)
     refine wpQuiet_nil ?_
     refine wpT_f rfl rfl ?_
     go_big_quiet_step (fail)
     refine wpQuiet_nil ?_
     refine wpT_f rfl rfl ?_
     go_big_quiet_step (fail)
     refine wpQuiet_nil ?_
     refine wpT_q 0 rfl rfl ?_
     go_big_quiet_step (exact t2 _ _)
     refine wpQuiet_nil ?_
     refine wpT_f rfl rfl ?_
     go_big_quiet_step (fail)
     refine wpQuiet_nil ?_
     refine wpT_f rfl rfl ?_
     go_big_quiet_step (fail)
     refine wpQuiet_nil ?_
     refine wpT_r 0 rfl rfl 104 (.tmp 4) (.tmp 60) rfl rfl rfl hZ0 (by kernel_rfl) rfl (by simp [Value.oneCell']) hW1.out rfl ?_
     refine wpT_q 1 rfl rfl ?_
     go_big_quiet_step (fail)
     refine wpQuiet_nil ?_
     refine wpT_nil ?_
     intro w5 hb6
     have hw1 : Wk [6].length = w4.setRow (w.heap.size + 1 + 1) cc.cs.toArray := by rw [← hW0.out]; exact hW1.out
     rw [hw1] at hb6
     have hZ5 := (setRow_hasO (cells := cc.cs.toArray) hZ4).call hb6
     have hB5 : RowKit.Below w.heap.size w (w4.setRow (w.heap.size + 1 + 1) cc.cs.toArray) := setRow_below hB4 (by omega) hB4.size
     have hB6 := below_call hB5 hB5.size hb6
     clear hW1 hw1 hb6 m1 m2 t2 hZ0 hB5
     go_wp2_with fail
     refine bodyPost_ret (results_ct (fn := Tryz.f62) Tryz.results62 rfl hZ5 (by kernel_rfl) (by kernel_rfl) rfl) rfl ?_
     exact ⟨by rw [hV.out]; rfl, hB6⟩
    all_goals
     have hcv : Hid (CW (casL.drop (i + 1)) = V) := hsk (by simp [z1, z2, z3, z4])
     go_wp2_with fail
     go_roundg (gk - 1)
     case measure => omega
     case rel => exact ⟨i + 1, by omega, by omega, by go_num, hcv, below_call hbr hbr.size (below_box _ _)⟩
   ·obtain rfl : i = 4 := by omega
    have hcv : Hid (V = (none, false)) := Lib.hid (by rw [← hcv.out]; exact hc0)
    have hi : Hid ((Tryz.prog.info? 104).map (·.size) = some zeroCas.toArray.size) := Lib.hid (by kernel_rfl)
    have ho : Hid (zeroCas.toArray.all (·.oneCell') = true) := Lib.hid (by simp [Value.oneCell'])
    go_wp2_with ((refine wpList_storeAgg rfl 104 (.tmp 4) (.tmp 67) rfl (w.heap.size + 1 + 1) zeroCas.toArray rfl rfl 104 _ hZr hi.out rfl ho.out ?_); rintro w3 rfl)
    have hZ3 := setRow_hasO (cells := zeroCas.toArray) hZr
    have hB3 : RowKit.Below w.heap.size w (wr.setRow (w.heap.size + 1 + 1) zeroCas.toArray) := setRow_below hBr (by omega) hBr.size
    refine bodyPost_ret (results_ct (fn := Tryz.f62) Tryz.results62 rfl hZ3 (by kernel_rfl) (by kernel_rfl) rfl) rfl ?_
    exact ⟨by rw [hcv.out]; rfl, hB3⟩
def OArr (W : World) (q cap : Nat) (xs : List Int) : Prop := ∃ cur : Array Value, HasO W q (.cells cur 38 (0, 0)) ∧ xs.length ≤ cap ∧ cur.size = cap ∧ ∀ j, j < xs.length → cur[j]? = some (.int .i8 (xs[j]?.getD 0))
theorem OArr.arr {W : World} {q cap : Nat} {xs : List Int} (h : OArr W q cap xs) : Arr .i8 W (some ⟨q, 0, none⟩) xs := by
 obtain ⟨cur, h1, h2, h3, h4⟩ := h
 exact .inr ⟨q, 0, rfl, h1.lt, fun j hj => by rw [Nat.zero_add, h1.cells j]; exact h4 j hj⟩
theorem OArr.call {W W' : World} {q cap : Nat} {xs : List Int} (h : OArr W q cap xs) (hb : RowKit.Below W.heap.size W W') : OArr W' q cap xs := by
 obtain ⟨cur, h1, h2⟩ := h
 exact ⟨cur, h1.call hb, h2⟩
theorem OArr.lt {W : World} {q cap : Nat} {xs : List Int} (h : OArr W q cap xs) : q < W.heap.size := by
 obtain ⟨cur, h1, _⟩ := h
 exact h1.lt
theorem OArr.far {W : World} {q cap : Nat} {xs : List Int} (h : OArr W q cap xs) {p : Addr} (hp : q ≠ p.block) (u : Value) : OArr (W.setCell p u) q cap xs := by
 obtain ⟨cur, h1, h2⟩ := h
 exact ⟨cur, h1.far hp u, h2⟩
theorem OArr.farR {W : World} {q g cap : Nat} {xs : List Int} (h : OArr W q cap xs) (hp : q ≠ g) (cs : Array Value) : OArr (W.setRow g cs) q cap xs := by
 obtain ⟨cur, h1, h2⟩ := h
 exact ⟨cur, h1.setRow_far hp, h2⟩
theorem OArr.set {W : World} {q cap : Nat} {xs : List Int} (h : OArr W q cap xs) (i : Nat) (v : Int) : OArr (W.setCell ⟨q, i, none⟩ (.int .i8 v)) q cap (xs.set i v) := by
 obtain ⟨cur, h1, h2, h3, h4⟩ := h
 refine ⟨cur.setIfInBounds i (.int .i8 v), h1.set_ i _, by simpa using h2, by simpa using h3, fun j hj => ?_⟩
 rw [List.length_set] at hj
 rw [Array.getElem?_setIfInBounds]
 by_cases e : i = j
 ·subst e
  rw [if_pos rfl, if_pos (by omega), List.getElem?_set_self hj]; rfl
 ·rw [if_neg e, List.getElem?_set_ne e]; exact h4 j hj
theorem OArr.cell {W : World} {q cap : Nat} {xs : List Int} (h : OArr W q cap xs) {j : Nat} (hj : j < xs.length) : W.cell? ⟨q, j, none⟩ = some (.int .i8 (xs[j]?.getD 0)) := by
 obtain ⟨cur, h1, h2, h3, h4⟩ := h
 rw [h1.cells j]; exact h4 j hj
theorem OArr.frozen {W : World} {q cap : Nat} {xs : List Int} (h : OArr W q cap xs) (j : Nat) : W.frozen? ⟨q, j, none⟩ = false := by
 obtain ⟨cur, h1, _⟩ := h
 exact h1.frozen j
theorem OArr.of {W : World} {base : Nat} {v : Value} {xs : List Int} (h : W.ownsRow base 38 1 v xs.length (xs.map (.int .i8))) (h0 : 0 < xs.length) : ∃ q cap, v = .slice (some ⟨q, 0, none⟩) xs.length cap ∧ base ≤ q ∧ OArr W q cap xs := by
 rcases h.2 with ⟨_, h2⟩ | ⟨g, cap, cur, rfl, hg, hh, hc, _, hcs, ht⟩
 ·omega
 ·refine ⟨g, cap, rfl, hg, cur, hh, hc, by omega, fun j hj => ?_⟩
  have h1 : (cur.toList.take (xs.length * 1))[j]? = some (.int .i8 (xs[j]?.getD 0)) := by rw [ht]; simp [hj]
  rw [List.getElem?_take_of_lt (by omega)] at h1
  simpa using h1
theorem Tryz.info38 : (Tryz.prog.info? 38).map (fun i => (i.zero, i.size, i.bytes)) = some (some (.int .i8 0), 1, 1) := by kernel_rfl
theorem arr_news {W : World} {g o : Nat} {xs : List Int} (h : Arr .i8 W (some ⟨g, o, none⟩) xs) : ∀ j u, (xs.map (Value.int .i8))[j]? = some u → W.cell? ((⟨g, o, none⟩ : Addr).add j) = some u := by
 intro j u hu
 have hj : j < xs.length := by have := (List.getElem?_eq_some_iff.1 hu).1; simpa using this
 obtain ⟨b, o', e', hb, hc⟩ := h.at (i := j) hj
 injection e' with e'
 injection e' with e1 e2
 subst e1 e2
 rw [Addr.add_lit, hc j hj]
 simp [hj] at hu ⊢
 exact hu
set_option maxRecDepth 100000 in
theorem clone_any (g o c : Nat) (xs : List Int) (w : World) (hx : Arr .i8 w (some ⟨g, o, none⟩) xs) (h0 : 0 < xs.length) (hl : xs.length ≤ 1000) :
  Calls Tryz.prog 122 #[.slice (some ⟨g, o, none⟩) xs.length c] w fun e w' => ∃ q cap, e = .returned (.slice (some ⟨q, 0, none⟩) xs.length cap) ∧ RowKit.Below w.heap.size w w' ∧ w.heap.size ≤ q ∧ OArr w' q cap xs := by
 obtain ⟨i3, hi3, hz3, hs3, hy3⟩ := info_parts Tryz.info38
 have hown := own_new w w.heap.size 38 [] (Nat.le_refl _) (by simp [maxLen])
 have hb := below_box w (.cells (#[] : Array Value) 38)
 have hx1 := hx.call hb
 have hli : ¬ (xs.length : Int) = 0 := by omega
 have hnil := Lib.run_eql_slice_nil (P := Tryz.prog) w 24 38 (some ⟨g, o, none⟩) xs.length c 0 0 Tryz.underlying24
 go_enter Tryz.func122, Tryz.ntmps122
 go_wp2_with (refine wpList_append_own _ rfl (.tmp 5) (.tmp 6) 24 rfl w.heap.size 38 i3 (.int .i8 0) 1 1 Tryz.underlying24 hi3 hz3 hs3 hy3 rfl (by decide) _ 0 [] rfl hown ⟨g, o, none⟩ xs.length c (xs.map (.int .i8)) rfl (by simp) (arr_news hx1) (by intro u hu; obtain ⟨y, _, rfl⟩ := List.mem_map.1 hu; rfl) (by unfold maxLen; omega) (by omega) (by simp) ?_)
 intro v' w' ho hgr _
 obtain ⟨q, cap, rfl, hq, hO⟩ := OArr.of ho h0
 have hB := (hb.grown hgr (Nat.le_of_lt (by simp)) (fun j e => by simp [Value.ownBlock] at e; omega))
 go_wp2_with fail
 go_ret
 exact ⟨q, cap, rfl, hB, hq, hO⟩
def CopyR (F R ca pa ha fu : Int) (bl : Bool) (xs : List Int) (w : World) (e : Ending) (w' : World) : Prop :=
 ∃ q cap, e = .returned (.agg (posCs F R (some ⟨q, 0, none⟩) xs.length cap bl ca pa ha fu).toArray) ∧ RowKit.Below w.heap.size w w' ∧ w.heap.size ≤ q ∧ OArr w' q cap xs
set_option maxRecDepth 100000 in
theorem copy_any (F R ca pa ha fu : Int) (bl : Bool) (g o c : Nat) (xs : List Int) (w : World) (hx : Arr .i8 w (some ⟨g, o, none⟩) xs) (h0 : 0 < xs.length) (hl : xs.length ≤ 1000) :
  Calls Tryz.prog 65 #[.agg (posCs F R (some ⟨g, o, none⟩) xs.length c bl ca pa ha fu).toArray] w (CopyR F R ca pa ha fu bl xs w) := by
 have hA := (HasO.new w (.cells (posCs F R (some ⟨g, o, none⟩) xs.length c bl ca pa ha fu).toArray 26)).alloc (.cells (posCs 0 0 none 0 0 false 0 0 0 0).toArray 26)
 have hZ := HasO.new' (w.alloc (.cells (posCs F R (some ⟨g, o, none⟩) xs.length c bl ca pa ha fu).toArray 26)) (.cells (posCs 0 0 none 0 0 false 0 0 0 0).toArray 26) (q := w.heap.size + 1) (by simp)
 have hB := (below_box w (.cells (posCs F R (some ⟨g, o, none⟩) xs.length c bl ca pa ha fu).toArray 26)).alloc (by simp) (.cells (posCs 0 0 none 0 0 false 0 0 0 0).toArray 26)
 have hx1 := hx.call hB
 have hc1 := hA.cells
 have hl1 := hA.lt
 have hlZ := hZ.lt
 go_enter Tryz.func65, Tryz.ntmps65
 go_wp2_with fail
 generalize (w.alloc (.cells (posCs F R (some ⟨g, o, none⟩) xs.length c bl ca pa ha fu).toArray 26)).alloc (.cells (posCs 0 0 none 0 0 false 0 0 0 0).toArray 26) = w1 at *
 refine (clone_any g o c xs w1 hx1 h0 hl).mono ?_
 rintro e w2 ⟨q, cap, rfl, hb2, hq, hO⟩
 have hA2 := hA.call hb2
 have hZ2 := hZ.call hb2
 have hB2 := below_call hB hB.size hb2
 clear hc1 hl1 hA hZ hB hx1 hx
 have hqa : q ≠ w.heap.size := by omega
 have hqz : q ≠ w.heap.size + 1 := by omega
 have hqw : w.heap.size ≤ q := by omega
 have hc1 := hA2.cells
 have hf1 := hA2.frozen
 have hl1 := hA2.lt
 have hi : Hid ((Tryz.prog.info? 26).map (·.size) = some (posCs F R (some ⟨q, 0, none⟩) xs.length cap bl ca pa ha fu).toArray.size) := Lib.hid (by kernel_rfl)
 have ho : Hid ((posCs F R (some ⟨q, 0, none⟩) xs.length cap bl ca pa ha fu).toArray.all (·.oneCell') = true) := Lib.hid (by simp [Value.oneCell'])
 have hA3 : HasO (w2.setCell ⟨w.heap.size, 2, none⟩ (.slice (some ⟨q, 0, none⟩) xs.length cap)) w.heap.size (.cells (posCs F R (some ⟨q, 0, none⟩) xs.length cap bl ca pa ha fu).toArray 26 (0, 0)) := hA2.set_ 2 (.slice (some ⟨q, 0, none⟩) xs.length cap)
 have hZ3 := hZ2.far (p := ⟨w.heap.size, 2, none⟩) (by simp) (.slice (some ⟨q, 0, none⟩) xs.length cap)
 have hO3 := hO.far (p := ⟨w.heap.size, 2, none⟩) hqa (.slice (some ⟨q, 0, none⟩) xs.length cap)
 have hB3 : RowKit.Below w.heap.size w (w2.setCell ⟨w.heap.size, 2, none⟩ (.slice (some ⟨q, 0, none⟩) xs.length cap)) := hB2.setCell (by simp) _
 clear hA2 hZ2 hB2 hO
 go_wp2_with (first | (refine wpList_loadO rfl 26 (.tmp 1) rfl w.heap.size _ 26 rfl hA3 (by kernel_rfl) ?_) | ((refine wpList_storeAgg rfl 26 (.tmp 2) (.tmp 7) rfl (w.heap.size + 1) _ rfl rfl 26 _ hZ3 hi.out rfl ho.out ?_); rintro w3 rfl) | fail)
 refine bodyPost_ret (results_cell (fn := Tryz.f65) Tryz.results65 rfl (setRow_hasO (cells := (posCs F R (some ⟨q, 0, none⟩) xs.length cap bl ca pa ha fu).toArray) hZ3) (by kernel_rfl)) rfl ⟨q, cap, rfl, setRow_below hB3 (by omega) hB3.size, hqw, hO3.farR hqz _⟩
theorem arr_at {W : World} {p : Option Addr} {xs : List Int} {j : Nat} (h : Arr .i8 W p xs) (hj : j < xs.length) : ∃ g o, p = some ⟨g, o, none⟩ ∧ W.cell? ⟨g, o + j, none⟩ = some (.int .i8 (xs[j]?.getD 0)) := by
 obtain ⟨g, o, e, _, hc⟩ := h.at hj
 exact ⟨g, o, e, hc j hj⟩
theorem eqTo_s {xs ys : List Int} {i : Nat} (hx : i < xs.length) (hy : i < ys.length) : (xs.take (i + 1) = ys.take (i + 1)) ↔ (xs.take i = ys.take i ∧ xs[i]?.getD 0 = ys[i]?.getD 0) := by
 rw [List.take_succ_eq_append_getElem hx, List.take_succ_eq_append_getElem hy]
 simp only [List.getElem?_eq_getElem hx, List.getElem?_eq_getElem hy, Option.getD_some]
 constructor
 ·intro h
  have h2 := List.append_inj h (by simp; omega)
  exact ⟨h2.1, by simpa using h2.2⟩
 ·rintro ⟨h1, h2⟩
  rw [h1, h2]
set_option maxRecDepth 100000 in
theorem slEqual_any (p1 p2 : Option Addr) (c1 c2 : Nat) (xs ys : List Int) (w : World) (hx : Arr .i8 w p1 xs) (hy : Arr .i8 w p2 ys) (hl : xs.length ≤ 1000) (hl2 : ys.length ≤ 1000) :
  Calls Tryz.prog 192 #[.slice p1 xs.length c1, .slice p2 ys.length c2] w fun e w' => e = .returned (.bool (decide (xs = ys))) ∧ RowKit.Below w.heap.size w w' := by
 by_cases hn : xs.length = ys.length
 rotate_left
 ·have hne : (((xs.length : Nat) : Int) != ys.length) = true := by simp; omega
  have hV : Hid (decide (xs = ys) = false) := Lib.hid (by simp; intro h; exact hn (by rw [h]))
  go_enter Tryz.func192, Tryz.ntmps192
  go_wp2_with fail
  go_ret
  exact ⟨by rw [hV.out]; rfl, Below.refl _ _⟩
 ·rw [← hn]
  replace hn := Lib.hid hn
  go_enter Tryz.func192, Tryz.ntmps192
  go_wp2_with fail
  go_loopg [13] 1001 (fun q iv wr => ∃ i : Nat, q + i = 1001 ∧ i ≤ xs.length ∧ iv = .int .i64 i ∧ Hid (xs.take i = ys.take i) ∧ RowKit.Below w.heap.size w wr)
  case atStart => exact ⟨0, rfl, Nat.zero_le _, rfl, Lib.hid rfl, Below.refl _ _⟩
  case round =>
   obtain ⟨i, hq, hi, rfl, ht, hbr⟩ := hrel
   by_cases hlt : i < xs.length
   ·have hii : (i : Int) < xs.length := by omega
    obtain ⟨g1, o1, rfl, h1⟩ := arr_at (hx.call hbr) hlt
    obtain ⟨g2, o2, rfl, h2⟩ := arr_at (hy.call hbr) (by rw [← hn.out]; exact hlt)
    have hnx := eqTo_s (xs := xs) (ys := ys) hlt (by rw [← hn.out]; exact hlt)
    have hne2 : xs[i]?.getD 0 ≠ ys[i]?.getD 0 → Hid (decide (xs = ys) = false) := fun h => Lib.hid (by simp; rintro rfl; exact h rfl)
    generalize xs[i]?.getD 0 = x at *
    generalize ys[i]?.getD 0 = y at *
    have m1 := cell_regrown h1
    have m2 := cell_regrown h2
    rcases z : (x != y) with _ | _
    ·have ht2 : Hid (xs.take (i + 1) = ys.take (i + 1)) := Lib.hid (hnx.2 ⟨ht.out, by simpa using z⟩)
     clear hnx hne2
     go_wp2_with fail
     refine wp_region_all (by kernel_rfl) (by kernel_rfl) ?_
     repeat (go_big_quiet_step (fail))
     refine wpQuiet_nil ?_
     intro w5 hb5
     clear m1 m2
     go_wp2_with fail
     go_roundg (gk - 1)
     case measure => omega
     case rel => exact ⟨i + 1, by omega, by omega, by go_num, ht2, below_call hbr hbr.size hb5⟩
    ·have hV := hne2 (by simpa using z)
     clear hnx hne2
     go_wp2_with fail
     refine wp_region_all (by kernel_rfl) (by kernel_rfl) ?_
     repeat (go_big_quiet_step (fail))
     refine wpQuiet_nil ?_
     intro w5 hb5
     clear m1 m2
     go_wp2_with fail
     go_ret
     exact ⟨by rw [hV.out]; rfl, below_call hbr hbr.size hb5⟩
   ·obtain rfl : i = xs.length := by omega
    have hV : Hid (decide (xs = ys) = true) := Lib.hid (by have h1 := ht.out; rw [List.take_length, hn.out, List.take_length] at h1; simpa using h1)
    go_wp2_with fail
    go_ret
    exact ⟨by rw [hV.out]; rfl, hbr⟩
theorem size_eql (F R : Int) (w : World) : (binOp .eql 23 (.agg #[.int .i64 F, .int .i64 R]) (.agg #[.int .i64 F, .int .i64 R])).run Tryz.prog w = .ok (.bool true) w := by
 simp [go_sem]
def posE (xs ys : List Int) (b1 b2 : Bool) (c1 c2 p1 p2 : Int) : Bool := decide (xs = ys) && ((b1 == b2) && ((c1 == c2) && (p1 == p2)))
set_option maxRecDepth 100000 in
theorem posSame_any (F R : Int) (x1 x2 : Option Addr) (c1 c2 : Nat) (xs ys : List Int) (b1 b2 : Bool) (ca1 ca2 pa1 pa2 ha1 ha2 fu1 fu2 : Int) (w : World) (hx : Arr .i8 w x1 xs) (hy : Arr .i8 w x2 ys) (hl : xs.length ≤ 1000) (hl2 : ys.length ≤ 1000) :
  Calls Tryz.prog 162 #[.agg (posCs F R x1 xs.length c1 b1 ca1 pa1 ha1 fu1).toArray, .agg (posCs F R x2 ys.length c2 b2 ca2 pa2 ha2 fu2).toArray] w fun e w' => e = .returned (.bool (posE xs ys b1 b2 ca1 ca2 pa1 pa2)) ∧ RowKit.Below w.heap.size w w' := by
 have hA := (HasO.new w (.cells (posCs F R x1 xs.length c1 b1 ca1 pa1 ha1 fu1).toArray 26)).alloc (.cells (posCs F R x2 ys.length c2 b2 ca2 pa2 ha2 fu2).toArray 26)
 have hD := HasO.new' (w.alloc (.cells (posCs F R x1 xs.length c1 b1 ca1 pa1 ha1 fu1).toArray 26)) (.cells (posCs F R x2 ys.length c2 b2 ca2 pa2 ha2 fu2).toArray 26) (q := w.heap.size + 1) (by simp)
 have hB := (below_box w (.cells (posCs F R x1 xs.length c1 b1 ca1 pa1 ha1 fu1).toArray 26)).alloc (by simp) (.cells (posCs F R x2 ys.length c2 b2 ca2 pa2 ha2 fu2).toArray 26)
 have hse := slEqual_any x1 x2 c1 c2 xs ys _ (hx.call hB) (hy.call hB) hl hl2
 have hV : posE xs ys b1 b2 ca1 ca2 pa1 pa2 = (decide (xs = ys) && ((b1 == b2) && ((ca1 == ca2) && (pa1 == pa2)))) := rfl
 generalize posE xs ys b1 b2 ca1 ca2 pa1 pa2 = V at *
 generalize decide (xs = ys) = D at *
 have hsz := fun w => size_eql F R w
 have h1 := hA.cells
 have h2 := hD.cells
 have l1 := hA.lt
 have l2 := hD.lt
 replace hV := Lib.hid hV
 go_enter Tryz.func162, Tryz.ntmps162
 go_wp2_with fail
 refine hse.mono ?_
 rintro e w2 ⟨rfl, hb2⟩
 have hA2 := hA.call hb2
 have hD2 := hD.call hb2
 have hB2 := below_call hB hB.size hb2
 clear h1 h2 l1 l2 hA hD hB hb2 hse
 have h1 := hA2.cells
 have h2 := hD2.cells
 have l1 := hA2.lt
 have l2 := hD2.lt
 cases D
 ·go_wp2_with fail
  go_ret
  exact ⟨by rw [hV.out]; rfl, hB2⟩
 ·rcases z1 : (b1 == b2) with _ | _
  ·go_wp2_with fail
   go_ret
   exact ⟨by rw [hV.out, z1]; rfl, hB2⟩
  ·rcases z2 : (ca1 == ca2) with _ | _
   ·go_wp2_with fail
    go_ret
    exact ⟨by rw [hV.out, z1, z2]; rfl, hB2⟩
   ·go_wp2_with fail
    go_ret
    exact ⟨by rw [hV.out, z1, z2]; rfl, hB2⟩
set_option maxRecDepth 100000 in
theorem posEqual_any (F R : Int) (x1 x2 : Option Addr) (c1 c2 : Nat) (xs ys : List Int) (b1 b2 : Bool) (ca1 ca2 pa1 pa2 ha1 ha2 fu1 fu2 : Int) (w : World) (hx : Arr .i8 w x1 xs) (hy : Arr .i8 w x2 ys) (hl : xs.length ≤ 1000) (hl2 : ys.length ≤ 1000) :
  Calls Tryz.prog 111 #[.agg (posCs F R x1 xs.length c1 b1 ca1 pa1 ha1 fu1).toArray, .agg (posCs F R x2 ys.length c2 b2 ca2 pa2 ha2 fu2).toArray] w fun e w' => e = .returned (.bool (posE xs ys b1 b2 ca1 ca2 pa1 pa2 && ((ha1 == ha2) && (fu1 == fu2)))) ∧ RowKit.Below w.heap.size w w' := by
 have hA := (HasO.new w (.cells (posCs F R x1 xs.length c1 b1 ca1 pa1 ha1 fu1).toArray 26)).alloc (.cells (posCs F R x2 ys.length c2 b2 ca2 pa2 ha2 fu2).toArray 26)
 have hD := HasO.new' (w.alloc (.cells (posCs F R x1 xs.length c1 b1 ca1 pa1 ha1 fu1).toArray 26)) (.cells (posCs F R x2 ys.length c2 b2 ca2 pa2 ha2 fu2).toArray 26) (q := w.heap.size + 1) (by simp)
 have hB := (below_box w (.cells (posCs F R x1 xs.length c1 b1 ca1 pa1 ha1 fu1).toArray 26)).alloc (by simp) (.cells (posCs F R x2 ys.length c2 b2 ca2 pa2 ha2 fu2).toArray 26)
 have hse := posSame_any F R x1 x2 c1 c2 xs ys b1 b2 ca1 ca2 pa1 pa2 ha1 ha2 fu1 fu2 _ (hx.call hB) (hy.call hB) hl hl2
 generalize posE xs ys b1 b2 ca1 ca2 pa1 pa2 = D at *
 have h1 := hA.cells
 have h2 := hD.cells
 have l1 := hA.lt
 have l2 := hD.lt
 go_enter Tryz.func111, Tryz.ntmps111
 go_wp2_with fail
 refine hse.mono ?_
 rintro e w2 ⟨rfl, hb2⟩
 have hA2 := hA.call hb2
 have hD2 := hD.call hb2
 have hB2 := below_call hB hB.size hb2
 clear h1 h2 l1 l2 hA hD hB hb2 hse
 have h1 := hA2.cells
 have h2 := hD2.cells
 have l1 := hA2.lt
 have l2 := hD2.lt
 cases D
 ·go_wp2_with fail
  go_ret
  exact ⟨rfl, hB2⟩
 ·rcases z1 : (ha1 == ha2) with _ | _
  ·go_wp2_with fail
   go_ret
   exact ⟨ret_bool (by rw [z1]; rfl), hB2⟩
  ·go_wp2_with fail
   go_ret
   exact ⟨ret_bool (by rw [z1]; rfl), hB2⟩
set_option maxRecDepth 100000 in
theorem mvValid_any (F R : Int) (m : Mv) (w : World) :
  Calls Tryz.prog 54 #[.agg #[.int .i64 F, .int .i64 R], .agg m.cs.toArray] w fun e w' => e = .returned (.bool (mvB F R m)) ∧ RowKit.Below w.heap.size w w' := by
 have hA := (HasO.new w (.cells #[.int .i64 F, .int .i64 R] 23)).alloc (.cells m.cs.toArray 40)
 have hD := HasO.new' (w.alloc (.cells #[.int .i64 F, .int .i64 R] 23)) (.cells m.cs.toArray 40) (q := w.heap.size + 1) (by simp)
 have hB := (below_box w (.cells #[.int .i64 F, .int .i64 R] 23)).alloc (by simp) (.cells m.cs.toArray 40)
 have hsv := fun a W => sqValid_any F R a W
 have hV : mvB F R m = (sqB F R m.fr && (sqB F R m.tg && ((m.fr != m.tg) && ((m.pr == 0) || (decide (2 ≤ m.pr) && decide (m.pr ≤ 5)))))) := by
  unfold mvB
  have e1 : decide (m.fr ≠ m.tg) = (m.fr != m.tg) := by by_cases h : m.fr = m.tg <;> simp [h]
  rw [e1]; rfl
 generalize mvB F R m = V at *
 have h1 := hA.cells
 have h2 := hD.cells
 have l1 := hA.lt
 have l2 := hD.lt
 go_enter Tryz.func54, Tryz.ntmps54
 go_wp2_with fail
 refine (hsv _ _).mono ?_
 rintro e w2 ⟨rfl, hb2⟩
 have hA2 := hA.call hb2
 have hD2 := hD.call hb2
 have hB2 := below_call hB hB.size hb2
 clear h1 h2 l1 l2 hA hD hB hb2
 have h1 := hA2.cells
 have h2 := hD2.cells
 have l1 := hA2.lt
 have l2 := hD2.lt
 rcases z1 : sqB F R m.fr with _ | _
 ·have hV : Hid (V = false) := Lib.hid (by rw [hV, z1]; rfl)
  go_wp2_with fail
  go_ret
  exact ⟨by rw [hV.out]; rfl, hB2⟩
 ·rw [z1, Bool.true_and] at hV
  replace hV := Lib.hid hV
  go_wp2_with fail
  refine (hsv _ _).mono ?_
  rintro e w3 ⟨rfl, hb3⟩
  have hD3 := hD2.call hb3
  have hB3 := below_call hB2 hB2.size hb3
  clear h1 h2 l1 l2 hA2 hD2 hB2 hb3
  have h2 := hD3.cells
  have l2 := hD3.lt
  rcases z2 : sqB F R m.tg with _ | _
  ·go_wp2_with fail
   go_ret
   exact ⟨by rw [hV.out, z2]; rfl, hB3⟩
  ·rcases z3 : (m.fr != m.tg) with _ | _
   ·go_wp2_with fail
    go_ret
    exact ⟨by rw [hV.out, z2, z3]; rfl, hB3⟩
   ·rcases z4 : (m.pr == 0) with _ | _
    ·rcases z5 : decide (2 ≤ m.pr) with _ | _
     ·go_wp2_with fail
      go_ret
      exact ⟨by rw [hV.out, z2, z3, z4, z5]; rfl, hB3⟩
     ·go_wp2_with fail
      go_ret
      exact ⟨ret_bool (by rw [hV.out, z2, z3, z4, z5]; rfl), hB3⟩
    ·go_wp2_with fail
     go_ret
     exact ⟨by rw [hV.out, z2, z3, z4]; rfl, hB3⟩
end Go.Proofs.YtefmplccbkmalaaGreatDoor
