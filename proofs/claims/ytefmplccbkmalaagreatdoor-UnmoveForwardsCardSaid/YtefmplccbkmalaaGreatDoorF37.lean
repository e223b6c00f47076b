import Derived.Test.YtefmplccbkmalaaGreatDoorF36
set_option maxHeartbeats 12800000
namespace Go.Proofs.YtefmplccbkmalaaGreatDoor
open Go.RowKit Go.Sort Go.BigFrame

def SeaR (base qs : Nat) (F R : Nat) (xs : List Int) (bl : Bool) (can : Nat) (pa ha fu : Int) (pp : Option Addr) (cc occ : Nat) (v : Value) (L : List Ret) (w : World) (e : Ending) (w' : World) : Prop := e = .returned (.tuple #[]) ∧ ∃ v', Sea base qs F R xs bl can pa ha fu pp cc occ v' L w' ∧ Nib qs w w' v v'
set_option maxRecDepth 100000 in
theorem captures_any (F R : Nat) (xs : List Int) (bl : Bool) (can : Nat) (pa ha fu : Int) (pp : Option Addr) (cc occ : Nat) (hH : PosH F R xs can ha fu) (base qs : Nat) (v : Value) (L : List Ret) (hl : L.length ≤ 899999000) (m : Mv) (a b : Nat) (hra : m.fr = a) (hrb : m.tg = b) (hla : a < xs.length) (hlb : b < xs.length) (w : World) (hS : Sea base qs F R xs bl can pa ha fu pp cc occ v L w) :
  Calls Tryz.prog 91 #[.pointer (some ⟨qs, 0, none⟩), .agg m.cs.toArray] w (SeaR base qs F R xs bl can pa ha fu pp cc occ v (L ++ capL ⟨F, R, xs, bl, can, pa, ha, fu⟩ m 5) w) := by
 unfold SeaR
 have hB := below_box w (.cells m.cs.toArray 40)
 have hM := HasO.new w (.cells m.cs.toArray 40)
 have hqs := hS.s.lt
 have hS1 := hS.call hB
 have hN1 : Nib qs w (w.alloc (.cells m.cs.toArray 40)) v v := Nib.of_below qs hB v
 have hl1 : (w.alloc (.cells m.cs.toArray 40)).heap.size = w.heap.size + 1 := by simp
 obtain ⟨CL, hCL⟩ : ∃ CL, CL = capL ⟨F, R, xs, bl, can, pa, ha, fu⟩ m := ⟨_, rfl⟩
 have hz0 : CL 0 = [] := by rw [hCL]; rfl
 have hnx0 : ∀ k, CL (k + 1) = CL k ++ tryL ⟨F, R, xs, bl, can, pa, ha, fu⟩ m (pcI ((k + 1 : Nat) : Int) bl) m.tg := fun k => by rw [hCL]; rfl
 have hll : ∀ k, (CL k).length ≤ 144 * k := fun k => by rw [hCL]; exact capL_len _ _ hH.hF.2 k
 rw [← hCL]
 replace hCL := True.intro
 replace hra := Lib.hid hra
 replace hrb := Lib.hid hrb
 go_enter Tryz.func91, Tryz.ntmps91
 go_upto_region 1 with fail
 change Code.wp Tryz.prog _ _ _ (w.alloc (.cells m.cs.toArray 40))
 generalize w.alloc (.cells m.cs.toArray 40) = W1 at *
 go_wp2_with fail
 go_loopg [4] 6 (fun q iv wr => ∃ (k : Nat) (v' : Value), q + k = 6 ∧ k ≤ 5 ∧ iv = .int .i8 ((k + 1 : Nat) : Int) ∧ Sea base qs F R xs bl can pa ha fu pp cc occ v' (L ++ CL k) wr ∧ Nib qs w wr v v' ∧ HasO wr w.heap.size (.cells m.cs.toArray 40 (0, 0)))
 case atStart => exact ⟨0, v, by omega, Nat.zero_le _, rfl, by rw [hz0, List.append_nil]; exact hS1, hN1, hM⟩
 case round =>
  clear hS1 hN1 hM hB
  obtain ⟨k, v', hq, hk5, rfl, hSr, hNr, hMr⟩ := hrel
  by_cases hlt : k < 5
  ·have hnx := hnx0 k
   have hlk := hll k
   have hki : ((k + 1 : Nat) : Int) ≤ 5 := by omega
   have hk2 : ((k + 1 : Nat) : Int) + 1 = ((k + 1 + 1 : Nat) : Int) := by omega
   obtain ⟨kk, hkk⟩ : ∃ kk : Int, kk = ((k + 1 : Nat) : Int) := ⟨_, rfl⟩
   rw [← hkk] at hnx hki hk2 ⊢
   have hkb : -128 < kk ∧ kk ≤ 127 := by omega
   have htr := fun W h => try_any F R xs bl can pa ha fu pp cc occ hH base qs v' (L ++ CL k) (by rw [List.length_append]; omega) m (pcI kk bl) m.tg a b hra.out hrb.out hla hlb W h
   replace hkk := Lib.hid hkk
   replace hk2 := Lib.hid hk2
   replace hnx := Lib.hid hnx
   go_upto_region 4 with fail
   have p0 : ∀ d os j, (grow (redrawn wr d) os).cell? ⟨qs, j, none⟩ = (#[.int .i64 F, .int .i64 R, .slice pp xs.length cc, .bool bl, .int .u8 can, .int .i64 pa, .int .i64 ha, .int .i64 fu, .int .u64 occ, v'] : Array Value)[j]? := row_gr hSr.s
   have p1 : ∀ d os j, (grow (redrawn wr d) os).cell? ⟨w.heap.size, j, none⟩ = (#[.int .i64 m.fr, .int .i64 m.tg, .int .i8 m.pr] : Array Value)[j]? := row_gr hMr
   have t1 := call_eq (w := wr) (fun W => of92_any kk bl hkb W)
   refine wp_region_tail 11 (by kernel_rfl) (by kernel_rfl) ?_
   simp only [List.take_succ_cons, List.take_zero, List.drop_succ_cons, List.drop_zero]
   repeat (go_big_quiet_step (first | with_reducible exact t1 _ _ | fail))
   refine wpQuiet_nil ?_
   intro w2 hb2
   clear p0 p1 t1
   go_wp2_with fail
   refine (htr w2 (hSr.call hb2)).mono ?_
   rintro e w3 ⟨rfl, v3, hS3, hN3⟩
   have hMo := hMr.call hb2
   have hM3 := hN3.hasO hMo (by omega) (own_ne (hSr.call hb2).o hMo (by simp))
   have hN := (hNr.trans (Nib.of_below qs hb2 v')).trans hN3
   clear htr hSr hNr hMr hb2 hN3 hMo
   go_wp2_with fail
   go_roundg (gk - 1)
   case measure => omega
   case rel => exact ⟨k + 1, v3, by omega, by omega, by rw [hk2.out], by rw [hnx.out, ← List.append_assoc]; exact hS3, hN, hM3⟩
  ·obtain rfl : k = 5 := by omega
   go_wp2_with fail
   go_end0
   exact ⟨rfl, v', hSr, hNr⟩
set_option maxRecDepth 100000 in
theorem paL (T : Array Value) (h : T.size = 125) : T = #[ofA T 0, ofA T 1, ofA T 2, ofA T 3, ofA T 4, ofA T 5, ofA T 6, ofA T 7, ofA T 8, ofA T 9, ofA T 10, ofA T 11, ofA T 12, ofA T 13, ofA T 14, ofA T 15, ofA T 16, ofA T 17, ofA T 18, ofA T 19, ofA T 20, ofA T 21, ofA T 22, ofA T 23, ofA T 24, ofA T 25, ofA T 26, ofA T 27, ofA T 28, ofA T 29, ofA T 30, ofA T 31, ofA T 32, ofA T 33, ofA T 34, ofA T 35, ofA T 36, ofA T 37, ofA T 38, ofA T 39, ofA T 40, ofA T 41, ofA T 42, ofA T 43, ofA T 44, ofA T 45, ofA T 46, ofA T 47, ofA T 48, ofA T 49, ofA T 50, ofA T 51, ofA T 52, ofA T 53, ofA T 54, ofA T 55, ofA T 56, ofA T 57, ofA T 58, ofA T 59, ofA T 60, ofA T 61, ofA T 62, ofA T 63, ofA T 64, ofA T 65, ofA T 66, ofA T 67, ofA T 68, ofA T 69, ofA T 70, ofA T 71, ofA T 72, ofA T 73, ofA T 74, ofA T 75, ofA T 76, ofA T 77, ofA T 78, ofA T 79, ofA T 80, ofA T 81, ofA T 82, ofA T 83, ofA T 84, ofA T 85, ofA T 86, ofA T 87, ofA T 88, ofA T 89, ofA T 90, ofA T 91, ofA T 92, ofA T 93, ofA T 94, ofA T 95, ofA T 96, ofA T 97, ofA T 98, ofA T 99, ofA T 100, ofA T 101, ofA T 102, ofA T 103, ofA T 104, ofA T 105, ofA T 106, ofA T 107, ofA T 108, ofA T 109, ofA T 110, ofA T 111, ofA T 112, ofA T 113, ofA T 114, ofA T 115, ofA T 116, ofA T 117, ofA T 118, ofA T 119, ofA T 120, ofA T 121, ofA T 122, ofA T 123, ofA T 124] := by
 have := arr_lit T
 rw [h] at this
 exact this
def paF (q0 : Nat) (tg : Nat) (pr : Int) (f0 : Nat) (r0 : Nat) (d : Int) (X : Nat → Value) : Array Value := #[.pointer (some ⟨q0, 0, none⟩), .int .i64 tg, .int .i8 pr, X 3, X 4, X 5, X 6, .int .i64 f0, .int .i64 r0, X 9, .int .i64 d, X 11, X 12, X 13, X 14, X 15, X 16, X 17, X 18, X 19, X 20, X 21, X 22, X 23, X 24, X 25, X 26, X 27, X 28, X 29, X 30, X 31, X 32, X 33, X 34, X 35, X 36, X 37, X 38, X 39, X 40, X 41, X 42, X 43, X 44, X 45, X 46, X 47, X 48, X 49, X 50, X 51, X 52, X 53, X 54, X 55, X 56, X 57, X 58, X 59, X 60, X 61, X 62, X 63, X 64, X 65, X 66, X 67, X 68, X 69, X 70, X 71, X 72, X 73, X 74, X 75, X 76, X 77, X 78, X 79, X 80, X 81, X 82, X 83, X 84, X 85, X 86, X 87, X 88, X 89, X 90, X 91, X 92, X 93, X 94, X 95, X 96, X 97, X 98, X 99, X 100, X 101, X 102, X 103, X 104, X 105, X 106, X 107, X 108, X 109, X 110, X 111, X 112, X 113, X 114, X 115, X 116, X 117, X 118, X 119, X 120, X 121, X 122, X 123, X 124]
def paT (T : Array Value) (q0 : Nat) (tg : Nat) (pr : Int) (f0 : Nat) (r0 : Nat) (d : Int) : Prop := T.size = 125 ∧ ofA T 0 = .pointer (some ⟨q0, 0, none⟩) ∧ ofA T 1 = .int .i64 tg ∧ ofA T 2 = .int .i8 pr ∧ ofA T 7 = .int .i64 f0 ∧ ofA T 8 = .int .i64 r0 ∧ ofA T 10 = .int .i64 d
set_option maxRecDepth 100000 in
theorem paT.fr {T : Array Value} {q0 : Nat} {tg : Nat} {pr : Int} {f0 : Nat} {r0 : Nat} {d : Int} (h : paT T q0 tg pr f0 r0 d) : ∃ X, T = paF q0 tg pr f0 r0 d X := by
 obtain ⟨hs, h0, h1, h2, h7, h8, h10⟩ := h
 have h := paL T hs
 rw [h0, h1, h2, h7, h8, h10] at h
 exact ⟨ofA T, h⟩

theorem bit_and0 {oc x : Nat} (ho : oc < 2 ^ 64) : (bits .and .u64 ((oc : Int) / 2 ^ x) 1 == 0) = !oc.testBit x := by
 have h1 : oc / 2 ^ x ≤ oc := Nat.div_le_self _ _
 rw [div_pow_nat, show (1 : Int) = ((1 : Nat) : Int) from rfl, u64_and_nat _ _ (by omega) (by decide), nat_mask1, Nat.testBit_eq_decide_div_mod_eq]
 by_cases h : oc / 2 ^ x % 2 = 1
 ·rw [h]; rfl
 ·have : oc / 2 ^ x % 2 = 0 := by omega
  rw [this]; rfl
theorem pst_fact (sd : Bool) : ∀ j, j < 4 → (-1 ≤ ((pstL sd)[j]?.getD (0, 0)).1 ∧ ((pstL sd)[j]?.getD (0, 0)).1 ≤ 1) ∧ (-2 ≤ ((pstL sd)[j]?.getD (0, 0)).2 ∧ ((pstL sd)[j]?.getD (0, 0)).2 ≤ 2) ∧ (((pstL sd)[j]?.getD (0, 0)).1 ≠ 0 → ((pstL sd)[j]?.getD (0, 0)).2 = if sd then 1 else -1) := by
 intro j hj
 rcases (by omega : j = 0 ∨ j = 1 ∨ j = 2 ∨ j = 3) with rfl | rfl | rfl | rfl <;> cases sd <;> decide
section
variable {P : Pos} {tg : Nat} {pr : Int} {x : Int × Int} {fr : Nat}
theorem pwnC_off (h : onB P.F P.R ((tg % P.F : Nat) + x.1) ((tg / P.F : Nat) + x.2) = false) : pwnC P tg pr x = [] := by
 unfold pwnC; simp only; rw [if_pos h]
theorem pwnC_occ (h : onB P.F P.R ((tg % P.F : Nat) + x.1) ((tg / P.F : Nat) + x.2) = true) (hn : ((tg % P.F : Nat) + x.1 : Int) + ((tg / P.F : Nat) + x.2) * P.F = fr) (ho : P.occ.testBit fr = true) : pwnC P tg pr x = [] := by
 unfold pwnC; simp only; rw [if_neg (by rw [h]; decide), hn, Int.toNat_natCast, if_pos ho]
theorem pwnC_fwd (h : onB P.F P.R ((tg % P.F : Nat) + x.1) ((tg / P.F : Nat) + x.2) = true) (hn : ((tg % P.F : Nat) + x.1 : Int) + ((tg / P.F : Nat) + x.2) * P.F = fr) (ho : P.occ.testBit fr = false) (hx : x.1 = 0) : pwnC P tg pr x = tryL P ⟨fr, tg, pr⟩ 0 (-1) := by
 unfold pwnC; simp only; rw [if_neg (by rw [h]; decide), hn, Int.toNat_natCast, if_neg (by simp [ho]), if_pos hx]
theorem pwnC_cap (h : onB P.F P.R ((tg % P.F : Nat) + x.1) ((tg / P.F : Nat) + x.2) = true) (hn : ((tg % P.F : Nat) + x.1 : Int) + ((tg / P.F : Nat) + x.2) * P.F = fr) (ho : P.occ.testBit fr = false) (hx : x.1 ≠ 0) {be : Nat} (hb : ((tg % P.F : Nat) : Int) + ((tg / P.F : Nat) + x.2) * P.F = be) :
  pwnC P tg pr x = capL P ⟨fr, tg, pr⟩ 5 ++ (if P.occ.testBit be then [] else tryL P ⟨fr, tg, pr⟩ (pcI 1 P.bl) be) := by
 unfold pwnC; simp only; rw [if_neg (by rw [h]; decide), hn, Int.toNat_natCast, if_neg (by simp [ho]), if_neg hx, hb, Int.toNat_natCast]
end
set_option maxRecDepth 100000 in
theorem pawnOut (F R : Nat) (xs : List Int) (bl : Bool) (can : Nat) (pa ha fu : Int) (pp : Option Addr) (cc occ : Nat) (hH : PosH F R xs can ha fu) (hocc : occ = (⟨F, R, xs, bl, can, pa, ha, fu⟩ : Pos).occ) (ho64 : occ < 2 ^ 64) (base qs : Nat) (v0 : Value) (w : World) (tg : Nat) (pr d : Int) (htg : tg < xs.length) (hd : d = if !bl then 1 else -1) (hqw : qs < w.heap.size)
  (T : Array Value) (hT : paT T qs tg pr (tg % F) (tg / F) d) (v : Value) (L : List Ret) (hl : L.length ≤ 899990000) (W : World) (hS : Sea base qs F R xs bl can pa ha fu pp cc occ v L W) (hN : Nib qs w W v0 v) (Rs : Ending → World → Prop)
  (hok : ∀ v' w', Sea base qs F R xs bl can pa ha fu pp cc occ v' (L ++ pwnK ⟨F, R, xs, bl, can, pa, ha, fu⟩ tg pr 4) w' → Nib qs w w' v0 v' → Rs (.returned (.tuple #[])) w')
  (cd : Code) (hcd : Tryz.f31.body.map (sufC 4) = some cd) : cd.wp Tryz.prog (bodyPost Tryz.prog Tryz.f31 Rs) { tmps := T, defers := [] } W := by
 obtain rfl := Option.some.inj ((show Tryz.f31.body.map (sufC 4) = some _ from rfl).symm.trans hcd)
 clear hcd
 simp only [sufC]
 obtain ⟨X, rfl⟩ := hT.fr
 clear hT
 unfold paF
 obtain ⟨PK, hPK⟩ : ∃ PK, PK = pwnK ⟨F, R, xs, bl, can, pa, ha, fu⟩ tg pr := ⟨_, rfl⟩
 have hz0 : PK 0 = [] := by rw [hPK]; rfl
 have hnx0 : ∀ k, PK (k + 1) = PK k ++ pwnC ⟨F, R, xs, bl, can, pa, ha, fu⟩ tg pr ((pstL (!bl))[k]?.getD (0, 0)) := fun k => by rw [hPK]; rfl
 have hll : ∀ k, (PK k).length ≤ 864 * k := fun k => by rw [hPK]; exact pwnK_len _ _ _ hH.hF.2 k
 rw [← hPK] at hok
 replace hPK := True.intro
 have h64 : F * R ≤ 64 := Nat.mul_le_mul hH.hF.2 hH.hR.2
 have hlen := hH.len
 obtain ⟨ha64, ha0, ha1⟩ := sq_bd hH.hF hH.hR (by rw [← hlen]; exact htg)
 have hr0n : (0 : Int) ≤ ((tg / F : Nat) : Int) := Int.natCast_nonneg _
 have hr0b : ((tg / F : Nat) : Int) < 8 := by have := hH.hR; omega
 have hf0b : ((tg % F : Nat) : Int) < 8 := by have := hH.hF; omega
 have hf0n : (0 : Int) ≤ ((tg % F : Nat) : Int) := Int.natCast_nonneg _
 have hdb : -1 ≤ d ∧ d ≤ 1 := by rw [hd]; split <;> omega
 have hst : ∀ W g, HasO W g (.cells #[.int .i64 0, .int .i64 d, .int .i64 0, .int .i64 (2 * d), .int .i64 (-1), .int .i64 d, .int .i64 1, .int .i64 d] 122 (0, 0)) → StepArr W g 0 (pstL (!bl)) := fun W g h => ⟨h.lt, fun j hj => by
  have hj4 : j < 4 := hj
  have e : d = (if !bl then 1 else -1) := hd
  rcases (by omega : j = 0 ∨ j = 1 ∨ j = 2 ∨ j = 3) with rfl | rfl | rfl | rfl
  ·exact ⟨h.cells 0, (h.cells 1).trans (by rw [e]; rfl)⟩
  ·exact ⟨h.cells 2, (h.cells 3).trans (by rw [e]; rfl)⟩
  ·exact ⟨h.cells 4, (h.cells 5).trans (by rw [e]; rfl)⟩
  ·exact ⟨h.cells 6, (h.cells 7).trans (by rw [e]; rfl)⟩⟩
 have hpf := pst_fact (!bl)
 rw [← hd] at hpf
 have hon : onB F R (tg % F : Nat) (tg / F : Nat) = true := by
  have h1 : tg % F < F := Nat.mod_lt _ (by have := hH.hF; omega)
  have h2 : tg / F < R := Nat.div_lt_of_lt_mul (by rw [← hlen]; exact htg)
  unfold onB; simp; omega
 have hoff := fun x h => pwnC_off (P := ⟨F, R, xs, bl, can, pa, ha, fu⟩) (tg := tg) (pr := pr) (x := x) h
 have hoc := fun x fr h hn ho => pwnC_occ (P := ⟨F, R, xs, bl, can, pa, ha, fu⟩) (tg := tg) (pr := pr) (x := x) (fr := fr) h hn ho
 have hfw := fun x fr h hn ho hx => pwnC_fwd (P := ⟨F, R, xs, bl, can, pa, ha, fu⟩) (tg := tg) (pr := pr) (x := x) (fr := fr) h hn ho hx
 have hcp := fun x fr h hn ho hx be hb => pwnC_cap (P := ⟨F, R, xs, bl, can, pa, ha, fu⟩) (tg := tg) (pr := pr) (x := x) (fr := fr) h hn ho hx (be := be) hb
 rw [← hocc] at hoc hfw hcp
 replace hocc := Lib.hid hocc
 replace hlen := Lib.hid hlen
 replace hd := Lib.hid hd
 generalize hf0 : tg % F = f0 at *
 generalize hr0 : tg / F = r0 at *
 replace hf0 := Lib.hid hf0
 replace hr0 := Lib.hid hr0
 have hS1 := hS.call (below_box W (.cells #[.int .i64 0, .int .i64 d, .int .i64 0, .int .i64 (2 * d), .int .i64 (-1), .int .i64 d, .int .i64 1, .int .i64 d] 122))
 have hN1 := hN.trans (Nib.of_below qs (below_box W (.cells #[.int .i64 0, .int .i64 d, .int .i64 0, .int .i64 (2 * d), .int .i64 (-1), .int .i64 d, .int .i64 1, .int .i64 d] 122)) v)
 have hA1 := HasO.new W (.cells #[.int .i64 0, .int .i64 d, .int .i64 0, .int .i64 (2 * d), .int .i64 (-1), .int .i64 d, .int .i64 1, .int .i64 d] 122)
 have hqW := Nat.lt_of_lt_of_le hqw hN.size
 go_wp2_with fail
 generalize W.alloc (.cells #[.int .i64 0, .int .i64 d, .int .i64 0, .int .i64 (2 * d), .int .i64 (-1), .int .i64 d, .int .i64 1, .int .i64 d] 122) = W1 at *
 go_loopg [47] 5 (fun q iv wr => ∃ (j : Nat) (v' : Value), q + j = 5 ∧ j ≤ 4 ∧ iv = .int .i64 j ∧ Sea base qs F R xs bl can pa ha fu pp cc occ v' (L ++ PK j) wr ∧ Nib qs w wr v0 v' ∧ HasO wr W.heap.size (.cells #[.int .i64 0, .int .i64 d, .int .i64 0, .int .i64 (2 * d), .int .i64 (-1), .int .i64 d, .int .i64 1, .int .i64 d] 122 (0, 0)))
 case atStart => exact ⟨0, v, by omega, Nat.zero_le _, rfl, by rw [hz0, List.append_nil]; exact hS1, hN1, hA1⟩
 case round =>
  clear hS hN hS1 hN1 hA1
  obtain ⟨j, v', hq, hj4, rfl, hSr, hNr, hAr⟩ := hrel
  by_cases hlt : j < 4
  ·have hnx := hnx0 j
   have hlj := hll j
   have hji : (j : Int) < 4 := by omega
   obtain ⟨hc1, hc2⟩ := (hst wr _ hAr).2 j hlt
   rw [Nat.zero_add] at hc1 hc2
   obtain ⟨hx1, hx2, hx3⟩ := hpf j hlt
   have hlA := hAr.lt
   generalize (pstL (!bl))[j]?.getD (0, 0) = x at *
   obtain ⟨dx, dy⟩ := x
   have hoff := hoff (dx, dy)
   have hoc := hoc (dx, dy)
   have hfw := hfw (dx, dy)
   have hcp := hcp (dx, dy)
   simp only at hc1 hc2 hx1 hx2 hx3 hoff hoc hfw hcp
   have hat := fun W => sqAt_any F R (f0 + dx) (r0 + dy) hH.hF hH.hR W
   replace hnx := Lib.hid hnx
   clear hnx0 hll hpf
   go_upto_region 8 with fail
   have hS2 := hSr.call (below_box wr (.cells #[.int .i64 dx, .int .i64 dy] 122))
   have hN2 := hNr.trans (Nib.of_below qs (below_box wr (.cells #[.int .i64 dx, .int .i64 dy] 122)) v')
   have hD2 := HasO.new wr (.cells #[.int .i64 dx, .int .i64 dy] 122)
   have hA2 := hAr.alloc (.cells #[.int .i64 dx, .int .i64 dy] 122)
   change Code.wp _ _ _ _ (wr.alloc (.cells #[.int .i64 dx, .int .i64 dy] 122))
   generalize wr.alloc (.cells #[.int .i64 dx, .int .i64 dy] 122) = w2 at *
   have hqg : qs < wr.heap.size := hSr.s.lt
   generalize wr.heap.size = g12 at *
   clear hSr hNr hAr hc1 hc2 hlA
   have p0 : ∀ d os j, (grow (redrawn w2 d) os).cell? ⟨qs, j, none⟩ = (#[.int .i64 F, .int .i64 R, .slice pp xs.length cc, .bool bl, .int .u8 can, .int .i64 pa, .int .i64 ha, .int .i64 fu, .int .u64 occ, v'] : Array Value)[j]? := row_gr hS2.s
   have p1 : ∀ d os j, (grow (redrawn w2 d) os).cell? ⟨g12, j, none⟩ = (#[.int .i64 dx, .int .i64 dy] : Array Value)[j]? := row_gr hD2
   rcases hv : onB F R ((f0 : Int) + dx) ((r0 : Int) + dy) with _ | _
   ·have hLn : Hid (PK (j + 1) = PK j) := Lib.hid (by rw [hnx.out, hoff hv, List.append_nil])
    have hat0 : ∀ W, Calls Tryz.prog 89 #[.agg #[.int .i64 F, .int .i64 R], .int .i64 ((f0 : Int) + dx), .int .i64 ((r0 : Int) + dy)] W fun e w' => e = .returned (.tuple #[.int .i64 0, .int .i64 3]) ∧ RowKit.Below W.heap.size W w' := fun W => by
     have := hat W
     unfold atV at this
     rw [hv] at this
     exact this
    have t1 := call_gr (w := w2) (fun W _ => hat0 W)
    clear hoff hoc hfw hcp hat
    refine wp_region_all (by kernel_rfl) (by kernel_rfl) ?_
    repeat (go_big_quiet_step (first | with_reducible exact t1 _ _ | fail))
    refine wpQuiet_nil ?_
    intro w3 hb3
    clear p0 p1 t1
    go_wp2_with fail
    go_roundg (gk - 1)
    case measure => omega
    case rel => exact ⟨j + 1, v', by omega, by omega, by go_num, by rw [hLn.out]; exact hS2.call hb3, hN2.trans (Nib.of_below qs hb3 v'), hA2.call hb3⟩
   ·obtain ⟨fr, hn, hnl⟩ := at_lt hv
    have hoc := hoc fr hv hn
    have hfw := hfw fr hv hn
    have hcp := hcp fr hv hn
    have hat0 : ∀ W, Calls Tryz.prog 89 #[.agg #[.int .i64 F, .int .i64 R], .int .i64 ((f0 : Int) + dx), .int .i64 ((r0 : Int) + dy)] W fun e w' => e = .returned (.tuple #[.int .i64 fr, .int .i64 0]) ∧ RowKit.Below W.heap.size W w' := fun W => by
     have := hat W
     unfold atV at this
     rw [hv, hn] at this
     exact this
    have t1 := call_gr (w := w2) (fun W _ => hat0 W)
    have hfrl : fr < xs.length := by rw [hlen.out]; exact hnl
    have hfr64 : (fr : Int) ≤ 64 := by omega
    have c8 := bit_and (x := fr) ho64
    replace hn := Lib.hid hn
    clear hat
    refine wp_region_all (by kernel_rfl) (by kernel_rfl) ?_
    repeat (go_big_quiet_step (first | with_reducible exact t1 _ _ | fail))
    refine wpQuiet_nil ?_
    intro w3 hb3
    clear p0 p1 t1
    have hS3 := hS2.call hb3
    have hN3 := hN2.trans (Nib.of_below qs hb3 v')
    have hA3 := hA2.call hb3
    have hD3 := hD2.call hb3
    clear hS2 hN2 hA2 hD2 hb3
    have q0 : ∀ j, w3.cell? ⟨qs, j, none⟩ = (#[.int .i64 F, .int .i64 R, .slice pp xs.length cc, .bool bl, .int .u8 can, .int .i64 pa, .int .i64 ha, .int .i64 fu, .int .u64 occ, v'] : Array Value)[j]? := hS3.s.cells
    have l0 := hS3.s.lt
    rcases z2 : occ.testBit fr with _ | _
    ·rw [z2] at c8
     have hfw := hfw z2
     have hcp := hcp z2
     clear hoc
     have d0 := hD3.cells 0
     have ld := hD3.lt
     rcases z3 : (dx == 0) with _ | _
     ·have hdy : d = dy := (hx3 (by simpa using z3)).symm
      subst hdy
      have hcp := hcp (by simpa using z3)
      go_upto_region 13 with fail
      rename_i k1 hk1
      have hS4 := hS3.call (below_box w3 (.cells #[.int .i64 fr, .int .i64 tg, .int .i8 pr] 40))
      have hN4 := hN3.trans (Nib.of_below qs (below_box w3 (.cells #[.int .i64 fr, .int .i64 tg, .int .i8 pr] 40)) v')
      have hA4 := hA3.alloc (.cells #[.int .i64 fr, .int .i64 tg, .int .i8 pr] 40)
      have hM4 := HasO.new w3 (.cells #[.int .i64 fr, .int .i64 tg, .int .i8 pr] 40)
      change Code.wp _ _ _ _ (w3.alloc (.cells #[.int .i64 fr, .int .i64 tg, .int .i8 pr] 40))
      generalize w3.alloc (.cells #[.int .i64 fr, .int .i64 tg, .int .i8 pr] 40) = w4 at *
      generalize w3.heap.size = g15 at *
      clear hS3 hN3 hA3 hD3 q0 d0 c8
      have hA4l := hA4.lt
      have hqA : W.heap.size ≠ qs := by omega
      have hqM : g15 ≠ qs := by omega
      have m0 := hM4.cells
      have lm := hM4.lt
      have hca := captures_any F R xs bl can pa ha fu pp cc occ hH base qs v' (L ++ PK j) (by rw [List.length_append]; omega) ⟨fr, tg, pr⟩ fr tg rfl rfl hfrl htg w4 hS4
      have hneA := own_ne hS4.o hA4 (by simp)
      have hneM := own_ne hS4.o hM4 (by simp)
      have hcl := capL_len ⟨F, R, xs, bl, can, pa, ha, fu⟩ ⟨fr, tg, pr⟩ hH.hF.2 5
      have hvb : onB F R (f0 : Int) ((r0 : Int) + d) = true := by
       have h1 := onB_fact hv
       unfold onB; simp; omega
      obtain ⟨be, hb, hbl⟩ := at_lt hvb
      have hcp := hcp be hb
      have hat2 : ∀ W, Calls Tryz.prog 89 #[.agg #[.int .i64 F, .int .i64 R], .int .i64 (f0 : Int), .int .i64 ((r0 : Int) + d)] W fun e w' => e = .returned (.tuple #[.int .i64 be, .int .i64 0]) ∧ RowKit.Below W.heap.size W w' := fun W => by
       have := sqAt_any F R f0 (r0 + d) hH.hF hH.hR W
       unfold atV at this
       rw [hvb, hb] at this
       exact this
      have hbe64 : (be : Int) ≤ 64 := by omega
      have c9 := bit_and0 (x := be) ho64
      replace hb := Lib.hid hb
      go_wp2_with fail
      refine hca.mono ?_
      rintro e w5 ⟨rfl, v5, hS5, hN5⟩
      have hA5 := hN5.hasO hA4 hqA hneA
      have hM5 := hN5.hasO hM4 hqM hneM
      have hN6 := hN4.trans hN5
      clear hca hS4 hN4 hA4 hM4 hN5 m0 lm
      have q5 : ∀ j, w5.cell? ⟨qs, j, none⟩ = (#[.int .i64 F, .int .i64 R, .slice pp xs.length cc, .bool bl, .int .u8 can, .int .i64 pa, .int .i64 ha, .int .i64 fu, .int .u64 occ, v5] : Array Value)[j]? := hS5.s.cells
      have l5 := hS5.s.lt
      go_wp2_with fail
      refine (hat2 w5).mono ?_
      rintro e w6 ⟨rfl, hb6⟩
      have hS6 := hS5.call hb6
      have hN7 := hN6.trans (Nib.of_below qs hb6 v5)
      have hA6 := hA5.call hb6
      have hM6 := hM5.call hb6
      clear hat2 hS5 hN6 hA5 hM5 q5 l5 hb6
      have q5 : ∀ j, w6.cell? ⟨qs, j, none⟩ = (#[.int .i64 F, .int .i64 R, .slice pp xs.length cc, .bool bl, .int .u8 can, .int .i64 pa, .int .i64 ha, .int .i64 fu, .int .u64 occ, v5] : Array Value)[j]? := hS6.s.cells
      have l5 := hS6.s.lt
      rcases z4 : occ.testBit be with _ | _
      ·rw [z4] at c9 hcp
       simp only [Bool.not_false] at c9
       go_upto_region 16 with fail
       have p0 : ∀ d os j, (grow (redrawn w6 d) os).cell? ⟨qs, j, none⟩ = (#[.int .i64 F, .int .i64 R, .slice pp xs.length cc, .bool bl, .int .u8 can, .int .i64 pa, .int .i64 ha, .int .i64 fu, .int .u64 occ, v5] : Array Value)[j]? := row_gr hS6.s
       have p1 : ∀ d os j, (grow (redrawn w6 d) os).cell? ⟨g15, j, none⟩ = (#[.int .i64 fr, .int .i64 tg, .int .i8 pr] : Array Value)[j]? := row_gr hM6
       have t1 := call_eq (w := w6) (fun W => of92_any 1 bl (by decide) W)
       have htr := fun W h => try_any F R xs bl can pa ha fu pp cc occ hH base qs v5 (L ++ PK j ++ capL ⟨F, R, xs, bl, can, pa, ha, fu⟩ ⟨fr, tg, pr⟩ 5) (by rw [List.length_append, List.length_append]; omega) ⟨fr, tg, pr⟩ (pcI 1 bl) be fr tg rfl rfl hfrl htg W h
       have hLn : Hid (PK (j + 1) = PK j ++ (capL ⟨F, R, xs, bl, can, pa, ha, fu⟩ ⟨fr, tg, pr⟩ 5 ++ tryL ⟨F, R, xs, bl, can, pa, ha, fu⟩ ⟨fr, tg, pr⟩ (pcI 1 bl) be)) := Lib.hid (by rw [hnx.out, hcp]; rfl)
       have hneA := own_ne hS6.o hA6 (by simp)
       clear hcp c9 hcl q5
       refine wp_region_tail 9 (by kernel_rfl) (by kernel_rfl) ?_
       simp only [List.take_succ_cons, List.take_zero, List.drop_succ_cons, List.drop_zero]
       repeat (go_big_quiet_step (first | with_reducible exact t1 _ _ | fail))
       refine wpQuiet_nil ?_
       intro w7 hb7
       clear p0 p1 t1
       go_wp2_with fail
       refine (htr w7 (hS6.call hb7)).mono ?_
       rintro e w8 ⟨rfl, v8, hS8, hN8⟩
       have hA8 := hN8.hasO (hA6.call hb7) hqA hneA
       have hN9 := (hN7.trans (Nib.of_below qs hb7 v5)).trans hN8
       clear htr hS6 hN7 hA6 hM6 hb7 hN8
       go_wp2_with fail
       go_roundg (gk - 1)
       case measure => omega
       case rel => exact ⟨j + 1, v8, by omega, by omega, by go_num, by rw [hLn.out, ← List.append_assoc, ← List.append_assoc]; exact hS8, hN9, hA8⟩
      ·rw [z4] at c9 hcp
       simp only [Bool.not_true] at c9
       have hLn : Hid (PK (j + 1) = PK j ++ capL ⟨F, R, xs, bl, can, pa, ha, fu⟩ ⟨fr, tg, pr⟩ 5) := Lib.hid (by rw [hnx.out, hcp, if_pos rfl, List.append_nil])
       clear hcp hcl
       go_wp2_with fail
       go_roundg (gk - 1)
       case measure => omega
       case rel => exact ⟨j + 1, v5, by omega, by omega, by go_num, by rw [hLn.out, ← List.append_assoc]; exact hS6, hN7, hA6⟩
     ·have hfw := hfw (by simpa using z3)
      clear hcp
      go_upto_region 12 with fail
      have hS4 := hS3.call (below_box w3 (.cells #[.int .i64 fr, .int .i64 tg, .int .i8 pr] 40))
      have hN4 := hN3.trans (Nib.of_below qs (below_box w3 (.cells #[.int .i64 fr, .int .i64 tg, .int .i8 pr] 40)) v')
      have hA4 := hA3.alloc (.cells #[.int .i64 fr, .int .i64 tg, .int .i8 pr] 40)
      have hM4 := HasO.new w3 (.cells #[.int .i64 fr, .int .i64 tg, .int .i8 pr] 40)
      change Code.wp _ _ _ _ (w3.alloc (.cells #[.int .i64 fr, .int .i64 tg, .int .i8 pr] 40))
      generalize w3.alloc (.cells #[.int .i64 fr, .int .i64 tg, .int .i8 pr] 40) = w4 at *
      generalize w3.heap.size = g15 at *
      clear hS3 hN3 hA3 hD3 q0 d0 c8
      have hA4l := hA4.lt
      have hqA : W.heap.size ≠ qs := by omega
      have m0 := hM4.cells
      have lm := hM4.lt
      have htr := try_any F R xs bl can pa ha fu pp cc occ hH base qs v' (L ++ PK j) (by rw [List.length_append]; omega) ⟨fr, tg, pr⟩ 0 (-1) fr tg rfl rfl hfrl htg w4 hS4
      have hneA := own_ne hS4.o hA4 (by simp)
      have hLn : Hid (PK (j + 1) = PK j ++ tryL ⟨F, R, xs, bl, can, pa, ha, fu⟩ ⟨fr, tg, pr⟩ 0 (-1)) := Lib.hid (by rw [hnx.out, hfw])
      clear hfw
      go_wp2_with fail
      refine htr.mono ?_
      rintro e w5 ⟨rfl, v5, hS5, hN5⟩
      have hA5 := hN5.hasO hA4 hqA hneA
      have hN6 := hN4.trans hN5
      clear htr hS4 hN4 hA4 hM4 hN5 m0 lm
      go_wp2_with fail
      go_roundg (gk - 1)
      case measure => omega
      case rel => exact ⟨j + 1, v5, by omega, by omega, by go_num, by rw [hLn.out, ← List.append_assoc]; exact hS5, hN6, hA5⟩
    ·rw [z2] at c8
     have hLn : Hid (PK (j + 1) = PK j) := Lib.hid (by rw [hnx.out, hoc z2, List.append_nil])
     clear hoc hfw hcp
     go_wp2_with fail
     go_roundg (gk - 1)
     case measure => omega
     case rel => exact ⟨j + 1, v', by omega, by omega, by go_num, by rw [hLn.out]; exact hS3, hN3, hA3⟩
  ·obtain rfl : j = 4 := by omega
   go_wp2_with fail
   go_end0
   exact hok v' wr hSr hNr
set_option maxRecDepth 100000 in
theorem pawnS_any (F R : Nat) (xs : List Int) (bl : Bool) (can : Nat) (pa ha fu : Int) (pp : Option Addr) (cc occ : Nat) (hH : PosH F R xs can ha fu) (hocc : occ = (⟨F, R, xs, bl, can, pa, ha, fu⟩ : Pos).occ) (ho64 : occ < 2 ^ 64) (base qs : Nat) (v : Value) (L : List Ret) (hl : L.length ≤ 899990000) (tg : Nat) (pr : Int) (htg : tg < xs.length) (w : World) (hS : Sea base qs F R xs bl can pa ha fu pp cc occ v L w) :
  Calls Tryz.prog 31 #[.pointer (some ⟨qs, 0, none⟩), .int .i64 tg, .int .i8 pr] w (SeaR base qs F R xs bl can pa ha fu pp cc occ v (L ++ pwnK ⟨F, R, xs, bl, can, pa, ha, fu⟩ tg pr 4) w) := by
 have hpl := fun W => sqPlace_good F R tg hH.hF hH.hR (by rw [← hH.len]; exact htg) W
 have q0 : ∀ j, w.cell? ⟨qs, j, none⟩ = (#[.int .i64 F, .int .i64 R, .slice pp xs.length cc, .bool bl, .int .u8 can, .int .i64 pa, .int .i64 ha, .int .i64 fu, .int .u64 occ, v] : Array Value)[j]? := hS.s.cells
 have l0 := hS.s.lt
 obtain ⟨Rs, hRs⟩ : ∃ Rs, Rs = SeaR base qs F R xs bl can pa ha fu pp cc occ v (L ++ pwnK ⟨F, R, xs, bl, can, pa, ha, fu⟩ tg pr 4) w := ⟨_, rfl⟩
 rw [← hRs]
 replace hRs := Lib.hid hRs
 replace hocc := Lib.hid hocc
 obtain ⟨f0, hf0⟩ : ∃ f0, f0 = tg % F := ⟨_, rfl⟩
 obtain ⟨r0, hr0⟩ : ∃ r0, r0 = tg / F := ⟨_, rfl⟩
 rw [← hf0, ← hr0] at hpl
 replace hf0 := Lib.hid hf0
 replace hr0 := Lib.hid hr0
 go_enter Tryz.func31, Tryz.ntmps31
 go_wp2_with fail
 refine (hpl w).mono ?_
 rintro e w2 ⟨rfl, hb2⟩
 have hS2 := hS.call hb2
 have hN2 : Nib qs w w2 v v := Nib.of_below qs hb2 v
 clear hpl q0 hb2
 have hfin : ∀ d : Int, d = (if !bl then 1 else -1) → ∀ T, paT T qs tg pr f0 r0 d → ∀ cd, Tryz.f31.body.map (sufC 4) = some cd → cd.wp Tryz.prog (bodyPost Tryz.prog Tryz.f31 Rs) { tmps := T, defers := [] } w2 := fun d hd T hT cd hcd =>
  pawnOut F R xs bl can pa ha fu pp cc occ hH hocc.out ho64 base qs v w tg pr d htg hd l0 T (by rw [← hf0.out, ← hr0.out]; exact hT) v L hl w2 hS2 hN2 Rs (fun v' w' h1 h2 => by rw [hRs.out]; exact ⟨rfl, v', h1, h2⟩) cd hcd
 go_upto_region 3 with fail
 rename_i k0 hk0 k1 hk1
 replace hk0 := Lib.hid hk0
 clear hS hS2 hN2 l0
 cases bl
 ·go_wp2_with fail
  refine hk0.out _ _ ?_
  exact hfin 1 rfl _ ⟨rfl, rfl, rfl, rfl, rfl, rfl, rfl⟩ _ rfl
 ·go_wp2_with fail
  refine hk0.out _ _ ?_
  exact hfin (-1) rfl _ ⟨rfl, rfl, rfl, rfl, rfl, rfl, rfl⟩ _ rfl
end Go.Proofs.YtefmplccbkmalaaGreatDoor
