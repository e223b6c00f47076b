import Derived.Test.YtddkhnnpeonbgaaGreatDoorH47
import Derived.Test.YtddkhnnpeonbgaaGreatDoorH48
import Derived.Deep.CutRange
namespace Go.Proofs.YtddkhnnpeonbgaaGreatDoor
open Go.RowKit

theorem bin31_neqE {x y : Int} {d : Bool} {W : World} (h : (x != y) = d) : (binOp .neq 31 (.int .i64 x) (.int .i64 y)).run Tryz.prog W = .ok (.bool d) W := by
 rw [← h]; simp [go_sem]
theorem index22 (W : World) (g o N cap k : Nat) (hk : k < N) : (Instr.indexAt 22 (.slice (some ⟨g, o, none⟩) N cap) (.int .i64 k)).run Tryz.prog W = .ok (.pointer (some ⟨g, o + k, none⟩)) W := by
 simp [Instr.indexAt, go_sem, run_underlying Tryz.underlying22, hk]
theorem conv53 {x : Int} (h : 0 ≤ x ∧ x < 256) (W : World) : (convert 5 3 (.int .u8 x)).run Tryz.prog W = .ok (.int .i64 x) W := by
 have e : IntKind.i64.wrap x = x := IntWalk.i64_in _ (by omega)
 simp [go_sem, convert, e]
theorem bin_quoE {x y z : Int} {W : World} (hy : y ≠ 0) (h : IntKind.i64.wrap (x.tdiv y) = z) : (binOp .quo 3 (.int .i64 x) (.int .i64 y)).run Tryz.prog W = .ok (.int .i64 z) W := by
 rw [← h]; simp [go_sem, hy]
theorem bin_lssE {x y : Int} {d : Bool} {W : World} (h : decide (x < y) = d) : (binOp .lss 3 (.int .i64 x) (.int .i64 y)).run Tryz.prog W = .ok (.bool d) W := by rw [bin_lss, h]
theorem bin5_eqlE {x y : Int} {d : Bool} {W : World} (h : (x == y) = d) : (binOp .eql 5 (.int .u8 x) (.int .u8 y)).run Tryz.prog W = .ok (.bool d) W := by rw [← h]; simp [go_sem]
theorem region_cut {P : Program} {id : Nat} {ops : Array Oper} {Q : Exit → Act → World → Prop} {a : Act} {w : World} (ds : List (Option Tmp)) (k : Nat) (v : Value)
  (h : (Code.region id ops true).wp P (fun e a' w' => e = .normal ∧ ∃ f, a' = putL ds f 0 a ∧ f k = v ∧ Below w.heap.size w w') a w)
  (hq : ∀ f w', f k = v → Below w.heap.size w w' → Q .normal (putL ds f 0 a) w') : (Code.region id ops true).wp P Q a w := by
 refine Code.wp_mono ?_ h
 rintro e a' w' ⟨rfl, f, rfl, h1, h2⟩
 exact hq f w' h1 h2
theorem bin30_neqE {x y : Int} {d : Bool} {W : World} (h : (x != y) = d) : (binOp .neq 30 (.int .i16 x) (.int .i16 y)).run Tryz.prog W = .ok (.bool d) W := by
 rw [← h]; simp [go_sem]
theorem index42 (W : World) (g o N cap k : Nat) (hk : k < N) : (Instr.indexAt 42 (.slice (some ⟨g, o, none⟩) N cap) (.int .i64 k)).run Tryz.prog W = .ok (.pointer (some ⟨g, o + k, none⟩)) W := by
 simp [Instr.indexAt, go_sem, run_underlying Tryz.underlying42, hk]
theorem hold_facts {f r ca pa ha fu : Int} {xs : List Int} {bl : Bool} {m : Men} {X : List Int} {es : List Int} (hBd : (pvB f r xs bl ca pa ha fu && validB (ofM f r xs xs.length) && decide (ofM f r xs xs.length = m) && (ca == 0) && decide (pa < 0)) = true)
  (hc : countN m = es.length) (hlm : es.length ≤ 262144) (hXo : outM X = some m) (hXg : ∀ j, j < es.length → getV X j = (es[j]?.getD 0, 0)) :
  xs.length ≤ 64 ∧ validB (ofM f r xs xs.length) = true ∧ xs.length = (ofM f r xs xs.length).sq ∧ (∃ k1 k2 : Nat, kgI xs false = k1 ∧ kgI xs true = k2) ∧ numN xs bl < es.length ∧ lookV X f r xs bl ca pa ha fu = (es[numN xs bl]?.getD 0, 0) := by
 simp only [Bool.and_eq_true, decide_eq_true_eq, beq_iff_eq] at hBd
 obtain ⟨⟨⟨⟨c0, c1⟩, c2⟩, c3⟩, c4⟩ := hBd
 obtain ⟨hl64, hsq, k1, k2, e1, e2, hk1, hk2, kg1, kg2⟩ := pv_fac c0
 have hnl : numN xs bl < es.length := by
  rw [← hc, ← c2]
  have h := gN_lt c1 hsq (num0_lt bl hk1 hk2) 10 (by omega)
  unfold numN
  rw [kg1, kg2, Int.toNat_natCast, Int.toNat_natCast]
  exact h
 have hcl : countN (ofM f r xs xs.length) ≤ 1048576 := by rw [c2, hc]; omega
 have hnum : numE f r xs bl ca pa ha fu = (((numN xs bl : Nat) : Int), 0) := by
  unfold numE
  rw [if_pos c0, if_pos c1, if_pos hcl, if_neg (by omega)]
 refine ⟨hl64, c1, hsq, ⟨k1, k2, kg1, kg2⟩, hnl, ?_⟩
 rw [look_pos c0 hXo hnum, if_neg (by simp), if_neg (by simp [c2]), hXg _ hnl]
theorem tab_pre {m : Men} {p : Option Addr} {n c j : Nat} {v : Value} (h : m.cs[j]? = some v) : (tabCs m p n c)[j]? = some v := by
 rw [List.getElem?_append_left (List.getElem?_eq_some_iff.1 h).1]; exact h
theorem own_slc {W : World} {base n : Nat} {t : TypeId} {v : Value} {xs : List Value} (h : W.ownsRow base t 1 v n xs) : ∃ p c, v = .slice p n c := by
 rcases h.2 with ⟨h1, h2⟩ | ⟨g, cap, cur, h1, _⟩
 ·exact ⟨none, 0, by rw [h1, h2]⟩
 ·exact ⟨_, _, h1⟩
set_option maxRecDepth 100000 in
set_option maxHeartbeats 6400000 in
theorem PackedHolds_any (m : Men) (pe : Option Addr) (ce : Nat) (es : List Int) (hle : es.length ≤ 9223372036854775807) (hce : es.length ≤ ce)
  (f r ca pa ha fu : Int) (bl : Bool) (p : Option Addr) (c : Nat) (xs : List Int) (hca : 0 ≤ ca ∧ ca < 256) (hl : xs.length ≤ 9223372036854775807) (hcap : xs.length ≤ c) (h8 : ∀ x ∈ xs, -128 ≤ x ∧ x ≤ 127)
  (pb : Option Addr) (cb : Nat) (bs : List Int) (hbs : isBytes bs) (hlb : bs.length ≤ 9223372036854775807) (hcb : bs.length ≤ cb) (w : World) (hg : GlobOk w) (hm : MaxOk w) (hxe : Arr .i16 w pe es) (hx : Arr .i8 w p xs) (hb : Arr .u8 w pb bs) :
  Calls Tryz.prog 4 #[.agg (tabCs m pe es.length ce).toArray, .slice pb bs.length cb, .agg (posCs f r p xs.length c bl ca pa ha fu).toArray] w fun e w' => e = .returned (.bool true) ∧ Below w.heap.size w w' := by
 have hms : 1 < w.heap.size := by obtain ⟨_, _, h⟩ := hm; exact h
 have hA := (HasO.new w (.cells (tabCs m pe es.length ce).toArray 44)).alloc (.cells (posCs f r p xs.length c bl ca pa ha fu).toArray 27)
 have hP := HasO.new' (w.alloc (.cells (tabCs m pe es.length ce).toArray 44)) (.cells (posCs f r p xs.length c bl ca pa ha fu).toArray 27) (q := w.heap.size + 1) (by simp)
 have hB := (below_box w (.cells (tabCs m pe es.length ce).toArray 44)).alloc (by simp) (.cells (posCs f r p xs.length c bl ca pa ha fu).toArray 27)
 have hm1 := hm.call hB hms
 have hkn1 := known_any _ hm1
 have hc12 := hA.cells 12
 have hlc := hA.lt
 by_cases h0 : (4000 : Int) < es.length
 ·go_enter Tryz.func4, Tryz.ntmps4
  go_wp2_with fail
  refine hkn1.mono ?_
  rintro e w2 ⟨rfl, hb2⟩
  go_wp2_with fail
  go_ret
  exact ⟨rfl, below_call hB hB.size hb2⟩
 have hle1 : es.length ≤ 1000000000 := by omega
 have htab := fun W hW => refTab_any m pe ce es W hW hle1
 have hxe1 := hxe.call hB
 have hc := hA.cells
 go_enter Tryz.func4, Tryz.ntmps4
 go_wp2_with fail
 show Calls _ _ _ ((w.alloc (.cells (tabCs m pe es.length ce).toArray 44)).alloc (.cells (posCs f r p xs.length c bl ca pa ha fu).toArray 27)) _
 generalize (w.alloc (.cells (tabCs m pe es.length ce).toArray 44)).alloc (.cells (posCs f r p xs.length c bl ca pa ha fu).toArray 27) = w1 at *
 refine (htab w1 hxe1).mono ?_
 rintro e w2 ⟨rfl, hb2⟩
 have hA2 := hA.call hb2
 have hP2 := hP.call hb2
 have hB2 := below_call hB hB.size hb2
 have hm2 := hm.call hB2 hms
 clear hA hP hB hm1 hkn1 hc12 hlc htab hxe1 hc hb2
 rcases hok : tabOk m es with _ | _
 ·go_wp2_with fail
  refine (known_any w2 hm2).mono ?_
  rintro e w3 ⟨rfl, hb3⟩
  go_wp2_with fail
  go_ret
  exact ⟨rfl, below_call hB2 hB2.size hb3⟩
 have hc := hA2.cells
 have hlc := hA2.lt
 by_cases h1 : (10000 : Int) < bs.length
 ·go_wp2_with fail
  refine (known_any w2 hm2).mono ?_
  rintro e w3 ⟨rfl, hb3⟩
  go_wp2_with fail
  go_ret
  exact ⟨rfl, below_call hB2 hB2.size hb3⟩
 have hxe2 := hxe.call hB2
 have hpk := Pack_any m pe ce es w2 hxe2 hle1 hce
 rw [hok] at hpk
 -- what is packed
 have hXb := packL_bytes hok
 obtain ⟨hX59, hX0, hXa, hXt⟩ := packL_len59 hok
 obtain ⟨hvm, hcnt, hpos, hlm, hent⟩ := tabOk_facts hok
 have hXo := outM_pack hok
 have hXu := tabB_pack hok
 have hXV : outV (packL m es) = (m, (es.length : Int), 0) := by unfold outV; rw [hXo]; simp only; rw [hcnt]
 have hXg : ∀ j, j < es.length → getV (packL m es) j = (es[j]?.getD 0, 0) := fun j hj => by
  unfold getV; rw [hXo]; simp only
  rw [if_neg (by omega), Int.toNat_natCast, ent_pack hok hj]
 have hNb : nBlk es.length = (es.length + 31) / 32 := rfl
 obtain ⟨X, hX⟩ : ∃ X, X = packL m es := ⟨_, rfl⟩
 rw [← hX] at hXb hX59 hX0 hXa hXo hXu hXV hXg
 have hXl : X.length ≤ 2000000 := by rw [hXa] at hX59; omega
 replace hXo := Lib.hid hXo
 replace hXu := Lib.hid hXu
 replace hXV := Lib.hid hXV
 replace hXg := Lib.hid hXg
 replace hX := Lib.hid hX
 replace hent := Lib.hid hent
 replace hcnt := Lib.hid hcnt
 replace hok := Lib.hid hok
 go_wp2_with fail
 refine hpk.mono ?_
 rintro e w3 ⟨⟨v, rfl, hown, _⟩, hb3⟩
 have hown := hown hok.out
 rw [← hX.out] at hown
 have hA3 := hA2.call hb3
 have hP3 := hP2.call hb3
 have hB3 := below_call hB2 hB2.size hb3
 have hm3 := hm.call hB3 hms
 obtain ⟨px, cx, rfl, hcx, hAX⟩ := own_arr hown
 clear hA2 hP2 hB2 hm2 hc hlc hxe2 hpk hb3 hown
 go_wp2_with fail
 refine (Unpack_any px cx X w3 hAX hXb hXl hcx hm3).mono ?_
 rintro e w4 ⟨hb4, ⟨h, _⟩ | ⟨m', es', pu, cu, h, hcu, rfl, hownu⟩⟩
 ·rw [hXu.out] at h; cases h
 obtain ⟨rfl, rfl⟩ : m = m' ∧ es = es' := Prod.mk.inj (Option.some.inj (hXu.out.symm.trans h))
 clear h
 obtain ⟨pu', cu', eu, _, hAu⟩ := own_arr hownu
 injection eu with eu1 eu2 eu3
 subst eu1; subst eu3
 clear eu2 hownu
 have hA4 := hA3.call hb4
 have hP4 := hP3.call hb4
 have hB4 := below_call hB3 hB3.size hb4
 have hAX4 := hAX.call hb4
 clear hA3 hP3 hB3 hAX hm3 hb4
 have hT := HasO.new w4 (.cells (tabCs zeroMen none 0 0).toArray 44)
 obtain ⟨w5, hw5⟩ : ∃ x, x = (w4.alloc (.cells (tabCs zeroMen none 0 0).toArray 44)).setRow w4.heap.size (tabCs m pu es.length cu).toArray := ⟨_, rfl⟩
 obtain ⟨q5, hq5⟩ : ∃ q, q = w4.heap.size := ⟨_, rfl⟩
 have hU5 : HasO w5 q5 (.cells (tabCs m pu es.length cu).toArray 44 (0, 0)) := by rw [hw5, hq5]; exact setRow_hasO hT
 have hb5 : Below w4.heap.size w4 w5 := by rw [hw5]; exact setRow_below (below_box _ _) (Nat.le_refl _) (by simp)
 have hA5 := hA4.call hb5
 have hP5 := hP4.call hb5
 have hB5 := below_call hB4 hB4.size hb5
 have hAX5 := hAX4.call hb5
 have hAu5 := hAu.call hb5
 have hq50 : w.heap.size + 1 < q5 := by rw [hq5]; exact hP4.lt
 have hi44 : Hid ((Tryz.prog.info? 44).map (·.size) = some (tabCs m pu es.length cu).toArray.size) := Lib.hid (by kernel_rfl)
 have hone : Hid ((tabCs m pu es.length cu).toArray.all (·.oneCell') = true) := Lib.hid (by first | kernel_rfl | simp [Value.oneCell'])
 have hxe5 := hxe.call hB5
 have hsm := fun W h1 h2 => same_any m pu pe cu ce es W h1 h2 hle1
 replace hw5 := Lib.hid hw5
 clear hA4 hP4 hB4 hAX4 hAu hb5
 go_wp2_with (first | (refine wpList_storeTo hw5 rfl 44 (.tmp 9) (.tmp 44) rfl rfl rfl 44 _ hT hi44.out rfl hone.out ?_) | fail)
 rw [← hq5]
 clear hT hw5 hi44 hone hq5
 obtain ⟨gx, ox, rfl, hgx, hccx⟩ := hAX5.at (i := 0) hX0
 have hcx0 := hccx 0 hX0
 obtain ⟨x0, hx0⟩ : ∃ x0, x0 = atv X 0 := ⟨_, rfl⟩
 have hx0b : 0 ≤ x0 ∧ x0 < 256 := by rw [hx0]; exact atv_bd hXb 0
 rw [show X[0]?.getD 0 = x0 from hx0.symm] at hcx0
 rw [← hx0] at hX59
 obtain ⟨nb, hnb⟩ : ∃ nb, nb = nBlk es.length := ⟨_, rfl⟩
 rw [← hnb] at hX59
 have hnb2 : nb = (es.length + 31) / 32 := by rw [hnb]; rfl
 have hX0f : (((X.length : Nat) : Int) == 0) = false := by simp; intro h; rw [h] at hX0; simp at hX0
 have hb24 : IntKind.i64.wrap (1 + x0) = 1 + x0 := IntWalk.i64_in _ (by omega)
 have hb28 : IntKind.i64.wrap (((es.length : Nat) : Int) + 31) = ((es.length + 31 : Nat) : Int) := IntWalk.i64_in _ (by omega)
 have hb29 : IntKind.i64.wrap (((es.length + 31 : Nat) : Int).tdiv 32) = (nb : Int) := by
  have e : ((es.length + 31 : Nat) : Int).tdiv 32 = (nb : Int) := by rw [Int.tdiv_eq_ediv_of_nonneg (by omega)]; omega
  rw [e]; exact IntWalk.i64_in _ (by omega)
 have hb30 : IntKind.i64.wrap (59 * ((nb : Nat) : Int)) = ((59 * nb : Nat) : Int) := by rw [Int.natCast_mul]; exact IntWalk.i64_in _ (by omega)
 have hb31 : IntKind.i64.wrap (1 + x0 + ((59 * nb : Nat) : Int)) = 1 + x0 + ((59 * nb : Nat) : Int) := IntWalk.i64_in _ (by omega)
 have hb32 : decide ((1 + x0 + ((59 * nb : Nat) : Int)) < ((X.length : Nat) : Int)) = false := by simp; omega
 clear hx0 hccx
 refine wp_region_valsL (by kernel_rfl) (by kernel_rfl) [some 46, some 47, some 48, some 49, some 50, some 51, some 52, some 53, some 54, some 55, some 56, some 57, some 58, some 59, some 60, some 61, some 62, some 63, some 64, some 65, some 66, some 67, some 68, some 69, some 70, some 71, some 72, some 73, some 74, some 75, some 76, some 77, some 78, some 79] (by rfl) (by rfl) (fun i8 => match i8 with | 0 => .int .i64 0 | 1 => .bool false | 2 => .bool false | 3 => .int .i64 0 | 4 => .bool false | 5 => .bool false | 6 => .bool false | 7 => .agg (tabCs m pu es.length cu).toArray | 8 => .agg (tabCs m pe es.length ce).toArray | 9 => .bool true | 10 => .bool false | 11 => .bool false | 12 => .bool false | 13 => .slice (some ⟨gx, ox, none⟩) X.length cx | 14 => .int .i64 ((X.length : Nat) : Int) | 15 => .bool false | 16 => .bool false | 17 => .bool false | 18 => .slice (some ⟨gx, ox, none⟩) X.length cx | 19 => .int .i64 ((X.length : Nat) : Int) | 20 => .slice (some ⟨gx, ox, none⟩) X.length cx | 21 => .pointer (some ⟨gx, ox + 0, none⟩) | 22 => .int .u8 x0 | 23 => .int .i64 x0 | 24 => .int .i64 (1 + x0) | 25 => .pointer (some ⟨w.heap.size, 0 + 12, none⟩) | 26 => .slice pe es.length ce | 27 => .int .i64 ((es.length : Nat) : Int) | 28 => .int .i64 ((es.length + 31 : Nat) : Int) | 29 => .int .i64 ((nb : Nat) : Int) | 30 => .int .i64 ((59 * nb : Nat) : Int) | 31 => .int .i64 (1 + x0 + ((59 * nb : Nat) : Int)) | 32 => .bool false | 33 => .bool false | _ => undef) (fun W => Below w5.heap.size w5 W) ((Below.refl _ _).drew) ?hstep ?hend
 case hstep =>
  intro i9 o9 f9 W ho hi hC hf K hK
  have hi : i9 < 34 := hi
  rcases (by omega : i9 = 0 ∨ i9 = 1 ∨ i9 = 2 ∨ i9 = 3 ∨ i9 = 4 ∨ i9 = 5 ∨ i9 = 6 ∨ i9 = 7 ∨ i9 = 8 ∨ i9 = 9 ∨ i9 = 10 ∨ i9 = 11 ∨ i9 = 12 ∨ i9 = 13 ∨ i9 = 14 ∨ i9 = 15 ∨ i9 = 16 ∨ i9 = 17 ∨ i9 = 18 ∨ i9 = 19 ∨ i9 = 20 ∨ i9 = 21 ∨ i9 = 22 ∨ i9 = 23 ∨ i9 = 24 ∨ i9 = 25 ∨ i9 = 26 ∨ i9 = 27 ∨ i9 = 28 ∨ i9 = 29 ∨ i9 = 30 ∨ i9 = 31 ∨ i9 = 32 ∨ i9 = 33) with rfl | rfl | rfl | rfl | rfl | rfl | rfl | rfl | rfl | rfl | rfl | rfl | rfl | rfl | rfl | rfl | rfl | rfl | rfl | rfl | rfl | rfl | rfl | rfl | rfl | rfl | rfl | rfl | rfl | rfl | rfl | rfl | rfl | rfl
  ·exact st_move (by injection ho with h; rw [← h]; rfl) (.tmp 8) (by injection ho with h; rw [← h]; rfl) (rd_out rfl rfl) (hK _ hC)
  ·exact st_bin (by injection ho with h; rw [← h]; rfl) .neq 31 31 (.tmp 46) (.const (.int .i64 0)) (by injection ho with h; rw [← h]; rfl) (rd_in rfl 0 rfl (by simp) (hf ⟨0, .data⟩ (by injection ho with h; rw [← h]; simp) rfl)) rfl (gu_i _ _ _ _ _ _ _ _) (bin31_neqE rfl) (hK _ hC)
  ·exact st_move (by injection ho with h; rw [← h]; rfl) (.tmp 47) (by injection ho with h; rw [← h]; rfl) (rd_in rfl 1 rfl (by simp) (hf ⟨1, .data⟩ (by injection ho with h; rw [← h]; simp) rfl)) (hK _ hC)
  ·exact gd (wanted_of rfl 2 false 48 (by injection ho with h; rw [← h]; rfl) rfl rfl (by simp) (hf ⟨2, .guard⟩ (by injection ho with h; rw [← h]; simp) rfl)) (st_move rfl (.tmp 10) (by injection ho with h; rw [← h]; rfl) (rd_out rfl rfl) (hK _ hC))
  ·exact gd (wanted_of rfl 2 false 48 (by injection ho with h; rw [← h]; rfl) rfl rfl (by simp) (hf ⟨2, .guard⟩ (by injection ho with h; rw [← h]; simp) rfl)) (st_bin rfl .neq 31 31 (.tmp 49) (.const (.int .i64 0)) (by injection ho with h; rw [← h]; rfl) (rd_in rfl 3 rfl (by simp) (hf ⟨3, .data⟩ (by injection ho with h; rw [← h]; simp) rfl)) rfl (gu_i _ _ _ _ _ _ _ _) (bin31_neqE rfl) (hK _ hC))
  ·exact st_pickF (by injection ho with h; rw [← h]; rfl) (.tmp 48) (.const (.bool true)) (.tmp 50) (by injection ho with h; rw [← h]; rfl) (rd_in rfl 2 rfl (by simp) (hf ⟨2, .data⟩ (by injection ho with h; rw [← h]; simp) rfl)) (rd_in rfl 4 rfl (by simp) (hf ⟨4, .data⟩ (by injection ho with h; rw [← h]; simp) rfl)) (hK _ hC)
  ·exact st_move (by injection ho with h; rw [← h]; rfl) (.tmp 51) (by injection ho with h; rw [← h]; rfl) (rd_in rfl 5 rfl (by simp) (hf ⟨5, .data⟩ (by injection ho with h; rw [← h]; simp) rfl)) (hK _ hC)
  ·exact gd (wanted_of rfl 6 false 52 (by injection ho with h; rw [← h]; rfl) rfl rfl (by simp) (hf ⟨6, .guard⟩ (by injection ho with h; rw [← h]; simp) rfl)) (st_loadA rfl 44 (.tmp 9) (by injection ho with h; rw [← h]; rfl) (rd_out rfl rfl) (tabCs m pu es.length cu) (by kernel_rfl) (fun j v hv => by rw [Nat.zero_add, (hU5.call hC).cells j]; simpa using hv) (hK _ hC))
  ·exact gd (wanted_of rfl 6 false 52 (by injection ho with h; rw [← h]; rfl) rfl rfl (by simp) (hf ⟨6, .guard⟩ (by injection ho with h; rw [← h]; simp) rfl)) (st_loadA rfl 44 (.tmp 3) (by injection ho with h; rw [← h]; rfl) (rd_out rfl rfl) (tabCs m pe es.length ce) (by kernel_rfl) (fun j v hv => by rw [Nat.zero_add, (hA5.call hC).cells j]; simpa using hv) (hK _ hC))
  ·exact gd (wanted_of rfl 6 false 52 (by injection ho with h; rw [← h]; rfl) rfl rfl (by simp) (hf ⟨6, .guard⟩ (by injection ho with h; rw [← h]; simp) rfl)) (st_call2 rfl 13 (.tmp 53) (.tmp 54) #[44, 44] (by injection ho with h; rw [← h]; rfl) (rd_in rfl 7 rfl (by simp) (hf ⟨7, .data⟩ (by injection ho with h; rw [← h]; simp) rfl)) (rd_in rfl 8 rfl (by simp) (hf ⟨8, .data⟩ (by injection ho with h; rw [← h]; simp) rfl)) (fun _ _ => rfl) (hsm W (hAu5.call hC) (hxe5.call hC)) (by rintro u w9 ⟨h9, hb9⟩; injection h9 with h9; subst h9; exact hK _ (below_call hC hC.size hb9)) (by rintro ch w9 h9; revert h9; rintro ⟨h9, _⟩; cases h9) (by rintro w9 h9; revert h9; rintro ⟨h9, _⟩; cases h9))
  ·exact gd (wanted_of rfl 6 false 52 (by injection ho with h; rw [← h]; rfl) rfl rfl (by simp) (hf ⟨6, .guard⟩ (by injection ho with h; rw [← h]; simp) rfl)) (st_unop rfl .not 4 (.tmp 55) (by injection ho with h; rw [← h]; rfl) (rd_in rfl 9 rfl (by simp) (hf ⟨9, .data⟩ (by injection ho with h; rw [← h]; simp) rfl)) (not4 _ _) (hK _ hC))
  ·exact st_pickF (by injection ho with h; rw [← h]; rfl) (.tmp 52) (.const (.bool true)) (.tmp 56) (by injection ho with h; rw [← h]; rfl) (rd_in rfl 6 rfl (by simp) (hf ⟨6, .data⟩ (by injection ho with h; rw [← h]; simp) rfl)) (rd_in rfl 10 rfl (by simp) (hf ⟨10, .data⟩ (by injection ho with h; rw [← h]; simp) rfl)) (hK _ hC)
  ·exact st_move (by injection ho with h; rw [← h]; rfl) (.tmp 57) (by injection ho with h; rw [← h]; rfl) (rd_in rfl 11 rfl (by simp) (hf ⟨11, .data⟩ (by injection ho with h; rw [← h]; simp) rfl)) (hK _ hC)
  ·exact gd (wanted_of rfl 12 false 58 (by injection ho with h; rw [← h]; rfl) rfl rfl (by simp) (hf ⟨12, .guard⟩ (by injection ho with h; rw [← h]; simp) rfl)) (st_move rfl (.tmp 7) (by injection ho with h; rw [← h]; rfl) (rd_out rfl rfl) (hK _ hC))
  ·exact gd (wanted_of rfl 12 false 58 (by injection ho with h; rw [← h]; rfl) rfl rfl (by simp) (hf ⟨12, .guard⟩ (by injection ho with h; rw [← h]; simp) rfl)) (st_len rfl (.tmp 59) 22 (by injection ho with h; rw [← h]; rfl) Tryz.underlying22 (rd_in rfl 13 rfl (by simp) (hf ⟨13, .data⟩ (by injection ho with h; rw [← h]; simp) rfl)) (hK _ hC))
  ·exact gd (wanted_of rfl 12 false 58 (by injection ho with h; rw [← h]; rfl) rfl rfl (by simp) (hf ⟨12, .guard⟩ (by injection ho with h; rw [← h]; simp) rfl)) (st_bin rfl .eql 3 3 (.tmp 60) (.const (.int .i64 0)) (by injection ho with h; rw [← h]; rfl) (rd_in rfl 14 rfl (by simp) (hf ⟨14, .data⟩ (by injection ho with h; rw [← h]; simp) rfl)) rfl (gu_i _ _ _ _ _ _ _ _) (bin_eqlE hX0f) (hK _ hC))
  ·exact st_pickF (by injection ho with h; rw [← h]; rfl) (.tmp 58) (.const (.bool true)) (.tmp 61) (by injection ho with h; rw [← h]; rfl) (rd_in rfl 12 rfl (by simp) (hf ⟨12, .data⟩ (by injection ho with h; rw [← h]; simp) rfl)) (rd_in rfl 15 rfl (by simp) (hf ⟨15, .data⟩ (by injection ho with h; rw [← h]; simp) rfl)) (hK _ hC)
  ·exact st_move (by injection ho with h; rw [← h]; rfl) (.tmp 62) (by injection ho with h; rw [← h]; rfl) (rd_in rfl 16 rfl (by simp) (hf ⟨16, .data⟩ (by injection ho with h; rw [← h]; simp) rfl)) (hK _ hC)
  ·exact gd (wanted_of rfl 17 false 63 (by injection ho with h; rw [← h]; rfl) rfl rfl (by simp) (hf ⟨17, .guard⟩ (by injection ho with h; rw [← h]; simp) rfl)) (st_move rfl (.tmp 7) (by injection ho with h; rw [← h]; rfl) (rd_out rfl rfl) (hK _ hC))
  ·exact gd (wanted_of rfl 17 false 63 (by injection ho with h; rw [← h]; rfl) rfl rfl (by simp) (hf ⟨17, .guard⟩ (by injection ho with h; rw [← h]; simp) rfl)) (st_len rfl (.tmp 64) 22 (by injection ho with h; rw [← h]; rfl) Tryz.underlying22 (rd_in rfl 18 rfl (by simp) (hf ⟨18, .data⟩ (by injection ho with h; rw [← h]; simp) rfl)) (hK _ hC))
  ·exact gd (wanted_of rfl 17 false 63 (by injection ho with h; rw [← h]; rfl) rfl rfl (by simp) (hf ⟨17, .guard⟩ (by injection ho with h; rw [← h]; simp) rfl)) (st_move rfl (.tmp 7) (by injection ho with h; rw [← h]; rfl) (rd_out rfl rfl) (hK _ hC))
  ·exact gd (wanted_of rfl 17 false 63 (by injection ho with h; rw [← h]; rfl) rfl rfl (by simp) (hf ⟨17, .guard⟩ (by injection ho with h; rw [← h]; simp) rfl)) (st_index rfl 22 (.tmp 66) (.const (.int .i64 0)) (by injection ho with h; rw [← h]; rfl) (rd_in rfl 20 rfl (by simp) (hf ⟨20, .data⟩ (by injection ho with h; rw [← h]; simp) rfl)) rfl (index22 W gx ox X.length cx 0 hX0) (hK _ hC))
  ·exact gd (wanted_of rfl 17 false 63 (by injection ho with h; rw [← h]; rfl) rfl rfl (by simp) (hf ⟨17, .guard⟩ (by injection ho with h; rw [← h]; simp) rfl)) (st_loadS rfl 5 (.tmp 67) (by injection ho with h; rw [← h]; rfl) (rd_in rfl 21 rfl (by simp) (hf ⟨21, .data⟩ (by injection ho with h; rw [← h]; simp) rfl)) (by kernel_rfl) ((hC.cell (p := ⟨gx, ox + 0, none⟩) hgx).trans hcx0) (hK _ hC))
  ·exact gd (wanted_of rfl 17 false 63 (by injection ho with h; rw [← h]; rfl) rfl rfl (by simp) (hf ⟨17, .guard⟩ (by injection ho with h; rw [← h]; simp) rfl)) (st_convert rfl 5 3 (.tmp 68) (by injection ho with h; rw [← h]; rfl) (rd_in rfl 22 rfl (by simp) (hf ⟨22, .data⟩ (by injection ho with h; rw [← h]; simp) rfl)) (conv53 hx0b W) (hK _ hC))
  ·exact gd (wanted_of rfl 17 false 63 (by injection ho with h; rw [← h]; rfl) rfl rfl (by simp) (hf ⟨17, .guard⟩ (by injection ho with h; rw [← h]; simp) rfl)) (st_bin rfl .add 3 3 (.const (.int .i64 1)) (.tmp 69) (by injection ho with h; rw [← h]; rfl) rfl (rd_in rfl 23 rfl (by simp) (hf ⟨23, .data⟩ (by injection ho with h; rw [← h]; simp) rfl)) (gu_i _ _ _ _ _ _ _ _) (bin_addE hb24) (hK _ hC))
  ·exact gd (wanted_of rfl 17 false 63 (by injection ho with h; rw [← h]; rfl) rfl rfl (by simp) (hf ⟨17, .guard⟩ (by injection ho with h; rw [← h]; simp) rfl)) (st_field rfl 44 (.tmp 3) 1 (by injection ho with h; rw [← h]; rfl) (rd_out rfl rfl) (n := 12) (by kernel_rfl) (hK _ hC))
  ·exact gd (wanted_of rfl 17 false 63 (by injection ho with h; rw [← h]; rfl) rfl rfl (by simp) (hf ⟨17, .guard⟩ (by injection ho with h; rw [← h]; simp) rfl)) (st_loadS rfl 42 (.tmp 71) (by injection ho with h; rw [← h]; rfl) (rd_in rfl 25 rfl (by simp) (hf ⟨25, .data⟩ (by injection ho with h; rw [← h]; simp) rfl)) (by kernel_rfl) ((hA5.call hC).cells 12) (hK _ hC))
  ·exact gd (wanted_of rfl 17 false 63 (by injection ho with h; rw [← h]; rfl) rfl rfl (by simp) (hf ⟨17, .guard⟩ (by injection ho with h; rw [← h]; simp) rfl)) (st_len rfl (.tmp 72) 42 (by injection ho with h; rw [← h]; rfl) Tryz.underlying42 (rd_in rfl 26 rfl (by simp) (hf ⟨26, .data⟩ (by injection ho with h; rw [← h]; simp) rfl)) (hK _ hC))
  ·exact gd (wanted_of rfl 17 false 63 (by injection ho with h; rw [← h]; rfl) rfl rfl (by simp) (hf ⟨17, .guard⟩ (by injection ho with h; rw [← h]; simp) rfl)) (st_bin rfl .add 3 3 (.tmp 73) (.const (.int .i64 31)) (by injection ho with h; rw [← h]; rfl) (rd_in rfl 27 rfl (by simp) (hf ⟨27, .data⟩ (by injection ho with h; rw [← h]; simp) rfl)) rfl (gu_i _ _ _ _ _ _ _ _) (bin_addE hb28) (hK _ hC))
  ·exact gd (wanted_of rfl 17 false 63 (by injection ho with h; rw [← h]; rfl) rfl rfl (by simp) (hf ⟨17, .guard⟩ (by injection ho with h; rw [← h]; simp) rfl)) (st_bin rfl .quo 3 3 (.tmp 74) (.const (.int .i64 32)) (by injection ho with h; rw [← h]; rfl) (rd_in rfl 28 rfl (by simp) (hf ⟨28, .data⟩ (by injection ho with h; rw [← h]; simp) rfl)) rfl (gu_i _ _ _ _ _ _ _ _) (bin_quoE (by decide) hb29) (hK _ hC))
  ·exact gd (wanted_of rfl 17 false 63 (by injection ho with h; rw [← h]; rfl) rfl rfl (by simp) (hf ⟨17, .guard⟩ (by injection ho with h; rw [← h]; simp) rfl)) (st_bin rfl .mul 3 3 (.const (.int .i64 59)) (.tmp 75) (by injection ho with h; rw [← h]; rfl) rfl (rd_in rfl 29 rfl (by simp) (hf ⟨29, .data⟩ (by injection ho with h; rw [← h]; simp) rfl)) (gu_i _ _ _ _ _ _ _ _) (bin_mulE hb30) (hK _ hC))
  ·exact gd (wanted_of rfl 17 false 63 (by injection ho with h; rw [← h]; rfl) rfl rfl (by simp) (hf ⟨17, .guard⟩ (by injection ho with h; rw [← h]; simp) rfl)) (st_bin rfl .add 3 3 (.tmp 70) (.tmp 76) (by injection ho with h; rw [← h]; rfl) (rd_in rfl 24 rfl (by simp) (hf ⟨24, .data⟩ (by injection ho with h; rw [← h]; simp) rfl)) (rd_in rfl 30 rfl (by simp) (hf ⟨30, .data⟩ (by injection ho with h; rw [← h]; simp) rfl)) (gu_i _ _ _ _ _ _ _ _) (bin_addE hb31) (hK _ hC))
  ·exact gd (wanted_of rfl 17 false 63 (by injection ho with h; rw [← h]; rfl) rfl rfl (by simp) (hf ⟨17, .guard⟩ (by injection ho with h; rw [← h]; simp) rfl)) (st_bin rfl .gtr 3 3 (.tmp 65) (.tmp 77) (by injection ho with h; rw [← h]; rfl) (rd_in rfl 19 rfl (by simp) (hf ⟨19, .data⟩ (by injection ho with h; rw [← h]; simp) rfl)) (rd_in rfl 31 rfl (by simp) (hf ⟨31, .data⟩ (by injection ho with h; rw [← h]; simp) rfl)) (gu_i _ _ _ _ _ _ _ _) (bin_gtrE hb32) (hK _ hC))
  ·exact st_pickF (by injection ho with h; rw [← h]; rfl) (.tmp 63) (.const (.bool true)) (.tmp 78) (by injection ho with h; rw [← h]; rfl) (rd_in rfl 17 rfl (by simp) (hf ⟨17, .data⟩ (by injection ho with h; rw [← h]; simp) rfl)) (rd_in rfl 32 rfl (by simp) (hf ⟨32, .data⟩ (by injection ho with h; rw [← h]; simp) rfl)) (hK _ hC)
 case hend =>
  intro W hC
  simp only [putL, Act.put, List.setIfInBounds_toArray, List.set_cons_succ, List.set_cons_zero]
  have hA6 := hA5.call hC
  have hP6 := hP5.call hC
  have hB6 := below_call hB5 hB5.size hC
  have hAX6 := hAX5.call hC
  have hm6 := hm.call hB6 hms
  clear hA5 hP5 hB5 hAX5 hU5 hAu5 hxe5 hsm hb24 hb28 hb29 hb30 hb31 hb32 hC hX0f hcx0 hgx
  go_wp2_with fail
  refine (Men_any _ cx X W hAX6 hXb hXl hcx hm6).mono ?_
  rintro e w7 ⟨rfl, hb7⟩
  rw [hXV.out]
  have hA7 := hA6.call hb7
  have hP7 := hP6.call hb7
  have hB7 := below_call hB6 hB6.size hb7
  have hAX7 := hAX6.call hb7
  clear hA6 hP6 hB6 hAX6 hm6 hb7
  have hT := HasO.new w7 (.cells zeroMen.cs.toArray 41)
  obtain ⟨w8, hw8⟩ : ∃ x, x = (w7.alloc (.cells zeroMen.cs.toArray 41)).setRow w7.heap.size m.cs.toArray := ⟨_, rfl⟩
  obtain ⟨q8, hq8⟩ : ∃ q, q = w7.heap.size := ⟨_, rfl⟩
  have hM8 : HasO w8 q8 (.cells m.cs.toArray 41 (0, 0)) := by rw [hw8, hq8]; exact setRow_hasO hT
  have hb8 : Below w7.heap.size w7 w8 := by rw [hw8]; exact setRow_below (below_box _ _) (Nat.le_refl _) (by simp)
  have hA8 := hA7.call hb8
  have hP8 := hP7.call hb8
  have hB8 := below_call hB7 hB7.size hb8
  have hAX8 := hAX7.call hb8
  have hm8 := hm.call hB8 hms
  have hq80 : w.heap.size + 1 < q8 := by rw [hq8]; exact hP7.lt
  have hi41 : Hid ((Tryz.prog.info? 41).map (·.size) = some zeroMen.cs.toArray.size) := Lib.hid (by kernel_rfl)
  have hwid := Widths_any (some ⟨gx, ox, none⟩) cx X w8 hAX8 hXb hXl hcx hm8
  replace hw8 := Lib.hid hw8
  clear hA7 hP7 hB7 hAX7
  go_wp2_with (first | (refine wpList_storeTo hw8 rfl 41 (.tmp 11) (.tmp 83) rfl rfl rfl 41 _ hT hi41.out rfl (men_one m) ?_) | fail)
  refine hwid.mono ?_
  rintro e w9 ⟨hb9, v9, rfl, _, hv9⟩
  obtain ⟨p9, c9, rfl⟩ := own_slc (hv9 m hXo.out)
  rw [← hq8]
  rw [hXV.out, hcnt.out, ← hnb]
  have hA9 := hA8.call hb9
  have hP9 := hP8.call hb9
  have hM9 := hM8.call hb9
  have hB9 := below_call hB8 hB8.size hb9
  have hAX9 := hAX8.call hb9
  clear hA8 hP8 hM8 hB8 hAX8 hm8 hb9 hv9 hwid hT hw8 hi41 hq8
  have hc := hA9.cells
  have hd := hM9.cells
  have hlt1 := hA9.lt
  have hlt2 := hM9.lt
  have hne : ∀ W : World, (binOp .neq 41 (.agg m.cs.toArray) (.agg m.cs.toArray)).run Tryz.prog W = .ok (.bool false) W := fun W => by rw [men_neq]; simp
  have hgd := fun x y W => men_guard .neq x y m.cs.toArray m.cs.toArray W
  go_wp2_with fail
  clear hne hgd hc hd hlt1 hlt2 hM9 hq80
  go_loopg [14] 1000000001 (fun q iv wr => ∃ i : Nat, ∃ wz, wz = wr ∧ q + i = 1000000001 ∧ i ≤ es.length ∧ iv = .int .i64 i ∧ Below w9.heap.size w9 wr)
  case atStart => exact ⟨0, _, rfl, rfl, Nat.zero_le _, rfl, Below.refl _ _⟩
  case round =>
   obtain ⟨i, wx, rfl, hq, hi, rfl, hbr⟩ := hrel
   have hA10 := hA9.call hbr
   have hP10 := hP9.call hbr
   have hAX10 := hAX9.call hbr
   have hB10 := below_call hB9 hB9.size hbr
   have hc := hA10.cells
   have hlt1 := hA10.lt
   have hm10 := hm.call hB10 hms
   by_cases hlt : i < es.length
   ·have hii : (i : Int) < es.length := by omega
    have hxe10 := hxe.call hB10
    obtain ⟨b, o, rfl, hbl, hcc⟩ := hxe10.at hlt
    have hci := hcc i hlt
    obtain ⟨x, hxv⟩ : ∃ x, x = es[i]?.getD 0 := ⟨_, rfl⟩
    rw [← hxv] at hci
    have hge := gets_any (some ⟨gx, ox, none⟩) cx X i x
    rw [show decide (getV X i = (x, 0)) = true by rw [hXg.out i hlt, hxv]; simp] at hge
    clear hcc hxv
    go_wp2_with fail
    refine (hge _ hAX10 hXb hXl hcx hm10).mono ?_
    rintro e w11 ⟨rfl, hb11⟩
    clear hge
    go_wp2_with fail
    go_roundg (gk - 1)
    case measure => omega
    case rel => exact ⟨i + 1, _, rfl, by omega, by omega, by go_num, below_call hbr hbr.size hb11⟩
   ·have hii : ¬ (i : Int) < es.length := by omega
    go_wp2_with fail
    clear hA9 hP9 hAX9 hB9 hbr hq hi hii hlt
    have hx10 := hx.call hB10
    have hpv := fun W => refPos_any f r ca pa ha fu bl p c xs hca.1 W
    have hva := fun W => refValid_any (ofM f r xs xs.length) W
    have hme := fun W => men_eql (ofM f r xs xs.length) m W
    have hof0 := fun (h : pvB f r xs bl ca pa ha fu = true) W => refIdxOf_any f r ca pa ha fu bl p c xs (by have := (pv_fac h).1; omega) h8 W
    obtain ⟨a0, hc0⟩ : ∃ b, pvB f r xs bl ca pa ha fu = b := ⟨_, rfl⟩
    obtain ⟨a1, hc1⟩ : ∃ b, validB (ofM f r xs xs.length) = b := ⟨_, rfl⟩
    obtain ⟨a2, hc2⟩ : ∃ b, decide (ofM f r xs xs.length = m) = b := ⟨_, rfl⟩
    obtain ⟨a3, hc3⟩ : ∃ b, (ca == 0) = b := ⟨_, rfl⟩
    obtain ⟨a4, hc4⟩ : ∃ b, decide (pa < 0) = b := ⟨_, rfl⟩
    have hof := fun (h : a0 = true) => hof0 (hc0.trans h)
    rw [hc0] at hpv
    rw [hc1] at hva
    rw [hc2] at hme
    obtain ⟨B, hBd⟩ : ∃ B, B = (a0 && a1 && a2 && a3 && a4) := ⟨_, rfl⟩
    refine region_cut [some 134, some 135, some 136, some 137, some 138, some 139, some 140, some 141, some 142, some 143, some 144, some 145, some 146, some 147, some 148, some 149, some 150, some 151, some 152, some 153, some 154, some 155, some 156, some 157] 23 (.bool B) ?hreg ?htail
    case hreg =>
     refine wp_region_valsL (by kernel_rfl) (by kernel_rfl) [some 134, some 135, some 136, some 137, some 138, some 139, some 140, some 141, some 142, some 143, some 144, some 145, some 146, some 147, some 148, some 149, some 150, some 151, some 152, some 153, some 154, some 155, some 156, some 157] (by rfl) (by rfl) (fun i8 => match i8 with | 0 => .agg (posCs f r p xs.length c bl ca pa ha fu).toArray | 1 => .bool a0 | 2 => .bool a0 | 3 => bif (a0) then .agg (posCs f r p xs.length c bl ca pa ha fu).toArray else undef | 4 => bif (a0) then .agg (ofM f r xs xs.length).cs.toArray else undef | 5 => bif (a0) then .bool a1 else undef | 6 => .bool (a0 && a1) | 7 => .bool (a0 && a1) | 8 => bif (a0 && a1) then .agg (posCs f r p xs.length c bl ca pa ha fu).toArray else undef | 9 => bif (a0 && a1) then .agg (ofM f r xs xs.length).cs.toArray else undef | 10 => bif (a0 && a1) then .pointer (some ⟨w.heap.size, 0 + 0, none⟩) else undef | 11 => bif (a0 && a1) then .agg m.cs.toArray else undef | 12 => bif (a0 && a1) then .bool a2 else undef | 13 => .bool (a0 && a1 && a2) | 14 => .bool (a0 && a1 && a2) | 15 => bif (a0 && a1 && a2) then .pointer (some ⟨w.heap.size + 1, 0 + 4, none⟩) else undef | 16 => bif (a0 && a1 && a2) then .int .u8 ca else undef | 17 => bif (a0 && a1 && a2) then .bool a3 else undef | 18 => .bool (a0 && a1 && a2 && a3) | 19 => .bool (a0 && a1 && a2 && a3) | 20 => bif (a0 && a1 && a2 && a3) then .pointer (some ⟨w.heap.size + 1, 0 + 5, none⟩) else undef | 21 => bif (a0 && a1 && a2 && a3) then .int .i64 pa else undef | 22 => bif (a0 && a1 && a2 && a3) then .bool a4 else undef | 23 => .bool (a0 && a1 && a2 && a3 && a4) | _ => undef) (fun W => Below wx.heap.size wx W) ((Below.refl _ _).drew) ?hstep ?hend
     case hstep =>
      intro i9 o9 f9 W ho hi hC hf K hK
      have hi : i9 < 24 := hi
      rcases (by omega : i9 = 0 ∨ i9 = 1 ∨ i9 = 2 ∨ i9 = 3 ∨ i9 = 4 ∨ i9 = 5 ∨ i9 = 6 ∨ i9 = 7 ∨ i9 = 8 ∨ i9 = 9 ∨ i9 = 10 ∨ i9 = 11 ∨ i9 = 12 ∨ i9 = 13 ∨ i9 = 14 ∨ i9 = 15 ∨ i9 = 16 ∨ i9 = 17 ∨ i9 = 18 ∨ i9 = 19 ∨ i9 = 20 ∨ i9 = 21 ∨ i9 = 22 ∨ i9 = 23) with rfl | rfl | rfl | rfl | rfl | rfl | rfl | rfl | rfl | rfl | rfl | rfl | rfl | rfl | rfl | rfl | rfl | rfl | rfl | rfl | rfl | rfl | rfl | rfl
      ·exact st_loadA (by injection ho with h; rw [← h]; rfl) 27 (.tmp 5) (by injection ho with h; rw [← h]; rfl) (rd_out rfl rfl) (posCs f r p xs.length c bl ca pa ha fu) (by kernel_rfl) (fun j v hv => by rw [Nat.zero_add, (hP10.call hC).cells j]; simpa using hv) (hK _ hC)
      ·exact st_call1 (by injection ho with h; rw [← h]; rfl) 17 (.tmp 134) #[27] (by injection ho with h; rw [← h]; rfl) (rd_in rfl 0 rfl (by simp) (hf ⟨0, .data⟩ (by injection ho with h; rw [← h]; simp) rfl)) (fun _ _ => rfl) (hpv W (hx10.call hC)) (by rintro u w9 ⟨h9, hb9⟩; injection h9 with h9; subst h9; exact hK _ (below_call hC hC.size hb9)) (by rintro ch w9 h9; revert h9; rintro ⟨h9, _⟩; cases h9) (by rintro w9 h9; revert h9; rintro ⟨h9, _⟩; cases h9)
      ·exact st_move (by injection ho with h; rw [← h]; rfl) (.tmp 135) (by injection ho with h; rw [← h]; rfl) (rd_in rfl 1 rfl (by simp) (hf ⟨1, .data⟩ (by injection ho with h; rw [← h]; simp) rfl)) (hK _ hC)
      ·cases a0 <;> first | exact skip_gd (unwanted_of rfl 2 true false 136 (by injection ho with h; rw [← h]; rfl) rfl rfl (by simp) (hf ⟨2, .guard⟩ (by injection ho with h; rw [← h]; simp) rfl) (by decide)) (hK _ hC) | exact gd (wanted_of rfl 2 true 136 (by injection ho with h; rw [← h]; rfl) rfl rfl (by simp) (hf ⟨2, .guard⟩ (by injection ho with h; rw [← h]; simp) rfl)) (st_loadA rfl 27 (.tmp 5) (by injection ho with h; rw [← h]; rfl) (rd_out rfl rfl) (posCs f r p xs.length c bl ca pa ha fu) (by kernel_rfl) (fun j v hv => by rw [Nat.zero_add, (hP10.call hC).cells j]; simpa using hv) (hK _ hC))
      ·cases a0 <;> first | exact skip_gd (unwanted_of rfl 2 true false 136 (by injection ho with h; rw [← h]; rfl) rfl rfl (by simp) (hf ⟨2, .guard⟩ (by injection ho with h; rw [← h]; simp) rfl) (by decide)) (hK _ hC) | exact gd (wanted_of rfl 2 true 136 (by injection ho with h; rw [← h]; rfl) rfl rfl (by simp) (hf ⟨2, .guard⟩ (by injection ho with h; rw [← h]; simp) rfl)) (st_call1 rfl 19 (.tmp 137) #[27] (by injection ho with h; rw [← h]; rfl) (rd_in rfl 3 rfl (by simp) (hf ⟨3, .data⟩ (by injection ho with h; rw [← h]; simp) rfl)) (fun _ _ => rfl) (hof rfl W (hx10.call hC)) (by rintro u w9 ⟨h9, hb9⟩; injection h9 with h9; subst h9; exact hK _ (below_call hC hC.size hb9)) (by rintro ch w9 h9; revert h9; rintro ⟨h9, _⟩; cases h9) (by rintro w9 h9; revert h9; rintro ⟨h9, _⟩; cases h9))
      ·cases a0 <;> first | exact skip_gd (unwanted_of rfl 2 true false 136 (by injection ho with h; rw [← h]; rfl) rfl rfl (by simp) (hf ⟨2, .guard⟩ (by injection ho with h; rw [← h]; simp) rfl) (by decide)) (hK _ hC) | exact gd (wanted_of rfl 2 true 136 (by injection ho with h; rw [← h]; rfl) rfl rfl (by simp) (hf ⟨2, .guard⟩ (by injection ho with h; rw [← h]; simp) rfl)) (st_call1 rfl 18 (.tmp 138) #[41] (by injection ho with h; rw [← h]; rfl) (rd_in rfl 4 rfl (by simp) (hf ⟨4, .data⟩ (by injection ho with h; rw [← h]; simp) rfl)) (fun _ _ => rfl) (hva W) (by rintro u w9 ⟨h9, hb9⟩; injection h9 with h9; subst h9; exact hK _ (below_call hC hC.size hb9)) (by rintro ch w9 h9; revert h9; rintro ⟨h9, _⟩; cases h9) (by rintro w9 h9; revert h9; rintro ⟨h9, _⟩; cases h9))
      ·cases a0 <;> first | exact st_pickF (by injection ho with h; rw [← h]; rfl) (.tmp 136) (.tmp 139) (.const (.bool false)) (by injection ho with h; rw [← h]; rfl) (rd_in rfl 2 rfl (by simp) (hf ⟨2, .data⟩ (by injection ho with h; rw [← h]; simp) rfl)) rfl (hK _ hC) | exact st_pickT (by injection ho with h; rw [← h]; rfl) (.tmp 136) (.tmp 139) (.const (.bool false)) (by injection ho with h; rw [← h]; rfl) (rd_in rfl 2 rfl (by simp) (hf ⟨2, .data⟩ (by injection ho with h; rw [← h]; simp) rfl)) (rd_in rfl 5 rfl (by simp) (hf ⟨5, .data⟩ (by injection ho with h; rw [← h]; simp) rfl)) (hK _ hC)
      ·exact st_move (by injection ho with h; rw [← h]; rfl) (.tmp 140) (by injection ho with h; rw [← h]; rfl) (rd_in rfl 6 rfl (by simp) (hf ⟨6, .data⟩ (by injection ho with h; rw [← h]; simp) rfl)) (hK _ hC)
      ·cases a0 <;> cases a1 <;> first | exact skip_gd (unwanted_of rfl 7 true false 141 (by injection ho with h; rw [← h]; rfl) rfl rfl (by simp) (hf ⟨7, .guard⟩ (by injection ho with h; rw [← h]; simp) rfl) (by decide)) (hK _ hC) | exact gd (wanted_of rfl 7 true 141 (by injection ho with h; rw [← h]; rfl) rfl rfl (by simp) (hf ⟨7, .guard⟩ (by injection ho with h; rw [← h]; simp) rfl)) (st_loadA rfl 27 (.tmp 5) (by injection ho with h; rw [← h]; rfl) (rd_out rfl rfl) (posCs f r p xs.length c bl ca pa ha fu) (by kernel_rfl) (fun j v hv => by rw [Nat.zero_add, (hP10.call hC).cells j]; simpa using hv) (hK _ hC))
      ·cases a0 <;> cases a1 <;> first | exact skip_gd (unwanted_of rfl 7 true false 141 (by injection ho with h; rw [← h]; rfl) rfl rfl (by simp) (hf ⟨7, .guard⟩ (by injection ho with h; rw [← h]; simp) rfl) (by decide)) (hK _ hC) | exact gd (wanted_of rfl 7 true 141 (by injection ho with h; rw [← h]; rfl) rfl rfl (by simp) (hf ⟨7, .guard⟩ (by injection ho with h; rw [← h]; simp) rfl)) (st_call1 rfl 19 (.tmp 142) #[27] (by injection ho with h; rw [← h]; rfl) (rd_in rfl 8 rfl (by simp) (hf ⟨8, .data⟩ (by injection ho with h; rw [← h]; simp) rfl)) (fun _ _ => rfl) (hof rfl W (hx10.call hC)) (by rintro u w9 ⟨h9, hb9⟩; injection h9 with h9; subst h9; exact hK _ (below_call hC hC.size hb9)) (by rintro ch w9 h9; revert h9; rintro ⟨h9, _⟩; cases h9) (by rintro w9 h9; revert h9; rintro ⟨h9, _⟩; cases h9))
      ·cases a0 <;> cases a1 <;> first | exact skip_gd (unwanted_of rfl 7 true false 141 (by injection ho with h; rw [← h]; rfl) rfl rfl (by simp) (hf ⟨7, .guard⟩ (by injection ho with h; rw [← h]; simp) rfl) (by decide)) (hK _ hC) | exact gd (wanted_of rfl 7 true 141 (by injection ho with h; rw [← h]; rfl) rfl rfl (by simp) (hf ⟨7, .guard⟩ (by injection ho with h; rw [← h]; simp) rfl)) (st_field rfl 44 (.tmp 3) 0 (by injection ho with h; rw [← h]; rfl) (rd_out rfl rfl) (n := 0) (by kernel_rfl) (hK _ hC))
      ·cases a0 <;> cases a1 <;> first | exact skip_gd (unwanted_of rfl 7 true false 141 (by injection ho with h; rw [← h]; rfl) rfl rfl (by simp) (hf ⟨7, .guard⟩ (by injection ho with h; rw [← h]; simp) rfl) (by decide)) (hK _ hC) | exact gd (wanted_of rfl 7 true 141 (by injection ho with h; rw [← h]; rfl) rfl rfl (by simp) (hf ⟨7, .guard⟩ (by injection ho with h; rw [← h]; simp) rfl)) (st_loadA rfl 41 (.tmp 144) (by injection ho with h; rw [← h]; rfl) (rd_in rfl 10 rfl (by simp) (hf ⟨10, .data⟩ (by injection ho with h; rw [← h]; simp) rfl)) m.cs (by kernel_rfl) (fun j v hv => by simp only [Nat.zero_add]; rw [(hA10.call hC).cells j]; have hv2 := tab_pre (p := pe) (n := es.length) (c := ce) hv; simpa using hv2) (hK _ hC))
      ·cases a0 <;> cases a1 <;> first | exact skip_gd (unwanted_of rfl 7 true false 141 (by injection ho with h; rw [← h]; rfl) rfl rfl (by simp) (hf ⟨7, .guard⟩ (by injection ho with h; rw [← h]; simp) rfl) (by decide)) (hK _ hC) | exact gd (wanted_of rfl 7 true 141 (by injection ho with h; rw [← h]; rfl) rfl rfl (by simp) (hf ⟨7, .guard⟩ (by injection ho with h; rw [← h]; simp) rfl)) (st_bin rfl .eql 41 41 (.tmp 143) (.tmp 145) (by injection ho with h; rw [← h]; rfl) (rd_in rfl 9 rfl (by simp) (hf ⟨9, .data⟩ (by injection ho with h; rw [← h]; simp) rfl)) (rd_in rfl 11 rfl (by simp) (hf ⟨11, .data⟩ (by injection ho with h; rw [← h]; simp) rfl)) (men_guard .eql _ _ _ _ _) (hme W) (hK _ hC))
      ·cases a0 <;> cases a1 <;> first | exact st_pickF (by injection ho with h; rw [← h]; rfl) (.tmp 141) (.tmp 146) (.const (.bool false)) (by injection ho with h; rw [← h]; rfl) (rd_in rfl 7 rfl (by simp) (hf ⟨7, .data⟩ (by injection ho with h; rw [← h]; simp) rfl)) rfl (hK _ hC) | exact st_pickT (by injection ho with h; rw [← h]; rfl) (.tmp 141) (.tmp 146) (.const (.bool false)) (by injection ho with h; rw [← h]; rfl) (rd_in rfl 7 rfl (by simp) (hf ⟨7, .data⟩ (by injection ho with h; rw [← h]; simp) rfl)) (rd_in rfl 12 rfl (by simp) (hf ⟨12, .data⟩ (by injection ho with h; rw [← h]; simp) rfl)) (hK _ hC)
      ·exact st_move (by injection ho with h; rw [← h]; rfl) (.tmp 147) (by injection ho with h; rw [← h]; rfl) (rd_in rfl 13 rfl (by simp) (hf ⟨13, .data⟩ (by injection ho with h; rw [← h]; simp) rfl)) (hK _ hC)
      ·cases a0 <;> cases a1 <;> cases a2 <;> first | exact skip_gd (unwanted_of rfl 14 true false 148 (by injection ho with h; rw [← h]; rfl) rfl rfl (by simp) (hf ⟨14, .guard⟩ (by injection ho with h; rw [← h]; simp) rfl) (by decide)) (hK _ hC) | exact gd (wanted_of rfl 14 true 148 (by injection ho with h; rw [← h]; rfl) rfl rfl (by simp) (hf ⟨14, .guard⟩ (by injection ho with h; rw [← h]; simp) rfl)) (st_field rfl 27 (.tmp 5) 3 (by injection ho with h; rw [← h]; rfl) (rd_out rfl rfl) (n := 4) (by kernel_rfl) (hK _ hC))
      ·cases a0 <;> cases a1 <;> cases a2 <;> first | exact skip_gd (unwanted_of rfl 14 true false 148 (by injection ho with h; rw [← h]; rfl) rfl rfl (by simp) (hf ⟨14, .guard⟩ (by injection ho with h; rw [← h]; simp) rfl) (by decide)) (hK _ hC) | exact gd (wanted_of rfl 14 true 148 (by injection ho with h; rw [← h]; rfl) rfl rfl (by simp) (hf ⟨14, .guard⟩ (by injection ho with h; rw [← h]; simp) rfl)) (st_loadS rfl 5 (.tmp 149) (by injection ho with h; rw [← h]; rfl) (rd_in rfl 15 rfl (by simp) (hf ⟨15, .data⟩ (by injection ho with h; rw [← h]; simp) rfl)) (by kernel_rfl) ((hP10.call hC).cells 4) (hK _ hC))
      ·cases a0 <;> cases a1 <;> cases a2 <;> first | exact skip_gd (unwanted_of rfl 14 true false 148 (by injection ho with h; rw [← h]; rfl) rfl rfl (by simp) (hf ⟨14, .guard⟩ (by injection ho with h; rw [← h]; simp) rfl) (by decide)) (hK _ hC) | exact gd (wanted_of rfl 14 true 148 (by injection ho with h; rw [← h]; rfl) rfl rfl (by simp) (hf ⟨14, .guard⟩ (by injection ho with h; rw [← h]; simp) rfl)) (st_bin rfl .eql 5 5 (.tmp 150) (.const (.int .u8 0)) (by injection ho with h; rw [← h]; rfl) (rd_in rfl 16 rfl (by simp) (hf ⟨16, .data⟩ (by injection ho with h; rw [← h]; simp) rfl)) rfl (gu_i _ _ _ _ _ _ _ _) (bin5_eqlE hc3) (hK _ hC))
      ·cases a0 <;> cases a1 <;> cases a2 <;> first | exact st_pickF (by injection ho with h; rw [← h]; rfl) (.tmp 148) (.tmp 151) (.const (.bool false)) (by injection ho with h; rw [← h]; rfl) (rd_in rfl 14 rfl (by simp) (hf ⟨14, .data⟩ (by injection ho with h; rw [← h]; simp) rfl)) rfl (hK _ hC) | exact st_pickT (by injection ho with h; rw [← h]; rfl) (.tmp 148) (.tmp 151) (.const (.bool false)) (by injection ho with h; rw [← h]; rfl) (rd_in rfl 14 rfl (by simp) (hf ⟨14, .data⟩ (by injection ho with h; rw [← h]; simp) rfl)) (rd_in rfl 17 rfl (by simp) (hf ⟨17, .data⟩ (by injection ho with h; rw [← h]; simp) rfl)) (hK _ hC)
      ·exact st_move (by injection ho with h; rw [← h]; rfl) (.tmp 152) (by injection ho with h; rw [← h]; rfl) (rd_in rfl 18 rfl (by simp) (hf ⟨18, .data⟩ (by injection ho with h; rw [← h]; simp) rfl)) (hK _ hC)
      ·cases a0 <;> cases a1 <;> cases a2 <;> cases a3 <;> first | exact skip_gd (unwanted_of rfl 19 true false 153 (by injection ho with h; rw [← h]; rfl) rfl rfl (by simp) (hf ⟨19, .guard⟩ (by injection ho with h; rw [← h]; simp) rfl) (by decide)) (hK _ hC) | exact gd (wanted_of rfl 19 true 153 (by injection ho with h; rw [← h]; rfl) rfl rfl (by simp) (hf ⟨19, .guard⟩ (by injection ho with h; rw [← h]; simp) rfl)) (st_field rfl 27 (.tmp 5) 4 (by injection ho with h; rw [← h]; rfl) (rd_out rfl rfl) (n := 5) (by kernel_rfl) (hK _ hC))
      ·cases a0 <;> cases a1 <;> cases a2 <;> cases a3 <;> first | exact skip_gd (unwanted_of rfl 19 true false 153 (by injection ho with h; rw [← h]; rfl) rfl rfl (by simp) (hf ⟨19, .guard⟩ (by injection ho with h; rw [← h]; simp) rfl) (by decide)) (hK _ hC) | exact gd (wanted_of rfl 19 true 153 (by injection ho with h; rw [← h]; rfl) rfl rfl (by simp) (hf ⟨19, .guard⟩ (by injection ho with h; rw [← h]; simp) rfl)) (st_loadS rfl 3 (.tmp 154) (by injection ho with h; rw [← h]; rfl) (rd_in rfl 20 rfl (by simp) (hf ⟨20, .data⟩ (by injection ho with h; rw [← h]; simp) rfl)) (by kernel_rfl) ((hP10.call hC).cells 5) (hK _ hC))
      ·cases a0 <;> cases a1 <;> cases a2 <;> cases a3 <;> first | exact skip_gd (unwanted_of rfl 19 true false 153 (by injection ho with h; rw [← h]; rfl) rfl rfl (by simp) (hf ⟨19, .guard⟩ (by injection ho with h; rw [← h]; simp) rfl) (by decide)) (hK _ hC) | exact gd (wanted_of rfl 19 true 153 (by injection ho with h; rw [← h]; rfl) rfl rfl (by simp) (hf ⟨19, .guard⟩ (by injection ho with h; rw [← h]; simp) rfl)) (st_bin rfl .lss 3 3 (.tmp 155) (.const (.int .i64 0)) (by injection ho with h; rw [← h]; rfl) (rd_in rfl 21 rfl (by simp) (hf ⟨21, .data⟩ (by injection ho with h; rw [← h]; simp) rfl)) rfl (gu_i _ _ _ _ _ _ _ _) (bin_lssE hc4) (hK _ hC))
      ·cases a0 <;> cases a1 <;> cases a2 <;> cases a3 <;> first | exact st_pickF (by injection ho with h; rw [← h]; rfl) (.tmp 153) (.tmp 156) (.const (.bool false)) (by injection ho with h; rw [← h]; rfl) (rd_in rfl 19 rfl (by simp) (hf ⟨19, .data⟩ (by injection ho with h; rw [← h]; simp) rfl)) rfl (hK _ hC) | exact st_pickT (by injection ho with h; rw [← h]; rfl) (.tmp 153) (.tmp 156) (.const (.bool false)) (by injection ho with h; rw [← h]; rfl) (rd_in rfl 19 rfl (by simp) (hf ⟨19, .data⟩ (by injection ho with h; rw [← h]; simp) rfl)) (rd_in rfl 22 rfl (by simp) (hf ⟨22, .data⟩ (by injection ho with h; rw [← h]; simp) rfl)) (hK _ hC)
     case hend =>
     intro W hC
     exact ⟨rfl, _, rfl, congrArg Value.bool hBd.symm, hC⟩
    case htail =>
     clear hpv hva hme hof hof0
     rw [← hc0, ← hc1, ← hc2, ← hc3, ← hc4] at hBd
     clear hc0 hc1 hc2 hc3 hc4
     intro fv w11 hfv hC11
     simp only [putL, Act.put, List.setIfInBounds_toArray, List.set_cons_succ, List.set_cons_zero]
     rw [hfv]
     have hA11 := hA10.call hC11
     have hP11 := hP10.call hC11
     have hB11 := below_call hB10 hB10.size hC11
     have hAX11 := hAX10.call hC11
     have hx11 := hx.call hB11
     have hxe11 := hxe.call hB11
     clear hA10 hP10 hB10 hAX10 hx10 hC11 hc hlt1 hm10
     go_upto_if 157 with fail
     go_cut [15, 16] from 158 to 175 (fun _ _ wx => Below w11.heap.size w11 wx)
     case first =>
      rcases B with _ | _
      ·go_wp2_with fail
       go_meet
       exact Below.refl _ _
      ·obtain ⟨hl64, hvo, hsq, ⟨k1, k2, kg1, kg2⟩, hN, hlv⟩ := hold_facts hBd.symm hcnt.out hlm hXo.out hXg.out
       have hraw := fun W => refRaw_any f r ca pa ha fu bl p c xs hl64 h8 hvo hsq k1 k2 kg1 kg2 W
       have hlo := look_any f r ca pa ha fu bl p c xs hca (by omega) hcap h8 (some ⟨gx, ox, none⟩) cx X hXb hXl hcx w11 (hg.call hB11) (hm.call hB11 hms) hx11 hAX11
       rw [hlv] at hlo
       dsimp only at hlo
       generalize numN xs bl = N at hN hraw hlo
       obtain ⟨b, o, rfl, hbl, hcc⟩ := hxe11.at hN
       have hci := hcc N hN
       obtain ⟨x, hxv⟩ : ∃ x, x = es[N]?.getD 0 := ⟨_, rfl⟩
       rw [← hxv] at hci hlo
       clear hcc hxv hlv hsq hvo kg1 kg2 hBd
       have hcp := hP11.cells
       have hlp := hP11.lt
       go_wp2_with fail
       refine hlo.mono ?_
       rintro e w12 ⟨rfl, hb12⟩
       have hA12 := hA11.call hb12
       have hP12 := hP11.call hb12
       have hx12 := hx11.call hb12
       replace hci := (hb12.cell (p := ⟨b, o + N, none⟩) hbl).trans hci
       replace hbl := Nat.lt_of_lt_of_le hbl hb12.size
       clear hlo hcp hlp
       go_wp2_with fail
       refine wp_region_valsL (by kernel_rfl) (by kernel_rfl) [some 164, some 165, some 166, some 167, some 168, some 169, some 170, some 171, some 172, some 173, some 174, some 175] (by rfl) (by rfl) (fun i8 => match i8 with | 0 => .int .i64 0 | 1 => .bool false | 2 => .bool false | 3 => .int .i16 x | 4 => .pointer (some ⟨w.heap.size, 0 + 12, none⟩) | 5 => .slice (some ⟨b, o, none⟩) es.length ce | 6 => .agg (posCs f r p xs.length c bl ca pa ha fu).toArray | 7 => .int .i64 ((N : Nat) : Int) | 8 => .pointer (some ⟨b, o + N, none⟩) | 9 => .int .i16 x | 10 => .bool false | 11 => .bool false | _ => undef) (fun W => Below w12.heap.size w12 W) ((Below.refl _ _).drew) ?hstep ?hend
       case hstep =>
        intro i9 o9 f9 W ho hi hC hf K hK
        have hi : i9 < 12 := hi
        rcases (by omega : i9 = 0 ∨ i9 = 1 ∨ i9 = 2 ∨ i9 = 3 ∨ i9 = 4 ∨ i9 = 5 ∨ i9 = 6 ∨ i9 = 7 ∨ i9 = 8 ∨ i9 = 9 ∨ i9 = 10 ∨ i9 = 11) with rfl | rfl | rfl | rfl | rfl | rfl | rfl | rfl | rfl | rfl | rfl | rfl
        ·exact st_move (by injection ho with h; rw [← h]; rfl) (.tmp 16) (by injection ho with h; rw [← h]; rfl) (rd_out rfl rfl) (hK _ hC)
        ·exact st_bin (by injection ho with h; rw [← h]; rfl) .neq 31 31 (.tmp 164) (.const (.int .i64 0)) (by injection ho with h; rw [← h]; rfl) (rd_in rfl 0 rfl (by simp) (hf ⟨0, .data⟩ (by injection ho with h; rw [← h]; simp) rfl)) rfl (gu_i _ _ _ _ _ _ _ _) (bin31_neqE rfl) (hK _ hC)
        ·exact st_move (by injection ho with h; rw [← h]; rfl) (.tmp 165) (by injection ho with h; rw [← h]; rfl) (rd_in rfl 1 rfl (by simp) (hf ⟨1, .data⟩ (by injection ho with h; rw [← h]; simp) rfl)) (hK _ hC)
        ·exact gd (wanted_of rfl 2 false 166 (by injection ho with h; rw [← h]; rfl) rfl rfl (by simp) (hf ⟨2, .guard⟩ (by injection ho with h; rw [← h]; simp) rfl)) (st_move rfl (.tmp 15) (by injection ho with h; rw [← h]; rfl) (rd_out rfl rfl) (hK _ hC))
        ·exact gd (wanted_of rfl 2 false 166 (by injection ho with h; rw [← h]; rfl) rfl rfl (by simp) (hf ⟨2, .guard⟩ (by injection ho with h; rw [← h]; simp) rfl)) (st_field rfl 44 (.tmp 3) 1 (by injection ho with h; rw [← h]; rfl) (rd_out rfl rfl) (n := 12) (by kernel_rfl) (hK _ hC))
        ·exact gd (wanted_of rfl 2 false 166 (by injection ho with h; rw [← h]; rfl) rfl rfl (by simp) (hf ⟨2, .guard⟩ (by injection ho with h; rw [← h]; simp) rfl)) (st_loadS rfl 42 (.tmp 168) (by injection ho with h; rw [← h]; rfl) (rd_in rfl 4 rfl (by simp) (hf ⟨4, .data⟩ (by injection ho with h; rw [← h]; simp) rfl)) (by kernel_rfl) ((hA12.call hC).cells 12) (hK _ hC))
        ·exact gd (wanted_of rfl 2 false 166 (by injection ho with h; rw [← h]; rfl) rfl rfl (by simp) (hf ⟨2, .guard⟩ (by injection ho with h; rw [← h]; simp) rfl)) (st_loadA rfl 27 (.tmp 5) (by injection ho with h; rw [← h]; rfl) (rd_out rfl rfl) (posCs f r p xs.length c bl ca pa ha fu) (by kernel_rfl) (fun j v hv => by rw [Nat.zero_add, (hP12.call hC).cells j]; simpa using hv) (hK _ hC))
        ·exact gd (wanted_of rfl 2 false 166 (by injection ho with h; rw [← h]; rfl) rfl rfl (by simp) (hf ⟨2, .guard⟩ (by injection ho with h; rw [← h]; simp) rfl)) (st_call1 rfl 20 (.tmp 170) #[27] (by injection ho with h; rw [← h]; rfl) (rd_in rfl 6 rfl (by simp) (hf ⟨6, .data⟩ (by injection ho with h; rw [← h]; simp) rfl)) (fun _ _ => rfl) (hraw W (hx12.call hC)) (by rintro u w9 ⟨h9, hb9⟩; injection h9 with h9; subst h9; exact hK _ (below_call hC hC.size hb9)) (by rintro ch w9 h9; revert h9; rintro ⟨h9, _⟩; cases h9) (by rintro w9 h9; revert h9; rintro ⟨h9, _⟩; cases h9))
        ·exact gd (wanted_of rfl 2 false 166 (by injection ho with h; rw [← h]; rfl) rfl rfl (by simp) (hf ⟨2, .guard⟩ (by injection ho with h; rw [← h]; simp) rfl)) (st_index rfl 42 (.tmp 169) (.tmp 171) (by injection ho with h; rw [← h]; rfl) (rd_in rfl 5 rfl (by simp) (hf ⟨5, .data⟩ (by injection ho with h; rw [← h]; simp) rfl)) (rd_in rfl 7 rfl (by simp) (hf ⟨7, .data⟩ (by injection ho with h; rw [← h]; simp) rfl)) (index42 W b o es.length ce N hN) (hK _ hC))
        ·exact gd (wanted_of rfl 2 false 166 (by injection ho with h; rw [← h]; rfl) rfl rfl (by simp) (hf ⟨2, .guard⟩ (by injection ho with h; rw [← h]; simp) rfl)) (st_loadS rfl 30 (.tmp 172) (by injection ho with h; rw [← h]; rfl) (rd_in rfl 8 rfl (by simp) (hf ⟨8, .data⟩ (by injection ho with h; rw [← h]; simp) rfl)) (by kernel_rfl) ((hC.cell (p := ⟨b, o + N, none⟩) hbl).trans hci) (hK _ hC))
        ·exact gd (wanted_of rfl 2 false 166 (by injection ho with h; rw [← h]; rfl) rfl rfl (by simp) (hf ⟨2, .guard⟩ (by injection ho with h; rw [← h]; simp) rfl)) (st_bin rfl .neq 30 30 (.tmp 167) (.tmp 173) (by injection ho with h; rw [← h]; rfl) (rd_in rfl 3 rfl (by simp) (hf ⟨3, .data⟩ (by injection ho with h; rw [← h]; simp) rfl)) (rd_in rfl 9 rfl (by simp) (hf ⟨9, .data⟩ (by injection ho with h; rw [← h]; simp) rfl)) (gu_i _ _ _ _ _ _ _ _) (bin30_neqE (by simp)) (hK _ hC))
        ·exact st_pickF (by injection ho with h; rw [← h]; rfl) (.tmp 166) (.const (.bool true)) (.tmp 174) (by injection ho with h; rw [← h]; rfl) (rd_in rfl 2 rfl (by simp) (hf ⟨2, .data⟩ (by injection ho with h; rw [← h]; simp) rfl)) (rd_in rfl 10 rfl (by simp) (hf ⟨10, .data⟩ (by injection ho with h; rw [← h]; simp) rfl)) (hK _ hC)
       case hend =>
       intro W hC
       simp only [putL, Act.put, List.setIfInBounds_toArray, List.set_cons_succ, List.set_cons_zero]
       go_wp2_with fail
       go_meet
       exact below_call hb12 hb12.size hC
     case rest =>
      have hB12 := below_call hB11 hB11.size hcut
      have hm12 := hm.call hB12 hms
      have hxb12 := hb.call hB12
      have hlb2 : bs.length ≤ 10000 := by omega
      have hun := Unpack_any pb cb bs wc hxb12 hbs (by omega) hcb hm12
      clear hA11 hP11 hB11 hAX11 hx11 hxe11 hBd hcut
      go_wp2_with fail
      refine hun.mono ?_
      rintro e w13 ⟨hb13, ⟨hn, rfl⟩ | ⟨m2, es2, pu2, cu2, hE, hcu2, rfl, hown2⟩⟩
      ·have hB13 := below_call hB12 hB12.size hb13
       have hT := HasO.new w13 (.cells (tabCs zeroMen none 0 0).toArray 44)
       obtain ⟨w14, hw14⟩ : ∃ x, x = (w13.alloc (.cells (tabCs zeroMen none 0 0).toArray 44)).setRow w13.heap.size (tabCs zeroMen none 0 0).toArray := ⟨_, rfl⟩
       have hb14 : Below w13.heap.size w13 w14 := by rw [hw14]; exact setRow_below (below_box _ _) (Nat.le_refl _) (by simp)
       have hB14 := below_call hB13 hB13.size hb14
       have hkn := known_any w14 (hm.call hB14 hms)
       have hone : Hid ((tabCs zeroMen none 0 0).toArray.all (·.oneCell') = true) := Lib.hid (by kernel_rfl)
       have hi44 : Hid ((Tryz.prog.info? 44).map (·.size) = some (tabCs zeroMen none 0 0).toArray.size) := Lib.hid (by kernel_rfl)
       replace hw14 := Lib.hid hw14
       clear hun hb13 hb14
       go_wp2_with (first | (refine wpList_storeTo hw14 rfl 44 (.tmp 17) (.tmp 179) rfl rfl rfl 44 _ hT hi44.out rfl hone.out ?_) | fail)
       refine hkn.mono ?_
       rintro e w15 ⟨rfl, hb15⟩
       go_wp2_with fail
       go_ret
       exact ⟨rfl, below_call hB14 hB14.size hb15⟩
      ·obtain ⟨hok2, hpk2⟩ := tabB_some hE
       obtain ⟨_, _, _, hlm2, _⟩ := tabOk_facts hok2
       obtain ⟨pu3, cu3, eu, _, hAu⟩ := own_arr hown2
       injection eu with eu1 eu2 eu3
       subst eu1; subst eu3
       clear eu2 hown2 hE
       have hB13 := below_call hB12 hB12.size hb13
       have hT := HasO.new w13 (.cells (tabCs zeroMen none 0 0).toArray 44)
       obtain ⟨w14, hw14⟩ : ∃ x, x = (w13.alloc (.cells (tabCs zeroMen none 0 0).toArray 44)).setRow w13.heap.size (tabCs m2 pu2 es2.length cu2).toArray := ⟨_, rfl⟩
       have hb14 : Below w13.heap.size w13 w14 := by rw [hw14]; exact setRow_below (below_box _ _) (Nat.le_refl _) (by simp)
       have hU14 : HasO w14 w13.heap.size (.cells (tabCs m2 pu2 es2.length cu2).toArray 44 (0, 0)) := by rw [hw14]; exact setRow_hasO hT
       have hB14 := below_call hB13 hB13.size hb14
       have hxb14 := (hxb12.call hb13).call hb14
       have hpk := Pack_any m2 pu2 cu2 es2 w14 (hAu.call hb14) (by omega) hcu2
       rw [hok2, show okErr true = 0 from rfl] at hpk
       have hcu := hU14.cells
       have hlu := hU14.lt
       have hone : Hid ((tabCs m2 pu2 es2.length cu2).toArray.all (·.oneCell') = true) := Lib.hid (by first | kernel_rfl | simp [Value.oneCell'])
       have hi44 : Hid ((Tryz.prog.info? 44).map (·.size) = some (tabCs m2 pu2 es2.length cu2).toArray.size) := Lib.hid (by kernel_rfl)
       replace hw14 := Lib.hid hw14
       replace hok2 := Lib.hid hok2
       replace hpk2 := Lib.hid hpk2
       clear hun hb13 hb14 hAu
       go_wp2_with (first | (refine wpList_storeTo hw14 rfl 44 (.tmp 17) (.tmp 179) rfl rfl rfl 44 _ hT hi44.out rfl hone.out ?_) | fail)
       refine hpk.mono ?_
       rintro e w15 ⟨⟨v, rfl, hown3, _⟩, hb15⟩
       have hown3 := hown3 hok2.out
       rw [hpk2.out] at hown3
       obtain ⟨p3, c3, rfl, _, hA3⟩ := own_arr hown3
       have hcv1 := conv_arr (c := c3) bs hA3 rfl
       have hcv2 := conv_arr (c := cb) bs (hxb14.call hb15) rfl
       have hne : ∀ W : World, (binOp .neq 9 (.string (str (toU bs))) (.string (str (toU bs)))).run Tryz.prog W = .ok (.bool false) W := fun W => by rw [neS2]; simp
       have hB15 := below_call hB14 hB14.size hb15
       have hkn := known_any w15 (hm.call hB15 hms)
       clear hown3 hpk hw14 hT hone hi44 hcu hlu
       go_wp2_with fail
       refine hkn.mono ?_
       rintro e w16 ⟨rfl, hb16⟩
       go_wp2_with fail
       go_ret
       exact ⟨rfl, below_call hB15 hB15.size hb16⟩
end Go.Proofs.YtddkhnnpeonbgaaGreatDoor
