import Derived.Test.YtefmplccbkmalaaGreatDoorC08
set_option maxHeartbeats 12800000
namespace Go.Proofs.YtefmplccbkmalaaGreatDoor
open Go.RowKit

def btwL (L : List Int) (b : Int) : List Int := if elI L b then L.takeWhile (fun x => !(x == b)) else []
theorem takeWhile_at : ∀ (L : List Int) (b : Int) (i : Nat), elI (L.take i) b = false → (h : i < L.length) → L[i] = b → L.takeWhile (fun x => !(x == b)) = L.take i := by
 intro L
 induction L with
 | nil => intro b i _ h; simp at h
 | cons y L ih =>
  intro b i h1 h2 h3
  cases i with
  | zero =>
   simp at h3
   simp [h3]
  | succ i =>
   simp only [List.take_succ_cons, elI, List.any_cons, Bool.or_eq_false_iff] at h1
   simp only [List.getElem_cons_succ] at h3
   have := ih b i h1.2 (by simpa using h2) h3
   rw [List.takeWhile_cons, h1.1]
   simp [this]
theorem btwL_at {L : List Int} {b : Int} {i : Nat} (h1 : elI (L.take i) b = false) (h2 : i < L.length) (h3 : L[i] = b) : btwL L b = L.take i := by
 have h4 : elI L b = true := by unfold elI; rw [List.any_eq_true]; exact ⟨L[i], List.getElem_mem h2, by simp [h3]⟩
 unfold btwL
 rw [if_pos h4]
 exact takeWhile_at L b i h1 h2 h3
theorem btwL_none {L : List Int} {b : Int} (h : elI L b = false) : btwL L b = [] := by
 unfold btwL; rw [h]; rfl
theorem btwL_len (L : List Int) (b : Int) : (btwL L b).length ≤ L.length := by
 unfold btwL
 split
 ·exact (List.takeWhile_sublist _).length_le
 ·simp
theorem arr_take {k : IntKind} {W : World} {g o : Nat} {xs : List Int} (i : Nat) (hl : g < W.heap.size) (h : ∀ j, j < xs.length → W.cell? ⟨g, o + j, none⟩ = some (.int k (xs[j]?.getD 0))) : Arr k W (some ⟨g, o, none⟩) (xs.take i) := by
 refine .inr ⟨g, o, rfl, hl, fun j hj => ?_⟩
 rw [List.length_take] at hj
 rw [h j (by omega), List.getElem?_take_of_lt (by omega)]
theorem sgn_bd (x : Int) : -1 ≤ sgnI x ∧ sgnI x ≤ 1 := by unfold sgnI; split <;> (try split) <;> omega
theorem sgn_zero (x : Int) : sgnI x = 0 ↔ x = 0 := by unfold sgnI; split <;> (try split) <;> omega
theorem line_ne {F a b : Nat} (h : lineB a b (dF F a b) (dR F a b) = true) : ¬ (sgnI (dF F a b) = 0 ∧ sgnI (dR F a b) = 0) := by
 rintro ⟨h1, h2⟩
 rw [sgn_zero] at h1 h2
 unfold lineB at h
 have : a = b := by
  unfold dF at h1
  unfold dR at h2
  have e1 : a % F = b % F := by omega
  have e2 : a / F = b / F := by omega
  have := Nat.div_add_mod a F
  have h5 := Nat.div_add_mod b F
  rw [e1, e2] at this
  omega
 simp [this] at h
def SlcR (w : World) (k : IntKind) (xs : List Int) (e : Ending) (w' : World) : Prop :=
 (∃ p c, e = .returned (.slice p xs.length c) ∧ Arr k w' p xs) ∧ Below w.heap.size w w'
set_option maxRecDepth 100000 in
theorem refBetween_any (F R a b : Nat) (hF : 3 ≤ F ∧ F ≤ 8) (hR : 3 ≤ R ∧ R ≤ 8) (ha : a < F * R) (hb : b < F * R) (hln : lineB a b (dF F a b) (dR F a b) = true) (w : World) :
  Calls Tryz.prog 195 #[.agg #[.int .i64 F, .int .i64 R], .int .i64 a, .int .i64 b] w (SlcR w .i64 (btwL (rayL F R a (sgnI (dF F a b)) (sgnI (dR F a b)) 8 1) b)) := by
 have hA := HasO.new w (.cells [.int .i64 (F : Int), .int .i64 (R : Int)].toArray 23)
 have hB := below_box w (.cells [.int .i64 (F : Int), .int .i64 (R : Int)].toArray 23)
 obtain ⟨ha64, ha0, ha1⟩ := sq_bd hF hR ha
 obtain ⟨hb64, hb0, hb1⟩ := sq_bd hF hR hb
 have hray := fun W => refRay_any F R a (sgnI (dF F a b)) (sgnI (dR F a b)) hF hR ha (sgn_bd _) (sgn_bd _) (line_ne hln) W
 have hlin := fun W => refLine_any F R a b hF ha64 hb64 W
 have e1 : lineX a b (dF F a b) (dR F a b) (sgnI (dF F a b)) = sgnI (dF F a b) := by unfold lineX; rw [hln]; rfl
 have e2 : lineX a b (dF F a b) (dR F a b) (sgnI (dR F a b)) = sgnI (dR F a b) := by unfold lineX; rw [hln]; rfl
 rw [e1, e2, hln] at hlin
 have hLl := rayL_len F R a (sgnI (dF F a b)) (sgnI (dR F a b)) 8 1
 generalize rayL F R a (sgnI (dF F a b)) (sgnI (dR F a b)) 8 1 = L at hray hLl ⊢
 generalize sgnI (dF F a b) = sf, sgnI (dR F a b) = sr at hray hlin
 clear e1 e2
 go_enter Tryz.func195, Tryz.ntmps195
 go_wp2_with fail
 refine (hlin _).mono ?_
 rintro e w2 ⟨rfl, hb2⟩
 have hA2 := hA.call hb2
 have hB2 := below_call hB hB.size hb2
 have hc2 := hA2.cells
 have hl2 := hA2.lt
 clear hA hB hb2
 go_wp2_with fail
 refine (hray _).mono ?_
 rintro e w3 ⟨⟨v, rfl, hown⟩, hb3⟩
 have hB3 := below_call hB2 hB2.size hb3
 obtain ⟨p, c, rfl, hLc, hArr⟩ := own_arr hown
 clear hA2 hB2 hb3 hc2 hl2 hown hray hlin
 go_wp2_with fail
 go_loopg [11] 20 (fun q iv wr => ∃ i : Nat, q + i = 20 ∧ i ≤ L.length ∧ iv = .int .i64 i ∧ Below w3.heap.size w3 wr ∧ elI (L.take i) b = false)
 case atStart => exact ⟨0, rfl, Nat.zero_le _, rfl, Below.refl _ _, rfl⟩
 case round =>
  obtain ⟨i, hq, hi, rfl, hbr, hel⟩ := hrel
  have hBr := below_call hB3 hB3.size hbr
  replace hel := Lib.hid hel
  by_cases hlt : i < L.length
  ·have hii : (i : Int) < L.length := by omega
   obtain ⟨g, o, rfl, hgl, hcc⟩ := (hArr.call hbr).at hlt
   have hci := hcc i hlt
   have hget : L[i]?.getD 0 = L[i] := by simp [hlt]
   obtain ⟨y, hy⟩ : ∃ y, y = L[i]?.getD 0 := ⟨_, rfl⟩
   rw [← hy] at hci hget
   replace hget := Lib.hid hget
   replace hcc := Lib.hid hcc
   clear hy
   by_cases hyb : y = b
   ·have e0 : Hid (btwL L b = L.take i) := Lib.hid (btwL_at hel.out hlt (by rw [← hget.out]; exact hyb))
    have hyb2 : (y == (b : Int)) = true := by simp [hyb]
    have hic : (i : Int) ≤ c := by omega
    replace hyb := Lib.hid hyb
    go_wp2_with fail
    go_ret
    refine ⟨⟨some ⟨g, o, none⟩, c, ?_, ?_⟩, hBr⟩
    ·rw [e0.out, List.length_take, Nat.min_eq_left (by omega)]; rfl
    ·rw [e0.out]; exact arr_take i hgl hcc.out
   ·have hyb2 : (y == (b : Int)) = false := by simp [hyb]
    go_wp2_with fail
    go_roundg (gk - 1)
    case measure => omega
    case rel => exact ⟨i + 1, by omega, by omega, by go_num, hbr, by have ha := hel.out; unfold elI at ha ⊢; rw [List.take_succ_eq_append_getElem hlt, List.any_append, ha]; simp [← hget.out]; exact hyb⟩
  ·have hii : ¬ (i : Int) < L.length := by omega
   have e0 : Hid (btwL L b = []) := Lib.hid (btwL_none (by have ha := hel.out; rwa [List.take_of_length_le (by omega)] at ha))
   go_wp2_with fail
   go_ret
   refine ⟨⟨none, 0, ?_, ?_⟩, hBr⟩
   ·rw [e0.out]; rfl
   ·rw [e0.out]; exact .inl rfl
def btwS (F R a b : Nat) : List Int := btwL (rayL F R a (sgnI (dF F a b)) (sgnI (dR F a b)) 8 1) b
def strB (df dr : Int) : Bool := decide (df = 0) || decide (dr = 0)
def reachB (F R : Nat) (k : Int) (a b oc : Nat) : Bool :=
 if k = 2 then dF F a b * dF F a b + dR F a b * dR F a b == 5 else if k = 6 then distI F a b == 1 else
  (lineB a b (dF F a b) (dR F a b) && (k == 5 || (strB (dF F a b) (dR F a b) == (k == 4)))) && freeL (btwS F R a b) oc
theorem bd_sq {x : Int} (h : -100 < x ∧ x < 100) : 0 ≤ x * x ∧ x * x < 10000 := by
 have h1 : (x * x).natAbs = x.natAbs * x.natAbs := Int.natAbs_mul x x
 have h2 : x.natAbs * x.natAbs ≤ 99 * 99 := Nat.mul_le_mul (by omega) (by omega)
 have h3 : 0 ≤ x * x := by rcases Int.le_total 0 x with h | h; exact Int.mul_nonneg h h; exact Int.mul_nonneg_of_nonpos_of_nonpos h h
 omega
theorem dF_bd {F a b : Nat} (hF : 3 ≤ F ∧ F ≤ 8) : -100 < dF F a b ∧ dF F a b < 100 := by
 have h1 := Nat.mod_lt a (show 0 < F by omega)
 have h2 := Nat.mod_lt b (show 0 < F by omega)
 unfold dF; omega
theorem dR_bd {F R a b : Nat} (hR : 3 ≤ R ∧ R ≤ 8) (ha : a / F < R) (hb : b / F < R) : -100 < dR F a b ∧ dR F a b < 100 := by
 unfold dR
 generalize a / F = x, b / F = y at *
 omega
set_option maxRecDepth 100000 in
theorem refReaches_any (F R : Nat) (k : Int) (a b oc : Nat) (hF : 3 ≤ F ∧ F ≤ 8) (hR : 3 ≤ R ∧ R ≤ 8) (ha : a < F * R) (hb : b < F * R) (w : World) :
  Calls Tryz.prog 165 #[.agg #[.int .i64 F, .int .i64 R], .int .i8 k, .int .i64 a, .int .i64 b, .int .u64 (oc : Nat)] w fun e w' => e = .returned (.bool (reachB F R k a b oc)) ∧ Below w.heap.size w w' := by
 have hA := HasO.new w (.cells [.int .i64 (F : Int), .int .i64 (R : Int)].toArray 23)
 have hB := below_box w (.cells [.int .i64 (F : Int), .int .i64 (R : Int)].toArray 23)
 obtain ⟨ha64, ha0, ha1⟩ := sq_bd hF hR ha
 obtain ⟨hb64, hb0, hb1⟩ := sq_bd hF hR hb
 have hdist := fun W => refDist_any F R a b hF ha64 hb64 W
 have hlin := fun W => refLine_any F R a b hF ha64 hb64 W
 have hbtw := fun h W => refBetween_any F R a b hF hR ha hb h W
 have hbl : (btwL (rayL F R a (sgnI (dF F a b)) (sgnI (dR F a b)) 8 1) b).length ≤ 8 := Nat.le_trans (btwL_len _ _) (rayL_len _ _ _ _ _ _ _)
 obtain ⟨V, hV⟩ : ∃ V, V = reachB F R k a b oc := ⟨_, rfl⟩
 have hVV : V = if k = 2 then dF F a b * dF F a b + dR F a b * dR F a b == 5 else if k = 6 then distI F a b == 1 else
  (lineB a b (dF F a b) (dR F a b) && (k == 5 || (strB (dF F a b) (dR F a b) == (k == 4)))) && freeL (btwL (rayL F R a (sgnI (dF F a b)) (sgnI (dR F a b)) 8 1) b) oc := hV
 rw [← hV]
 clear hV
 have hdb := dF_bd (a := a) (b := b) hF
 have hrb := dR_bd (a := a) (b := b) hR ha1 hb1
 have hdf : dF F a b = ((b % F : Nat) : Int) - ((a % F : Nat) : Int) := rfl
 have hdr : dR F a b = ((b / F : Nat) : Int) - ((a / F : Nat) : Int) := rfl
 generalize btwL (rayL F R a (sgnI (dF F a b)) (sgnI (dR F a b)) 8 1) b = B at hbtw hVV hbl
 generalize distI F a b = D at hdist hVV
 generalize dF F a b = df, dR F a b = dr at hlin hbtw hVV hdb hrb hdf hdr
 replace hVV := Lib.hid hVV
 go_enter Tryz.func165, Tryz.ntmps165
 go_wp2_with fail
 show Code.wp _ _ _ _ (w.alloc (.cells [.int .i64 (F : Int), .int .i64 (R : Int)].toArray 23))
 obtain ⟨w1, hw1⟩ : ∃ x, x = w.alloc (.cells [.int .i64 (F : Int), .int .i64 (R : Int)].toArray 23) := ⟨_, rfl⟩
 rw [← hw1] at hA hB ⊢
 clear hw1
 refine wp_region_relL (by kernel_rfl) (by kernel_rfl) [some 19, some 20, some 21, some 22, some 23, some 24, some 11, some 12, none, none] (by rfl) (by rfl) (twoR w1 [.int .i64 (F : Int), .int .i64 (R : Int)].toArray a b #[.int .i64 (a % F : Nat), .int .i64 (a / F : Nat)] #[.int .i64 (b % F : Nat), .int .i64 (b / F : Nat)]) (fun S S9 f9 W h hR => twoR_congr S S9 f9 W h hR) (fun f9 => twoR_init f9) ?hstep ?hend
 case hstep =>
  intro S i9 o9 f9 W ho hi hSj hpre hcl hR K hK
  have hi : i9 < 10 := hi
  have hR0 := hR
  obtain ⟨hC, h0, h1, h2, h3, h4, h5, h6, h7, h8⟩ := hR0
  have hsz := hA.call hC
  rcases i9 with _ | _ | _ | _ | _ | _ | _ | _ | _ | _ | i9
  ·exact st_loadA (og ho) 23 (.tmp 5) (oo ho) (rd_out rfl rfl) [.int .i64 (F : Int), .int .i64 (R : Int)] (by kernel_rfl) (fun j v hv => by rw [Nat.zero_add, hsz.cells j]; simpa using hv) (hK _ _ (twoR_val hR 0 _ (Below.refl _ _) (by decide) (by refine ⟨?_, ?_, ?_, ?_, ?_, ?_⟩ <;> intro h <;> first | rfl | (cases h))))
  ·exact st_move (og ho) (.tmp 2) (oo ho) (rd_out rfl rfl) (hK _ _ (twoR_val hR 1 _ (Below.refl _ _) (by decide) (by refine ⟨?_, ?_, ?_, ?_, ?_, ?_⟩ <;> intro h <;> first | rfl | (cases h))))
  ·exact st_call2 (og ho) 40 (.tmp 19) (.tmp 20) #[23, 3] (oo ho) (ri 0 (h0 (da ho hpre 0))) (ri 1 (h1 (da ho hpre 1))) (fun _ _ => rfl) (refPlace_any F R a hF (by omega) W) (by rintro u w9 ⟨h9, hb9⟩; injection h9 with h9; subst h9; exact hK _ _ (twoR_val hR 2 _ hb9 (by decide) (by refine ⟨?_, ?_, ?_, ?_, ?_, ?_⟩ <;> intro h <;> first | rfl | (cases h)))) (by rintro ch w9 ⟨h9, _⟩; cases h9) (by rintro w9 ⟨h9, _⟩; cases h9)
  ·exact st_loadA (og ho) 23 (.tmp 5) (oo ho) (rd_out rfl rfl) [.int .i64 (F : Int), .int .i64 (R : Int)] (by kernel_rfl) (fun j v hv => by rw [Nat.zero_add, hsz.cells j]; simpa using hv) (hK _ _ (twoR_val hR 3 _ (Below.refl _ _) (by decide) (by refine ⟨?_, ?_, ?_, ?_, ?_, ?_⟩ <;> intro h <;> first | rfl | (cases h))))
  ·exact st_move (og ho) (.tmp 3) (oo ho) (rd_out rfl rfl) (hK _ _ (twoR_val hR 4 _ (Below.refl _ _) (by decide) (by refine ⟨?_, ?_, ?_, ?_, ?_, ?_⟩ <;> intro h <;> first | rfl | (cases h))))
  ·exact st_call2 (og ho) 40 (.tmp 22) (.tmp 23) #[23, 3] (oo ho) (ri 3 (h3 (da ho hpre 3))) (ri 4 (h4 (da ho hpre 4))) (fun _ _ => rfl) (refPlace_any F R b hF (by omega) W) (by rintro u w9 ⟨h9, hb9⟩; injection h9 with h9; subst h9; exact hK _ _ (twoR_val hR 5 _ hb9 (by decide) (by refine ⟨?_, ?_, ?_, ?_, ?_, ?_⟩ <;> intro h <;> first | rfl | (cases h)))) (by rintro ch w9 ⟨h9, _⟩; cases h9) (by rintro w9 ⟨h9, _⟩; cases h9)
  ·have hS8 : S 8 = false := by
    rcases h : S 8 with _ | _
    ·rfl
    ·have := hcl 8 _ h rfl ⟨6, .data⟩ (by simp) rfl
     rw [hSj] at this; cases this
   exact st_alloc (og ho) 85 (oo ho) (alloc99 W) (hK _ _ (twoR_new hR 6 (.inl rfl) hS8))
  ·have hS9 : S 9 = false := by
    rcases h : S 9 with _ | _
    ·rfl
    ·have := hcl 9 _ h rfl ⟨7, .data⟩ (by simp) rfl
     rw [hSj] at this; cases this
   exact st_alloc (og ho) 85 (oo ho) (alloc99 W) (hK _ _ (twoR_new hR 7 (.inr rfl) hS9))
  ·have hSi := (da ho hpre 6)
   obtain ⟨q, e1, e2, old, e3, e4, e5⟩ := h6 hSi
   exact st_storeO (og ho) 85 (.tmp 11) (.tmp 21) (oo ho) (ri 6 e1) _ old 85 (ri 2 (h2 (da ho hpre 2))) e3 (by kernel_rfl) e4 (by simp [Value.oneCell']) (hK _ _ (twoR_set1 hR hSi rfl _ e1))
  ·have hSi := (da ho hpre 7)
   obtain ⟨q, e1, e2, old, e3, e4, e5⟩ := h7 hSi
   exact st_storeO (og ho) 85 (.tmp 12) (.tmp 24) (oo ho) (ri 7 e1) _ old 85 (ri 5 (h5 (da ho hpre 5))) e3 (by kernel_rfl) e4 (by simp [Value.oneCell']) (hK _ _ (twoR_set2 hR hSi rfl _ e1))
  ·omega
 case hend =>
  intro S f9 W hS hR
  obtain ⟨hC, _, _, _, _, _, _, h6, h7, h8⟩ := hR
  obtain ⟨q1, e1, l1, o1, hO1, _, z1⟩ := h6 (hS 6 (by decide))
  obtain ⟨q2, e2, l2, o2, hO2, _, z2⟩ := h7 (hS 7 (by decide))
  replace z1 := z1 (hS 8 (by decide))
  replace z2 := z2 (hS 9 (by decide))
  subst z1 z2
  clear h6 h7 h8
  simp only [putL, Act.put, List.setIfInBounds_toArray, List.set_cons_succ, List.set_cons_zero]
  rw [e1, e2]
  clear e1 e2 hS
  generalize f9 0 = u0, f9 1 = u1, f9 2 = u2, f9 3 = u3, f9 4 = u4, f9 5 = u5, f9 8 = u8, f9 9 = u9
  have hBW := below_call hB hB.size hC
  have hAW := hA.call hC
  generalize a % F = a0, a / F = a1, b % F = b0, b / F = b1' at *
  clear hA
  have hwf : IntKind.i64.wrap ((b0 : Int) - (a0 : Int)) = df := by rw [← hdf]; exact IntWalk.i64_in _ (by omega)
  have hwr : IntKind.i64.wrap ((b1' : Int) - (a1 : Int)) = dr := by rw [← hdr]; exact IntWalk.i64_in _ (by omega)
  replace hdf := Lib.hid hdf
  replace hdr := Lib.hid hdr
  go_wp2_with fail
  refine wp_region_valsL (by kernel_rfl) (by kernel_rfl) [some 25, some 26, some 27, some 28, some 29, some 30, some 31, some 32, some 33, some 34, some 13, some 14] (by rfl) (by rfl) (fun i => match i with | 0 => .pointer (some ⟨q2, 0, none⟩) | 1 => .int .i64 ((b0 : Nat) : Int) | 2 => .pointer (some ⟨q1, 0, none⟩) | 3 => .int .i64 ((a0 : Nat) : Int) | 4 => .int .i64 df | 5 => .pointer (some ⟨q2, 1, none⟩) | 6 => .int .i64 ((b1' : Nat) : Int) | 7 => .pointer (some ⟨q1, 1, none⟩) | 8 => .int .i64 ((a1 : Nat) : Int) | 9 => .int .i64 dr | 10 => .int .i64 df | 11 => .int .i64 dr | _ => undef) (fun W2 => Below W.heap.size W W2) (Below.refl _ _).drew ?hstep ?hend
  case hstep =>
   intro i9 o9 f9 W2 ho hi hC hf K hK
   have hi : i9 < 12 := hi
   rcases i9 with _ | _ | _ | _ | _ | _ | _ | _ | _ | _ | _ | _ | i9
   ·exact st_field (og ho) 85 (.tmp 12) 0 (oo ho) (rd_out rfl rfl) (n := 0) (by kernel_rfl) (hK _ hC)
   ·exact st_loadS (og ho) 3 (.tmp 25) (oo ho) (ri 0 (da ho hf 0)) (by kernel_rfl) (((hO2.call hC).cells 0)) (hK _ hC)
   ·exact st_field (og ho) 85 (.tmp 11) 0 (oo ho) (rd_out rfl rfl) (n := 0) (by kernel_rfl) (hK _ hC)
   ·exact st_loadS (og ho) 3 (.tmp 27) (oo ho) (ri 2 (da ho hf 2)) (by kernel_rfl) (((hO1.call hC).cells 0)) (hK _ hC)
   ·exact st_bin (og ho) .sub 3 3 (.tmp 26) (.tmp 28) (oo ho) (ri 1 (da ho hf 1)) (ri 3 (da ho hf 3)) (gu_i _ _ _ _ _ _ _ _) (bin_subE hwf) (hK _ hC)
   ·exact st_field (og ho) 85 (.tmp 12) 1 (oo ho) (rd_out rfl rfl) (n := 1) (by kernel_rfl) (hK _ hC)
   ·exact st_loadS (og ho) 3 (.tmp 30) (oo ho) (ri 5 (da ho hf 5)) (by kernel_rfl) (((hO2.call hC).cells 1)) (hK _ hC)
   ·exact st_field (og ho) 85 (.tmp 11) 1 (oo ho) (rd_out rfl rfl) (n := 1) (by kernel_rfl) (hK _ hC)
   ·exact st_loadS (og ho) 3 (.tmp 32) (oo ho) (ri 7 (da ho hf 7)) (by kernel_rfl) (((hO1.call hC).cells 1)) (hK _ hC)
   ·exact st_bin (og ho) .sub 3 3 (.tmp 31) (.tmp 33) (oo ho) (ri 6 (da ho hf 6)) (ri 8 (da ho hf 8)) (gu_i _ _ _ _ _ _ _ _) (bin_subE hwr) (hK _ hC)
   ·exact st_assign (og ho) (.tmp 29) (oo ho) (ri 4 (da ho hf 4)) (hK _ hC)
   ·exact st_assign (og ho) (.tmp 34) (oo ho) (ri 9 (da ho hf 9)) (hK _ hC)
   ·omega
  case hend =>
   intro W2 hC2
   have hBW2 := below_call hBW hBW.size hC2
   have hAW2 := hAW.call hC2
   have hcA := hAW2.cells
   have hlA := hAW2.lt
   simp only [putL, Act.put, List.setIfInBounds_toArray, List.set_cons_succ, List.set_cons_zero]
   clear hO1 hO2 hwf hwr hC hC2 hAW
   have g1 := bd_sq hdb
   have g2 := bd_sq hrb
   have e1 : wrap64 (df * df) = df * df := IntWalk.wrap64_in _ (by omega)
   have e2 : wrap64 (dr * dr) = dr * dr := IntWalk.wrap64_in _ (by omega)
   have e3 : wrap64 (df * df + dr * dr) = df * df + dr * dr := IntWalk.wrap64_in _ (by omega)
   by_cases k2 : k = 2
   ·have e0 : Hid (V = (df * df + dr * dr == 5)) := Lib.hid (by rw [hVV.out, if_pos k2])
    have c1 : (k == 2) = true := by simp [k2]
    replace k2 := Lib.hid k2
    go_wp2_with fail
    go_ret
    exact ⟨by rw [e0.out]; rfl, hBW2⟩
   by_cases k6 : k = 6
   ·have e0 : Hid (V = (D == 1)) := Lib.hid (by rw [hVV.out, if_neg k2, if_pos k6])
    have c1 : (k == 2) = false := by simp [k2]
    have c2 : (k == 6) = true := by simp [k6]
    replace k6 := Lib.hid k6
    replace k2 := Lib.hid k2
    go_wp2_with fail
    refine (hdist _).mono ?_
    rintro e w3 ⟨rfl, hb3⟩
    go_wp2_with fail
    go_ret
    exact ⟨by rw [e0.out]; rfl, below_call hBW2 hBW2.size hb3⟩
   have c1 : (k == 2) = false := by simp [k2]
   have c2 : (k == 6) = false := by simp [k6]
   replace hVV : Hid (V = ((lineB a b df dr && (k == 5 || (strB df dr == (k == 4)))) && freeL B oc)) := Lib.hid (by rw [hVV.out, if_neg k2, if_neg k6])
   replace k2 := Lib.hid k2
   replace k6 := Lib.hid k6
   clear g1 g2 e1 e2 e3
   go_wp2_with fail
   refine (hlin _).mono ?_
   rintro e w3 ⟨rfl, hb3⟩
   have hBW3 := below_call hBW2 hBW2.size hb3
   have hA3 := hAW2.call hb3
   have hcA3 := hA3.cells
   have hlA3 := hA3.lt
   clear hb3 hBW2 hAW2 hcA hlA hlin hdist
   have hst : ((df == 0) = true ∧ strB df dr = true) ∨ ((df == 0) = false ∧ (dr == 0) = true ∧ strB df dr = true) ∨ ((df == 0) = false ∧ (dr == 0) = false ∧ strB df dr = false) := by
    by_cases h1 : df = 0
    ·left; simp [strB, h1]
    ·by_cases h2 : dr = 0
     ·right; left; simp [strB, h1, h2]
     ·right; right; simp [strB, h1, h2]
   rcases hl : lineB a b df dr with _ | _
   ·have e0 : Hid (V = false) := Lib.hid (by rw [hVV.out, hl]; rfl)
    replace hVV := Lib.hid hVV
    rcases hst with ⟨d1, d2⟩ | ⟨d1, d3, d2⟩ | ⟨d1, d3, d2⟩
    all_goals
     go_wp2_with fail
     go_ret
     exact ⟨by rw [e0.out]; rfl, hBW3⟩
   ·have hkk : ((k == 5) = true) ∨ ((k == 5) = false ∧ (k == 4) = true) ∨ ((k == 5) = false ∧ (k == 4) = false) := by
     rcases h1 : (k == 5) with _ | _
     ·right
      rcases h2 : (k == 4) with _ | _
      ·right; exact ⟨rfl, rfl⟩
      ·left; exact ⟨rfl, rfl⟩
     ·left; rfl
    have hbtw' := hbtw hl w3
    clear hbtw
    obtain ⟨M, hM⟩ : ∃ M, M = (k == 5 || (strB df dr == (k == 4))) := ⟨_, rfl⟩
    have e0 : Hid (V = (M && freeL B oc)) := Lib.hid (by rw [hVV.out, hl, hM]; rfl)
    rcases hst with ⟨d1, d2⟩ | ⟨d1, d3, d2⟩ | ⟨d1, d3, d2⟩
    all_goals
     rcases hkk with f1 | ⟨f1, f2⟩ | ⟨f1, f2⟩
     all_goals
      (try rw [f1] at hM)
      (try rw [f2] at hM)
      (try rw [d2] at hM)
      replace hM := Lib.hid hM
      go_wp2_with fail
      first
       | (refine hbtw'.mono ?_
          rintro e w4 ⟨⟨p, c, rfl, hArr⟩, hb4⟩
          have hBW4 := below_call hBW3 hBW3.size hb4
          clear hb4 hBW3 hA3 hcA3 hlA3
          go_wp2_with fail
          refine (refFree_any p c B oc w4 hArr (by omega)).mono ?_
          rintro e w5 ⟨rfl, hb5⟩
          go_wp2_with fail
          go_ret
          exact ⟨by rw [e0.out, hM.out]; rfl, below_call hBW4 hBW4.size hb5⟩)
       | (go_ret
          exact ⟨by rw [e0.out, hM.out]; rfl, hBW3⟩)
end Go.Proofs.YtefmplccbkmalaaGreatDoor
