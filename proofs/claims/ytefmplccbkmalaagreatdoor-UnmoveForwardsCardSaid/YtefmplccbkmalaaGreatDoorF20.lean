import Derived.Test.YtefmplccbkmalaaGreatDoorF19
set_option maxHeartbeats 12800000
namespace Go.Proofs.YtefmplccbkmalaaGreatDoor
open Go.RowKit

theorem wpList_loadG {P : Program} {ops : Array Oper} {rest : List Oper} {o : Oper} {a : Act} {w : World} {Q : Exit → Act → World → Prop} (hgd : o.guard = none) (ty : TypeId) (x : Operand) (ho : o.op = .load ty x)
  {p : Addr} {v : Value} (hx : a.eval x = .pointer (some p)) (hr : (loadVar ty p).run P w = .ok v w)
  (h : wpList P ops Q rest (a.put o.dst v) w) : wpList P ops Q (o :: rest) a w :=
 wpList_plain hgd fun _ hK => by
  unfold Oper.wp execOp
  simp only [ho, hx, Instr.loadAt, Instr.sureAddr, Sem.run_bind, Sem.run_pure, Result.andThen_ok, hr]
  exact hK _ _ h
theorem orK_lt (f : Cas → Bool) (k : Nat) : orK f k < 256 := by
 induction k with
 | zero => exact (by decide : 0 < 256)
 | succ k ih =>
  unfold orK
  split
  ·rename_i c hc
   have h16 : c.bit < 256 := by
    have hm := List.mem_of_getElem? hc
    unfold casL at hm
    simp only [List.mem_cons, List.not_mem_nil, or_false] at hm
    rcases hm with rfl | rfl | rfl | rfl <;> decide
   split
   ·exact Nat.or_lt_two_pow (n := 8) ih h16
   ·exact ih
  ·exact ih
theorem orK_s {f : Cas → Bool} {k : Nat} {c : Cas} (h : casL[k]? = some c) : orK f (k + 1) = if f c then orK f k ||| c.bit else orK f k := by simp only [orK, h]
set_option maxRecDepth 100000 in
theorem lost66_any (a : Int) (w : World) (hg : GlobU w) : Calls Tryz.prog 66 #[.int .i64 a] w fun e w' => e = .returned (.int .u8 (lostW a : Nat)) ∧ Below w.heap.size w w' := by
 have hl := ld2 w hg
 unfold lostW
 generalize hf : (fun c : Cas => decide ((c.fr : Int) = a) || decide ((c.co : Int) = a)) = f
 have hfc : ∀ c : Cas, f c = (((c.fr : Int) == a) || ((c.co : Int) == a)) := fun c => by rw [← hf]; rfl
 clear hf
 have hz : orK f 0 = 0 := rfl
 have hnx0 : ∀ k c, casL[k]? = some c → orK f (k + 1) = if f c then orK f k ||| c.bit else orK f k := fun k c h => orK_s h
 have hb := fun k => orK_lt f k
 generalize orK f = LK at *
 have hix := ix2
 generalize casV.toArray = cv at *
 go_enter Tryz.func66, Tryz.ntmps66
 go_wp2_with (with_reducible refine wpList_loadG rfl 150 (.global 2) rfl rfl hl ?_)
 go_loopg [3, 7] 5 (fun q sv iv wr => ∃ i : Nat, q + i = 5 ∧ i ≤ 4 ∧ iv = .int .i64 i ∧ sv = .int .u8 (LK i : Nat) ∧ Below w.heap.size w wr)
 case atStart => exact ⟨0, rfl, Nat.zero_le _, rfl, by rw [hz]; rfl, Below.refl _ _⟩
 case round =>
  obtain ⟨i, hq, hi, rfl, rfl, hbr⟩ := hrel
  by_cases hlt : i < 4
  ·have hii : (i : Int) < 4 := by omega
   obtain ⟨c, hc, hok, hx⟩ := hix i hlt
   have hnx := hnx0 i c hc
   have e1 : Hid (bits .or .u8 (LK i : Nat) (c.bit : Nat) = ((LK i ||| c.bit : Nat) : Int)) := Lib.hid (u8_or_nat _ _ (hb i) (by have := hok.1; omega))
   rw [hfc] at hnx
   clear hc hnx0 hix hfc hb hok
   rcases z1 : ((c.fr : Int) == a) with _ | _ <;> rcases z2 : ((c.co : Int) == a) with _ | _
   all_goals
    simp only [z1, z2, Bool.or_true, Bool.or_false, if_true, Bool.false_eq_true, if_false] at hnx
    replace hnx := Lib.hid hnx
    go_wp2_with fail
    go_roundg (gk - 1)
    case measure => omega
    case rel => exact ⟨i + 1, by omega, by omega, by go_num, by first | (rw [hnx.out]; done) | (rw [hnx.out, ← e1.out]), below_call hbr hbr.size (below_box _ _)⟩
  ·obtain rfl : i = 4 := by omega
   go_wp2_with fail
   go_ret
   exact ⟨rfl, hbr⟩
set_option maxRecDepth 100000 in
theorem lost142_any (m : Mv) (w : World) (hg : GlobU w) : Calls Tryz.prog 142 #[.agg m.cs.toArray] w fun e w' => e = .returned (.int .u8 (lostM m : Nat)) ∧ Below w.heap.size w w' := by
 unfold lostM
 generalize hf : (fun c : Cas => decide (m.fr = c.fr) || (decide (m.fr = c.co) || (decide (m.tg = c.fr) || decide (m.tg = c.co)))) = f
 have hfc : ∀ c : Cas, f c = ((m.fr == c.fr) || ((m.fr == c.co) || ((m.tg == c.fr) || (m.tg == c.co)))) := fun c => by rw [← hf]; rfl
 clear hf
 have hz : orK f 0 = 0 := rfl
 have hnx0 : ∀ k c, casL[k]? = some c → orK f (k + 1) = if f c then orK f k ||| c.bit else orK f k := fun k c h => orK_s h
 have hb := fun k => orK_lt f k
 generalize orK f = LK at *
 have hix := ix0
 have hA := HasO.new w (.cells m.cs.toArray 40)
 have hB := below_box w (.cells m.cs.toArray 40)
 have hl1 := ld0 _ (hg.call hB)
 generalize casV.toArray = cv at *
 go_enter Tryz.func142, Tryz.ntmps142
 go_wp2_with (with_reducible refine wpList_loadG rfl 132 (.global 0) rfl rfl hl1 ?_)
 generalize w.alloc (.cells m.cs.toArray 40) = w1 at *
 go_loopg [3, 7] 5 (fun q sv iv wr => ∃ i : Nat, q + i = 5 ∧ i ≤ 4 ∧ iv = .int .i64 i ∧ sv = .int .u8 (LK i : Nat) ∧ Below w1.heap.size w1 wr)
 case atStart => exact ⟨0, rfl, Nat.zero_le _, rfl, by rw [hz]; rfl, Below.refl _ _⟩
 case round =>
  obtain ⟨i, hq, hi, rfl, rfl, hbr⟩ := hrel
  have hAr := hA.call hbr
  have h0 := hAr.cells 0
  have h1 := hAr.cells 1
  have hlr := hAr.lt
  by_cases hlt : i < 4
  ·have hii : (i : Int) < 4 := by omega
   obtain ⟨c, hc, hok, hx⟩ := hix i hlt
   have hnx := hnx0 i c hc
   have e1 : Hid (bits .or .u8 (LK i : Nat) (c.bit : Nat) = ((LK i ||| c.bit : Nat) : Int)) := Lib.hid (u8_or_nat _ _ (hb i) (by have := hok.1; omega))
   rw [hfc] at hnx
   clear hc hnx0 hix hfc hb hok
   rcases z1 : (m.fr == (c.fr : Int)) with _ | _ <;> rcases z2 : (m.fr == (c.co : Int)) with _ | _ <;> rcases z3 : (m.tg == (c.fr : Int)) with _ | _ <;> rcases z4 : (m.tg == (c.co : Int)) with _ | _
   all_goals
    simp only [z1, z2, z3, z4, Bool.or_true, Bool.or_false, if_true, Bool.false_eq_true, if_false] at hnx
    replace hnx := Lib.hid hnx
    go_wp2_with fail
    go_roundg (gk - 1)
    case measure => omega
    case rel => exact ⟨i + 1, by omega, by omega, by go_num, by first | (rw [hnx.out]; done) | (rw [hnx.out, ← e1.out]), below_call hbr hbr.size (below_box _ _)⟩
  ·obtain rfl : i = 4 := by omega
   go_wp2_with fail
   go_ret
   exact ⟨rfl, below_call hB hB.size hbr⟩
end Go.Proofs.YtefmplccbkmalaaGreatDoor
namespace Go.Proofs.YtefmplccbkmalaaGreatDoor
open Go.RowKit
attribute [local go_sem] Oper.semAt_some

theorem sgn_any (x : Int) (w : World) : Calls Tryz.prog 199 #[.int .i64 x] w fun e w' => e = .returned (.int .i64 (sgn3 x)) ∧ w = w' := by
 by_cases h1 : x < 0 <;> by_cases h2 : 0 < x
 all_goals first
  | (exfalso; omega)
  | (go_enter Tryz.func199, Tryz.ntmps199
     go_wp2
     go_ret
     exact ⟨ret_int (by unfold sgn3; (repeat' split) <;> omega), rfl⟩)
set_option maxRecDepth 100000 in
theorem dir_any (F R a b : Nat) (hF : 3 ≤ F ∧ F ≤ 8) (hR : 3 ≤ R ∧ R ≤ 8) (ha : a < F * R) (hb : b < F * R) (hab : a ≠ b) (hrk : b / F = a / F) (w : World) :
  Calls Tryz.prog 170 #[.agg #[.int .i64 F, .int .i64 R], .int .i64 a, .int .i64 b] w fun e w' => e = .returned (.tuple #[.int .i64 (sgn3 (((b % F : Nat) : Int) - (a % F : Nat))), .int .i64 0, .int .i64 0]) ∧ Below w.heap.size w w' := by
 have hA := HasO.new w (.cells #[.int .i64 (F : Int), .int .i64 (R : Int)] 23)
 have hB := below_box w (.cells #[.int .i64 (F : Int), .int .i64 (R : Int)] 23)
 have p1 := fun W => sqPlace_good F R a hF hR ha W
 have p2 := fun W => sqPlace_good F R b hF hR hb W
 rw [hrk] at p2
 have hf1 : a % F < 8 := Nat.lt_of_lt_of_le (Nat.mod_lt _ (by omega)) hF.2
 have hf2 : b % F < 8 := Nat.lt_of_lt_of_le (Nat.mod_lt _ (by omega)) hF.2
 have hr1 : a / F < 64 := Nat.lt_of_le_of_lt (Nat.div_le_self _ _) (Nat.lt_of_lt_of_le ha (Nat.mul_le_mul hF.2 hR.2))
 have hab' : (((a : Nat) : Int) == (b : Int)) = false := by simp; omega
 have hs := fun x W => sgn_any x W
 have hne : ((((b % F : Nat) : Int) - ((a % F : Nat) : Int)) != 0) = true := by
  have h1 := Nat.div_add_mod a F
  have h2 := Nat.div_add_mod b F
  rw [hrk] at h2
  simp only [bne_iff_ne, ne_eq]
  omega
 have h0 : sgn3 0 = 0 := rfl
 clear hrk
 generalize a % F = u at *
 generalize b % F = v at *
 generalize a / F = k at *
 have hc0 := hA.cells
 have hl0 := hA.lt
 go_enter Tryz.func170, Tryz.ntmps170
 go_wp2_with fail
 refine (p1 _).mono ?_
 rintro e w2 ⟨rfl, hb2⟩
 have hA2 := hA.call hb2
 have hB2 := below_call hB hB.size hb2
 clear hc0 hl0 hA hB hb2 p1
 have hc2 := hA2.cells
 have hl2 := hA2.lt
 go_wp2_with fail
 refine (p2 _).mono ?_
 rintro e w3 ⟨rfl, hb3⟩
 have hB3 := below_call hB2 hB2.size hb3
 clear hA2 hb3 p2 hc2 hl2
 have e1 : (k : Int) - k = 0 := by omega
 go_wp2_with fail
 refine (hs _ _).mono ?_
 rintro e w4 ⟨rfl, rfl⟩
 go_wp2_with fail
 refine (hs _ _).mono ?_
 rintro e w4 ⟨rfl, rfl⟩
 go_wp2_with fail
 go_ret3
 exact ⟨rfl, hB3⟩
def btI (w : World) (F R a b : Nat) (qs q1 : Nat) (dx dy : Int) (L : List Int) (fin : Nat) (c : Nat) (W : World) : Prop :=
 Below w.heap.size w W ∧ HasO W (w.heap.size + 1) (.cells #[.int .i64 (b : Int)] 3 (0, 0)) ∧ RayRd F R a dx dy q1 (q1 + 1) (q1 + 2) (q1 + 3) W ∧
 (∃ S : Nat, HasO W qs (.cells #[.int .u64 (S : Int)] 64 (0, 0)) ∧ S < 2 ^ 64 ∧ btwR b L S = fin) ∧ c ≤ W.heap.size
theorem btI_alt {w : World} {F R a b qs q1 : Nat} {dx dy : Int} {L : List Int} {fin c : Nat} {W W' : World} {lo hi : Nat} (h : btI w F R a b qs q1 dx dy L fin c W) (ha : Alt lo hi W W') (h1 : q1 + 4 ≤ lo) (h2 : w.heap.size + 2 ≤ lo) (h3 : qs < lo) : btI w F R a b qs q1 dx dy L fin c W' := by
 obtain ⟨b, i1, ⟨r1, r2, r3, r4⟩, ⟨S, s1, s2, s3⟩, i5⟩ := h
 exact ⟨ha.below b (by omega) b.size, ha.hasO i1 (by omega), ⟨ha.hasO r1 (by omega), ha.hasO r2 (by omega), ha.hasO r3 (by omega), ha.hasO r4 (by omega)⟩, ⟨S, ha.hasO s1 (by omega), s2, s3⟩, Nat.le_trans i5 ha.size⟩
theorem btI_set {w : World} {F R a b qs q1 : Nat} {dx dy : Int} {L L' : List Int} {fin c S' : Nat} {W : World} (h : btI w F R a b qs q1 dx dy L fin c W) (hs : S' < 2 ^ 64) (hf : btwR b L' S' = fin) (h1 : qs < q1) (h2 : w.heap.size + 2 ≤ qs) :
  btI w F R a b qs q1 dx dy L' fin c (W.setCell ⟨qs, 0, none⟩ (.int .u64 (S' : Int))).drew ∧ Alt qs (qs + 1) W (W.setCell ⟨qs, 0, none⟩ (.int .u64 (S' : Int))).drew := by
 obtain ⟨b, i1, ⟨r1, r2, r3, r4⟩, ⟨S, s1, s2, s3⟩, i5⟩ := h
 have ha : Alt qs (qs + 1) W (W.setCell ⟨qs, 0, none⟩ (.int .u64 (S' : Int))).drew := (Alt.setCell (by simp)).trans (Alt.drewN 1)
 exact ⟨⟨ha.below b (by omega) b.size, ha.hasO i1 (by omega), ⟨ha.hasO r1 (by omega), ha.hasO r2 (by omega), ha.hasO r3 (by omega), ha.hasO r4 (by omega)⟩, ⟨S', s1.set_ 0 (.int .u64 (S' : Int)), hs, hf⟩, Nat.le_trans i5 ha.size⟩, ha⟩
set_option maxRecDepth 100000 in
theorem between_any (F R a b : Nat) (hF : 3 ≤ F ∧ F ≤ 8) (hR : 3 ≤ R ∧ R ≤ 8) (ha : a < F * R) (hb : b < F * R) (hab : a ≠ b) (hrk : b / F = a / F) (w : World) :
  Calls Tryz.prog 118 #[.agg #[.int .i64 F, .int .i64 R], .int .i64 a, .int .i64 b] w fun e w' => e = .returned (.tuple #[.int .u64 (btwW F R a b : Nat), .int .i64 0]) ∧ Below w.heap.size w w' := by
 have hq64 : ∀ dx dy, ∀ x ∈ rayL F R a dx dy 8 1, 0 ≤ x ∧ x < 64 := by
  intro dx dy x hx
  have := rayL_sq x hx
  rw [← Int.natCast_mul] at this
  have h2 : F * R ≤ 64 := Nat.mul_le_mul hF.2 hR.2
  omega
 have hdr := fun W => dir_any F R a b hF hR ha hb hab hrk W
 have hV : btwW F R a b = btwR b (rayL F R a (sgn3 (((b % F : Nat) : Int) - (a % F : Nat))) 0 8 1) 0 := by
  unfold btwW
  rw [hrk, Int.sub_self]; rfl
 have hdx : (-1 ≤ sgn3 (((b % F : Nat) : Int) - (a % F : Nat)) ∧ sgn3 (((b % F : Nat) : Int) - (a % F : Nat)) ≤ 1) ∧ sgn3 (((b % F : Nat) : Int) - (a % F : Nat)) ≠ 0 := by
  have h1 := Nat.div_add_mod a F
  have h2 := Nat.div_add_mod b F
  rw [hrk] at h2
  unfold sgn3
  split
  ·omega
  ·split
   ·omega
   ·omega
 generalize btwW F R a b = V at *
 generalize sgn3 (((b % F : Nat) : Int) - (a % F : Nat)) = dx at *
 replace hV := Lib.hid hV
 refine (callsIn_wide (n := 3)).1 ?_
 refine callsIn_of_wp_marks Tryz.func118 rfl trivial ?_ rfl
 simp only [Tryz.ntmps118, List.size_toArray, List.length_cons, List.length_nil, Nat.reduceAdd, Nat.reduceSub, Array.replicate_succ, Array.replicate_zero, List.push_toArray, List.append_toArray, List.nil_append, List.cons_append]
 have hA := (HasO.new w (.cells #[.int .i64 (F : Int), .int .i64 (R : Int)] 23)).alloc (.cells #[.int .i64 (b : Int)] 3)
 have hO := HasO.new' (w.alloc (.cells #[.int .i64 (F : Int), .int .i64 (R : Int)] 23)) (.cells #[.int .i64 (b : Int)] 3) (q := w.heap.size + 1) (by simp)
 have hB := (below_box w (.cells #[.int .i64 (F : Int), .int .i64 (R : Int)] 23)).alloc (by simp) (.cells #[.int .i64 (b : Int)] 3)
 have hcA := hA.cells
 have hlA := hA.lt
 have hcO := hO.cells
 have hlO := hO.lt
 gi_wp2_with fail
 generalize (w.alloc (.cells #[.int .i64 (F : Int), .int .i64 (R : Int)] 23)).alloc (.cells #[.int .i64 (b : Int)] 3) = v0 at *
 refine ⟨trivial, (callsIn_wide.2 (hdr _)).mono ?_⟩
 rintro e w2 ⟨rfl, hb2⟩
 have hA2 := hA.call hb2
 have hO2 := hO.call hb2
 have hB2 := below_call hB hB.size hb2
 clear hcA hlA hcO hlO hA hO hB hb2 hdr
 have hcA := hA2.cells
 have hlA := hA2.lt
 have hb3 := below_box w2 (.cells #[.int .u64 0] 64)
 have hS := HasO.new w2 (.cells #[.int .u64 0] 64)
 have hA3 := hA2.call hb3
 have hO3 := hO2.call hb3
 have hB3 := below_call hB2 hB2.size hb3
 have hqs : w.heap.size + 2 ≤ w2.heap.size := by have := hO2.lt; omega
 gi_wp2_with fail
 refine ⟨trivial, (callsIn_wide.2 (ray_any F R a dx 0 _)).mono ?_⟩
 rintro e u0 ⟨rfl, hRd, hbu, hsu⟩
 obtain ⟨qs, hqq⟩ : ∃ q, q = w2.heap.size := ⟨_, rfl⟩
 rw [← hqq] at hS hqs ⊢
 obtain ⟨L0, hL0⟩ : ∃ L, L = rayL F R a dx 0 8 1 := ⟨_, rfl⟩
 rw [← hL0] at hV
 have hqL0 : ∀ x ∈ L0, 0 ≤ x ∧ x < 64 := by rw [hL0]; exact hq64 _ _
 have hOu := hO3.call hbu
 have hSu := hS.call hbu
 have hBu := below_call hB3 hB3.size hbu
 have hlSu := hSu.lt
 obtain ⟨q1, hq1⟩ : ∃ q, q = (w2.alloc (.cells #[.int .u64 0] 64)).heap.size := ⟨_, rfl⟩
 rw [← hq1] at hRd hsu ⊢
 have hq1l : qs < q1 := by rw [hq1, hqq]; simp
 have hI0 : btI w F R a b qs q1 dx 0 L0 V u0.heap.size u0 := ⟨hBu, hOu, hRd, ⟨0, hSu, by decide, hV.out.symm⟩, Nat.le_refl _⟩
 replace hq1 := Lib.hid hq1
 replace hL0 := Lib.hid hL0
 replace hqq := Lib.hid hqq
 clear hcA hlA hA2 hO2 hB2 hb3 hS hA3 hO3 hB3 hOu hSu hRd hbu hV hq64
 gi_wp2_with fail
 refine rangeFunc_law1 (gf := 200) (lb := #[.pointer (some ⟨q1, 0, none⟩), .pointer (some ⟨q1 + 1, 0, none⟩), .pointer (some ⟨q1 + 2, 0, none⟩), .pointer (some ⟨q1 + 3, 0, none⟩)]) 0 (fun a W h => h) rfl (enters_of Tryz.func200 (by kernel_rfl) rfl) (ray_seq F R a dx 0 q1 (q1 + 1) (q1 + 2) (q1 + 3) hF hR ha hdx.1 (by omega) (fun h => hdx.2 h.1) L0 hL0.out) (fun _ _ => rfl)
  (fun c k W => btI w F R a b qs q1 dx 0 (L0.drop k) V c W) (fun c W => btI w F R a b qs q1 dx 0 [] V c W) ?hst0 ?hstx0 ?hRd0 ?hsz0 ?hszx0 ?h00 ?hbody0 ?hfin0 ?hcont0
 case hst0 => intro c k W W' hc h ha; exact btI_alt h ha (by omega) (by omega) (by omega)
 case hstx0 => intro c W W' hc h ha; exact btI_alt h ha (by omega) (by omega) (by omega)
 case hRd0 => intro c k W hc h; exact h.2.2.1
 case hsz0 => intro c k W hc h; exact h.2.2.2.2
 case hszx0 => intro c W hc h; exact h.2.2.2.2
 case hfin0 => intro c W h; rw [List.drop_length] at h; exact h
 case h00 =>
  intro c W hb hc hz
  obtain ⟨b, i1, ⟨r1, r2, r3, r4⟩, ⟨S, s1, s2, s3⟩, i5⟩ := btI_alt hI0 (Alt.call (lo := u0.heap.size) (hi := u0.heap.size) hb) (by omega) (by omega) (by omega)
  exact ⟨b, i1, ⟨r1, r2, r3, r4⟩, ⟨S, s1, s2, s3⟩, by omega⟩
 case hbody0 =>
  rintro c k W hc hk h hT
  have hkm : L0[k]?.getD 0 ∈ L0 := by rw [List.getElem?_eq_getElem hk]; exact List.getElem_mem hk
  have hxb := hqL0 _ hkm
  have hdr : L0.drop k = (L0[k]?.getD 0) :: L0.drop (k + 1) := by rw [List.getElem?_eq_getElem hk]; exact List.drop_eq_getElem_cons hk
  obtain ⟨x, hx⟩ : ∃ x : Nat, L0[k]?.getD 0 = x := ⟨(L0[k]?.getD 0).toNat, by omega⟩
  rw [hx] at hdr hxb
  simp only [hx]
  have hx64 : (x : Int) < 64 := by omega
  clear hkm
  replace hk := Lib.hid hk
  replace hx := Lib.hid hx
  gi_wp2_with fail
  refine ⟨fun q o _ h => h, fun W2 ha hz hrec => ?_⟩
  have h2 := btI_alt h ha (by omega) (by omega) (by omega)
  have h2' := h2
  obtain ⟨b0, i1, ir, ⟨S, s1, s2, s3⟩, i5⟩ := h2'
  have c9 := s1.cells 0
  have f9 := s1.frozen
  have l9 := s1.lt
  have cO := i1.cells 0
  have lO := i1.lt
  replace hz := Lib.hid hz
  rw [hdr] at s3
  simp only [btwR, Int.toNat_natCast] at s3
  have wo : bits .or .u64 (S : Int) (IntKind.u64.wrap (2 ^ x)) = ((S ||| 2 ^ x : Nat) : Int) := or_bit s2 (by omega)
  have s4 : S ||| 2 ^ x < 2 ^ 64 := Nat.or_lt_two_pow s2 (Nat.pow_lt_pow_right (by decide) (by omega))
  rcases z1 : ((x : Int) == (b : Int)) with _ | _
  ·have z2 : ¬ (x : Int) = b := by simpa using z1
   rw [if_neg z2] at s3
   replace s3 := Lib.hid s3
   clear z2
   gi_wp2_with fail
   gi_region
   all_goals
    replace wo := Lib.hid wo
    obtain ⟨h3, h4⟩ := btI_set (L' := L0.drop (k + 1)) (S' := S ||| 2 ^ x) h2 s4 s3.out hq1l hqs
    generalize (W2.setCell ⟨qs, 0, none⟩ (.int .u64 ((S ||| 2 ^ x : Nat) : Int))).drew = W3 at *
    clear c9 f9 l9 i1 ir s1 b0 h2 i5 cO lO
    gi_wp2_with fail
    exact ⟨fun q o hq ho => h4.hasO ho (.inr (by rcases hq with h | h | h <;> omega)), h3⟩
  ·have z2 : (x : Int) = b := by simpa using z1
   rw [if_pos z2] at s3
   have h3 : btI w F R a b qs q1 dx 0 [] V c W2 := ⟨b0, i1, ir, ⟨S, s1, s2, s3⟩, i5⟩
   replace s3 := Lib.hid s3
   clear z2
   gi_wp2_with fail
   exact ⟨fun q o hq ho => ho, rfl, h3⟩
 intro c0 v1 hcc hJ hD
 obtain ⟨hB, hO, _, ⟨S1, hS, hS1l, hS1⟩, _⟩ := hJ
 replace hS1 : Hid (S1 = V) := Lib.hid hS1
 obtain ⟨D0, hDD0⟩ : ∃ D, D = u0.heap.size := ⟨_, rfl⟩
 rw [← hDD0] at hD ⊢
 have c9 := hS.cells 0
 have l9 := hS.lt
 have hDl : w.heap.size ≤ D0 := by rw [hDD0]; exact hBu.size
 replace hDD0 := Lib.hid hDD0
 gi_wp2_with fail
 refine ⟨by simp, .inl ⟨_, _, rfl, run_takeDeferred hD, ?_⟩⟩
 refine ⟨_, results_tmp2 rfl _ _ _, ret_v ?_, ?_⟩
 ·rw [hS1.out]; rfl
 ·exact below_putObj hB hDl hB.size
end Go.Proofs.YtefmplccbkmalaaGreatDoor
namespace Go.Proofs.YtefmplccbkmalaaGreatDoor
open Go.RowKit

theorem leap1_any (F R a : Nat) (y : Int) (hF : 3 ≤ F ∧ F ≤ 8) (hR : 3 ≤ R ∧ R ≤ 8) (ha : a < F * R) (hy : -2 ≤ y ∧ y ≤ 2) (g : Nat) (W : World) (h : HasO W g (.cells #[.int .i64 0, .int .i64 y] 181 (0, 0))) :
  Calls Tryz.prog 145 #[.agg #[.int .i64 F, .int .i64 R], .int .i64 a, .slice (some ⟨g, 0, none⟩) 1 1] W fun e w' => e = .returned (.int .u64 (leapW F R a [(0, y)] 1 : Nat)) ∧ Below W.heap.size W w' := by
 refine leap_any F R a g 0 1 [(0, y)] hF hR ha (fun x hx => by simp at hx; subst hx; exact ⟨by simp, hy⟩) (by simp) W ⟨h.lt, fun j hj => ?_⟩
 obtain rfl : j = 0 := by simp at hj; exact hj
 exact ⟨h.cells 0, h.cells 1⟩
def scnI (R : Nat) (bl : Bool) : Int := if bl then (R : Int) - 2 else 1
theorem and64 {a b : Nat} (ha : a < 18446744073709551616) (hb : b < 18446744073709551616) : bits .andNot .u64 (a : Int) (b : Int) = ((a &&& (2 ^ 64 - 1 - b) : Nat) : Int) := u64_andNot_nat a b ha hb
set_option maxRecDepth 100000 in
theorem steps_any (F R a oc : Nat) (bl : Bool) (hF : 3 ≤ F ∧ F ≤ 8) (hR : 3 ≤ R ∧ R ≤ 8) (ha : a < F * R) (hoc : oc < 2 ^ (F * R)) (w : World) :
  Calls Tryz.prog 120 #[.agg #[.int .i64 F, .int .i64 R], .bool bl, .int .i64 a, .int .u64 (oc : Nat)] w fun e w' => e = .returned (.tuple #[.int .u64 (stpW F R bl a oc : Nat), .int .i64 0]) ∧ Below w.heap.size w w' := by
 have hA := HasO.new w (.cells #[.int .i64 (F : Int), .int .i64 (R : Int)] 23)
 have hB := below_box w (.cells #[.int .i64 (F : Int), .int .i64 (R : Int)] 23)
 have hon := fun W => rayOn_any F R a oc hF hR ha hoc W
 have hfw := fun W => forward_any bl W
 have hsd : sdI bl = 1 ∨ sdI bl = -1 := by cases bl <;> simp [sdI]
 have hlp1 := fun g W h => leap1_any F R a (sdI bl) hF hR ha (by omega) g W h
 have hlp2 := fun g W h => leap1_any F R a (2 * sdI bl) hF hR ha (by omega) g W h
 have hpw := pow_FR hF hR
 have hoc64 : oc < 18446744073709551616 := Nat.lt_of_lt_of_le hoc hpw
 have ho1 : leapW F R a [(0, sdI bl)] 1 < 18446744073709551616 := Nat.lt_of_lt_of_le (leapW_lt _ _) hpw
 have ho2 : leapW F R a [(0, 2 * sdI bl)] 1 < 18446744073709551616 := Nat.lt_of_lt_of_le (leapW_lt _ _) hpw
 have hV : stpW F R bl a oc = if (leapW F R a [(0, sdI bl)] 1 &&& (2 ^ 64 - 1 - oc)) = 0 ∨ R < 6 ∨ ((a / F : Nat) : Int) ≠ scnI R bl then leapW F R a [(0, sdI bl)] 1 &&& (2 ^ 64 - 1 - oc) else (leapW F R a [(0, sdI bl)] 1 &&& (2 ^ 64 - 1 - oc)) ||| (leapW F R a [(0, 2 * sdI bl)] 1 &&& (2 ^ 64 - 1 - oc)) := rfl
 generalize stpW F R bl a oc = V at *
 have e1 := and64 ho1 hoc64
 have e2 := and64 ho2 hoc64
 have hn1 : leapW F R a [(0, sdI bl)] 1 &&& (2 ^ 64 - 1 - oc) < 18446744073709551616 := Nat.lt_of_le_of_lt Nat.and_le_left ho1
 have hn2 : leapW F R a [(0, 2 * sdI bl)] 1 &&& (2 ^ 64 - 1 - oc) < 18446744073709551616 := Nat.lt_of_le_of_lt Nat.and_le_left ho2
 have e3 := u64_or_nat _ _ hn1 hn2
 generalize leapW F R a [(0, sdI bl)] 1 &&& (2 ^ 64 - 1 - oc) = n1 at *
 generalize leapW F R a [(0, 2 * sdI bl)] 1 &&& (2 ^ 64 - 1 - oc) = n2 at *
 generalize leapW F R a [(0, sdI bl)] 1 = l1 at *
 generalize leapW F R a [(0, 2 * sdI bl)] 1 = l2 at *
 have e4 : sdI bl = if bl then -1 else 1 := rfl
 have e5 : scnI R bl = if bl then (R : Int) - 2 else 1 := rfl
 generalize hsi : sdI bl = up at *
 generalize hse : scnI R bl = sc at *
 clear hsi hse
 have hk : Hid (wrap64 ((a : Int) / F) = ((a / F : Nat) : Int)) := Lib.hid (wdiv a F (Nat.lt_of_lt_of_le ha (Nat.le_trans (Nat.mul_le_mul hF.2 hR.2) (by decide))))
 generalize a / F = K at *
 replace e1 := Lib.hid e1
 replace e2 := Lib.hid e2
 replace e3 := Lib.hid e3
 replace hV := Lib.hid hV
 have hc0 := hA.cells
 have hl0 := hA.lt
 cases bl
 ·simp only [Bool.false_eq_true, if_false] at e4 e5
  subst e4
  replace e5 := Lib.hid e5
  go_enter Tryz.func120, Tryz.ntmps120
  go_wp2_with fail
  refine (hon _).mono ?_
  rintro e w2 ⟨rfl, hb2⟩
  have hA2 := hA.call hb2
  have hB2 := below_call hB hB.size hb2
  clear hc0 hl0 hA hB hb2 hon
  have hc2 := hA2.cells
  have hl2 := hA2.lt
  go_wp2_with fail
  refine (hfw _).mono ?_
  rintro e w3 ⟨rfl, rfl⟩
  go_wp2_with fail
  refine (hlp1 _ _ (HasO.new _ _)).mono ?_
  rintro e w4 ⟨rfl, hb4⟩
  have hb5 := below_call (below_box _ _) (by simp) hb4
  have hA3 := hA2.call hb5
  have hB3 := below_call hB2 hB2.size hb5
  clear hc2 hl2 hA2 hB2 hb4 hb5 hlp1
  have hc2 := hA3.cells
  have hl2 := hA3.lt
  have e1 := e1.out
  have hV := hV.out
  rcases z1 : ((n1 : Int) == 0) with _ | _
  ·have y1 : ¬ n1 = 0 := by simpa using z1
   rcases z2 : decide ((R : Int) < 6) with _ | _
   ·have y2 : ¬ R < 6 := by simp at z2; omega
    rcases z3 : ((K : Int) != 1) with _ | _
    ·have hV : Hid (V = n1 ||| n2) := Lib.hid (by rw [hV, e5.out, if_neg (by simp at z3; simp [y1, y2, z3])])
     have hk := hk.out
     go_wp2_with fail
     refine (hlp2 _ _ (HasO.new _ _)).mono ?_
     rintro e w5 ⟨rfl, hb4⟩
     have hb5 := below_call (below_box _ _) (by simp) hb4
     have hB4 := below_call hB3 hB3.size hb5
     have e2 := e2.out
     have e3 := e3.out
     go_wp2_with fail
     go_ret2
     exact ⟨by rw [hV.out]; rfl, hB4⟩
    ·have hV : Hid (V = n1) := Lib.hid (by rw [hV, e5.out, if_pos (by simp at z3; simp [z3])])
     have hk := hk.out
     go_wp2_with fail
     go_ret2
     exact ⟨by rw [hV.out]; rfl, hB3⟩
   ·have hV : Hid (V = n1) := Lib.hid (by rw [hV, if_pos (by simp at z2; omega)])
    go_wp2_with fail
    go_ret2
    exact ⟨by rw [hV.out]; rfl, hB3⟩
  ·have hV : Hid (V = n1) := Lib.hid (by rw [hV, if_pos (by simp at z1; omega)])
   go_wp2_with fail
   go_ret2
   exact ⟨by rw [hV.out]; rfl, hB3⟩
 ·simp only [if_true] at e4 e5
  subst e4
  replace e5 := Lib.hid e5
  go_enter Tryz.func120, Tryz.ntmps120
  go_wp2_with fail
  refine (hon _).mono ?_
  rintro e w2 ⟨rfl, hb2⟩
  have hA2 := hA.call hb2
  have hB2 := below_call hB hB.size hb2
  clear hc0 hl0 hA hB hb2 hon
  have hc2 := hA2.cells
  have hl2 := hA2.lt
  go_wp2_with fail
  refine (hfw _).mono ?_
  rintro e w3 ⟨rfl, rfl⟩
  go_wp2_with fail
  refine (hlp1 _ _ (HasO.new _ _)).mono ?_
  rintro e w4 ⟨rfl, hb4⟩
  have hb5 := below_call (below_box _ _) (by simp) hb4
  have hA3 := hA2.call hb5
  have hB3 := below_call hB2 hB2.size hb5
  clear hc2 hl2 hA2 hB2 hb4 hb5 hlp1
  have hc2 := hA3.cells
  have hl2 := hA3.lt
  have e1 := e1.out
  have hV := hV.out
  rcases z1 : ((n1 : Int) == 0) with _ | _
  ·have y1 : ¬ n1 = 0 := by simpa using z1
   rcases z2 : decide ((R : Int) < 6) with _ | _
   ·have y2 : ¬ R < 6 := by simp at z2; omega
    rcases z3 : ((K : Int) != (R : Int) - 2) with _ | _
    ·have hV : Hid (V = n1 ||| n2) := Lib.hid (by rw [hV, e5.out, if_neg (by simp at z3; simp [y1, y2, z3])])
     have hk := hk.out
     go_wp2_with fail
     refine (hlp2 _ _ (HasO.new _ _)).mono ?_
     rintro e w5 ⟨rfl, hb4⟩
     have hb5 := below_call (below_box _ _) (by simp) hb4
     have hB4 := below_call hB3 hB3.size hb5
     have e2 := e2.out
     have e3 := e3.out
     go_wp2_with fail
     go_ret2
     exact ⟨by rw [hV.out]; rfl, hB4⟩
    ·have hV : Hid (V = n1) := Lib.hid (by rw [hV, e5.out, if_pos (by simp at z3; simp [z3])])
     have hk := hk.out
     go_wp2_with fail
     go_ret2
     exact ⟨by rw [hV.out]; rfl, hB3⟩
   ·have hV : Hid (V = n1) := Lib.hid (by rw [hV, if_pos (by simp at z2; omega)])
    go_wp2_with fail
    go_ret2
    exact ⟨by rw [hV.out]; rfl, hB3⟩
  ·have hV : Hid (V = n1) := Lib.hid (by rw [hV, if_pos (by simp at z1; omega)])
   go_wp2_with fail
   go_ret2
   exact ⟨by rw [hV.out]; rfl, hB3⟩
end Go.Proofs.YtefmplccbkmalaaGreatDoor
