import Derived.Test.YtefmplccbkmalaaGreatDoorF09
set_option maxHeartbeats 12800000
namespace Go.Proofs.YtefmplccbkmalaaGreatDoor
open Go.RowKit Go.Sort Go.BigFrame

def pawnHit (F : Nat) (bl : Bool) (a b : Nat) : Bool := (dR F a b == sdI bl) && ((dF F a b == 1) || (-(dF F a b) == 1))
def pawnL (F : Nat) (bl : Bool) (a : Nat) : Nat → List Int
 | 0 => []
 | k + 1 => if pawnHit F bl a k then pawnL F bl a k ++ [(k : Int)] else pawnL F bl a k
theorem pawnL_len (F : Nat) (bl : Bool) (a k : Nat) : (pawnL F bl a k).length ≤ k := by
 induction k with
 | zero => simp [pawnL]
 | succ k ih =>
  simp only [pawnL]
  split
  ·simp; omega
  ·omega
def pwR (w4 : World) (F : Nat) (bl : Bool) (a N : Nat) (b : Nat) (lv bv : Value) (wr : World) : Prop :=
 b ≤ N ∧ bv = .int .i64 b ∧ wr.ownsRow w4.heap.size 3 1 lv (pawnL F bl a b).length ((pawnL F bl a b).map (.int .i64)) ∧ Below w4.heap.size w4 wr
set_option maxRecDepth 100000 in
theorem refPawn_any (F R : Nat) (bl : Bool) (a : Nat) (hF : 3 ≤ F ∧ F ≤ 8) (hR : 3 ≤ R ∧ R ≤ 8) (ha : a < F * R) (w : World) :
  Calls Tryz.prog 191 #[.agg #[.int .i64 F, .int .i64 R], .bool bl, .int .i64 a] w fun e w' => (∃ v, e = .returned v ∧ w'.ownsRow w.heap.size 3 1 v (pawnL F bl a (F * R)).length ((pawnL F bl a (F * R)).map (.int .i64))) ∧ Below w.heap.size w w' := by
 obtain ⟨i3, hi3, hz3, hs3, hy3⟩ := info_parts Tryz.info3
 have hA := HasO.new w (.cells [.int .i64 (F : Int), .int .i64 (R : Int)].toArray 23)
 have hB := below_box w (.cells [.int .i64 (F : Int), .int .i64 (R : Int)].toArray 23)
 obtain ⟨ha64, ha0, ha1⟩ := sq_bd hF hR ha
 obtain ⟨N, hN⟩ : ∃ N, N = F * R := ⟨_, rfl⟩
 have hN64 : N ≤ 64 := by rw [hN]; exact Nat.mul_le_mul hF.2 hR.2
 have hw : wrap64 ((F : Int) * (R : Int)) = (N : Int) := by rw [hN, Int.natCast_mul]; exact IntWalk.wrap64_in _ (by rw [← Int.natCast_mul, ← hN]; omega)
 rw [← hN]
 go_enter Tryz.func191, Tryz.ntmps191
 go_wp2_with fail
 show Code.wp _ _ _ _ (w.alloc (.cells [.int .i64 (F : Int), .int .i64 (R : Int)].toArray 23))
 obtain ⟨w1, hw1⟩ : ∃ x, x = w.alloc (.cells [.int .i64 (F : Int), .int .i64 (R : Int)].toArray 23) := ⟨_, rfl⟩
 rw [← hw1] at hA hB ⊢
 clear hw1
 replace hN := Lib.hid hN
 go_loopg [7, 8] 65 (fun q lv bv wr => ∃ b : Nat, q + b = 65 ∧ pwR w1 F bl a N b lv bv wr)
 case atStart => exact ⟨0, rfl, ⟨Nat.zero_le _, rfl, World.ownsRow_nil _ _ _ _, Below.refl _ _⟩⟩
 case round =>
  obtain ⟨b, hq, ⟨hbN, rfl, hown, hbr⟩⟩ := hrel
  have hAr := hA.call hbr
  have hcr := hAr.cells
  have hlr := hAr.lt
  have hBr := below_call hB hB.size hbr
  by_cases hlt : b < N
  ·have hii : (b : Int) < N := by omega
   obtain ⟨hb64, hb0, hb1⟩ := sq_bd hF hR (show b < F * R by rw [← hN.out]; exact hlt)
   have hdb := dF_bd (a := a) (b := b) hF
   have hrb := dR_bd (a := a) (b := b) hR ha1 hb1
   have hdf : dF F a b = ((b % F : Nat) : Int) - ((a % F : Nat) : Int) := rfl
   have hdr : dR F a b = ((b / F : Nat) : Int) - ((a / F : Nat) : Int) := rfl
   have hlen := pawnL_len F bl a b
   have hnx : pawnL F bl a (b + 1) = if pawnHit F bl a b then pawnL F bl a b ++ [(b : Int)] else pawnL F bl a b := rfl
   have hhit : pawnHit F bl a b = ((dR F a b == sdI bl) && ((dF F a b == 1) || (-(dF F a b) == 1))) := rfl
   generalize dF F a b = df, dR F a b = dr at hdb hrb hdf hdr hhit
   go_wp2_with fail
   refine wp_region_relL (by kernel_rfl) (by kernel_rfl) [some 20, some 21, some 22, some 23, some 24, some 25, some 9, some 10, none, none] (by rfl) (by rfl) (twoR wr [.int .i64 (F : Int), .int .i64 (R : Int)].toArray a b #[.int .i64 (a % F : Nat), .int .i64 (a / F : Nat)] #[.int .i64 (b % F : Nat), .int .i64 (b / F : Nat)]) (fun S S9 f9 W h hR => twoR_congr S S9 f9 W h hR) (fun f9 => twoR_init f9) ?hstep ?hend
   case hstep =>
    intro S i9 o9 f9 W ho hi hSj hpre hcl hR K hK
    have hi : i9 < 10 := hi
    have hR0 := hR
    obtain ⟨hC, h0, h1, h2, h3, h4, h5, h6, h7, h8⟩ := hR0
    have hsz := hAr.call hC
    rcases i9 with _ | _ | _ | _ | _ | _ | _ | _ | _ | _ | i9
    ·exact st_loadA (og ho) 23 (.tmp 3) (oo ho) (rd_out rfl rfl) [.int .i64 (F : Int), .int .i64 (R : Int)] (by kernel_rfl) (fun j v hv => by rw [Nat.zero_add, hsz.cells j]; simpa using hv) (hK _ _ (twoR_val hR 0 _ (Below.refl _ _) (by decide) (by refine ⟨?_, ?_, ?_, ?_, ?_, ?_⟩ <;> intro h <;> first | rfl | (cases h))))
    ·exact st_move (og ho) (.tmp 2) (oo ho) (rd_out rfl rfl) (hK _ _ (twoR_val hR 1 _ (Below.refl _ _) (by decide) (by refine ⟨?_, ?_, ?_, ?_, ?_, ?_⟩ <;> intro h <;> first | rfl | (cases h))))
    ·exact st_call2 (og ho) 40 (.tmp 20) (.tmp 21) #[23, 3] (oo ho) (ri 0 (h0 (da ho hpre 0))) (ri 1 (h1 (da ho hpre 1))) (fun _ _ => rfl) (refPlace_any F R a hF (by omega) W) (by rintro u w9 ⟨h9, hb9⟩; injection h9 with h9; subst h9; exact hK _ _ (twoR_val hR 2 _ hb9 (by decide) (by refine ⟨?_, ?_, ?_, ?_, ?_, ?_⟩ <;> intro h <;> first | rfl | (cases h)))) (by rintro ch w9 ⟨h9, _⟩; cases h9) (by rintro w9 ⟨h9, _⟩; cases h9)
    ·exact st_loadA (og ho) 23 (.tmp 3) (oo ho) (rd_out rfl rfl) [.int .i64 (F : Int), .int .i64 (R : Int)] (by kernel_rfl) (fun j v hv => by rw [Nat.zero_add, hsz.cells j]; simpa using hv) (hK _ _ (twoR_val hR 3 _ (Below.refl _ _) (by decide) (by refine ⟨?_, ?_, ?_, ?_, ?_, ?_⟩ <;> intro h <;> first | rfl | (cases h))))
    ·exact st_move (og ho) (.tmp 8) (oo ho) (rd_out rfl rfl) (hK _ _ (twoR_val hR 4 _ (Below.refl _ _) (by decide) (by refine ⟨?_, ?_, ?_, ?_, ?_, ?_⟩ <;> intro h <;> first | rfl | (cases h))))
    ·exact st_call2 (og ho) 40 (.tmp 23) (.tmp 24) #[23, 3] (oo ho) (ri 3 (h3 (da ho hpre 3))) (ri 4 (h4 (da ho hpre 4))) (fun _ _ => rfl) (refPlace_any F R b hF (by omega) W) (by rintro u w9 ⟨h9, hb9⟩; injection h9 with h9; subst h9; exact hK _ _ (twoR_val hR 5 _ hb9 (by decide) (by refine ⟨?_, ?_, ?_, ?_, ?_, ?_⟩ <;> intro h <;> first | rfl | (cases h)))) (by rintro ch w9 ⟨h9, _⟩; cases h9) (by rintro w9 ⟨h9, _⟩; cases h9)
    ·have hS8 : S 8 = false := by
      rcases h : S 8 with _ | _
      ·rfl
      ·have := hcl 8 _ h rfl ⟨6, .data⟩ (by simp) rfl
       rw [hSj] at this; cases this
     exact st_alloc (og ho) 85 (oo ho) (alloc99 W) (hK _ _ (twoR_new hR 6 (.inl rfl) hS8))
    ·have hS9 : S 9 = false := by
      rcases h : S 9 with _ | _
      ·rfl
      ·have := hcl 9 _ h rfl ⟨7, .data⟩ (by simp) rfl
       rw [hSj] at this; cases this
     exact st_alloc (og ho) 85 (oo ho) (alloc99 W) (hK _ _ (twoR_new hR 7 (.inr rfl) hS9))
    ·have hSi := (da ho hpre 6)
     obtain ⟨q, e1, e2, old, e3, e4, e5⟩ := h6 hSi
     exact st_storeO (og ho) 85 (.tmp 9) (.tmp 22) (oo ho) (ri 6 e1) _ old 85 (ri 2 (h2 (da ho hpre 2))) e3 (by kernel_rfl) e4 (by simp [Value.oneCell']) (hK _ _ (twoR_set1 hR hSi rfl _ e1))
    ·have hSi := (da ho hpre 7)
     obtain ⟨q, e1, e2, old, e3, e4, e5⟩ := h7 hSi
     exact st_storeO (og ho) 85 (.tmp 10) (.tmp 25) (oo ho) (ri 7 e1) _ old 85 (ri 5 (h5 (da ho hpre 5))) e3 (by kernel_rfl) e4 (by simp [Value.oneCell']) (hK _ _ (twoR_set2 hR hSi rfl _ e1))
    ·omega
   case hend =>
    intro S f9 W hS hR
    obtain ⟨hC, _, _, _, _, _, _, h6, h7, h8⟩ := hR
    obtain ⟨q1, e1, l1, o1, hO1, _, z1⟩ := h6 (hS 6 (by decide))
    obtain ⟨q2, e2, l2, o2, hO2, _, z2⟩ := h7 (hS 7 (by decide))
    replace z1 := z1 (hS 8 (by decide))
    replace z2 := z2 (hS 9 (by decide))
    subst z1 z2
    clear h6 h7 h8
    simp only [putL, Act.put, List.setIfInBounds_toArray, List.set_cons_succ, List.set_cons_zero]
    rw [e1, e2]
    clear e1 e2 hS
    generalize f9 0 = u0, f9 1 = u1, f9 2 = u2, f9 3 = u3, f9 4 = u4, f9 5 = u5, f9 8 = u8, f9 9 = u9
    have hbW := below_call hbr hbr.size hC
    have hownW := own_call hown hC
    have hBW := below_call hBr hBr.size hC
    generalize a % F = a0, a / F = a1, b % F = b0, b / F = b1' at *
    clear hAr hcr hlr hbr hown hBr
    have hwf : IntKind.i64.wrap ((b0 : Int) - (a0 : Int)) = df := by rw [← hdf]; exact IntWalk.i64_in _ (by omega)
    have hwg : IntKind.i64.wrap ((a0 : Int) - (b0 : Int)) = -df := by rw [show (a0 : Int) - (b0 : Int) = -df by omega]; exact IntWalk.i64_in _ (by omega)
    have hwr : IntKind.i64.wrap ((b1' : Int) - (a1 : Int)) = dr := by rw [← hdr]; exact IntWalk.i64_in _ (by omega)
    replace hdf := Lib.hid hdf
    replace hdr := Lib.hid hdr
    go_wp2_with fail
    rcases c8 : (dr == sdI bl) with _ | _
    ·rw [c8] at hhit
     have m1 := row_gr hO1
     have m2 := row_gr hO2
     have t1 := call_eq (w := W) (fun W => refForward_any bl W)
     refine wp_region_all (by kernel_rfl) (by kernel_rfl) ?_
     repeat (go_big_quiet_step (first | with_reducible exact t1 _ _ | fail))
     refine wpQuiet_nil ?_
     intro W2 hC2
     clear m1 m2 t1
     have hbW2 := below_call hbW hbW.size hC2
     have hownW2 := own_call hownW hC2
     have hBW2 := below_call hBW hBW.size hC2
     clear hO1 hO2 hwf hwr hwg hC hC2 hbW hownW hBW
     replace hnx := Lib.hid (hnx.trans (if_neg (by rw [hhit]; simp)))
     go_wp2_with fail
     go_roundg (gk - 1)
     case measure => omega
     case rel => exact ⟨b + 1, by omega, ⟨by omega, by go_num, by rw [hnx.out]; exact hownW2, hbW2⟩⟩
    ·rcases c15 : (df == 1) with _ | _
     ·rcases c21 : (-df == 1) with _ | _
      ·rw [c8, c15, c21] at hhit
       have m1 := row_gr hO1
       have m2 := row_gr hO2
       have t1 := call_eq (w := W) (fun W => refForward_any bl W)
       refine wp_region_all (by kernel_rfl) (by kernel_rfl) ?_
       repeat (go_big_quiet_step (first | with_reducible exact t1 _ _ | fail))
       refine wpQuiet_nil ?_
       intro W2 hC2
       clear m1 m2 t1
       have hbW2 := below_call hbW hbW.size hC2
       have hownW2 := own_call hownW hC2
       have hBW2 := below_call hBW hBW.size hC2
       clear hO1 hO2 hwf hwr hwg hC hC2 hbW hownW hBW
       replace hnx := Lib.hid (hnx.trans (if_neg (by rw [hhit]; simp)))
       go_wp2_with fail
       go_roundg (gk - 1)
       case measure => omega
       case rel => exact ⟨b + 1, by omega, ⟨by omega, by go_num, by rw [hnx.out]; exact hownW2, hbW2⟩⟩
      ·rw [c8, c15, c21] at hhit
       have m1 := row_gr hO1
       have m2 := row_gr hO2
       have t1 := call_eq (w := W) (fun W => refForward_any bl W)
       refine wp_region_all (by kernel_rfl) (by kernel_rfl) ?_
       repeat (go_big_quiet_step (first | with_reducible exact t1 _ _ | fail))
       refine wpQuiet_nil ?_
       intro W2 hC2
       clear m1 m2 t1
       have hbW2 := below_call hbW hbW.size hC2
       have hownW2 := own_call hownW hC2
       have hBW2 := below_call hBW hBW.size hC2
       clear hO1 hO2 hwf hwr hwg hC hC2 hbW hownW hBW
       replace hnx := Lib.hid (hnx.trans (if_pos (by rw [hhit]; simp)))
       go_wp2_with (at_builtin; refine wpList_push_at rfl (.tmp 50) (.tmp 52) 136 rfl w1.heap.size 3 i3 (.int .i64 0) 8 Tryz.underlying136 hi3 hz3 hs3 hy3 rfl _ (pawnL F bl a b).length ((pawnL F bl a b).map (.int .i64)) rfl hownW2 1 [.int .i64 (b : Int)] rfl (by intro u hu; simp at hu; subst hu; rfl) _ rfl rfl (by omega) hbW2.size ?_)
       intro v' w9 hown9 hg9 _
       have hb9 := (hbW2.alloc hbW2.size (.cells #[.int .i64 (b : Int)] 3)).grown hg9 (Nat.le_trans hbW2.size (by simp)) (fun j e => (hownW2.lt j e).1)
       replace hown9 : w9.ownsRow w1.heap.size 3 1 v' (pawnL F bl a (b + 1)).length ((pawnL F bl a (b + 1)).map (.int .i64)) := by rw [hnx.out]; simpa using hown9
       clear hownW2 hg9
       go_wp2_with fail
       go_roundg (gk - 1)
       case measure => omega
       case rel => exact ⟨b + 1, by omega, ⟨by omega, by go_num, hown9, hb9⟩⟩
     ·rw [c8, c15] at hhit
      have m1 := row_gr hO1
      have m2 := row_gr hO2
      have t1 := call_eq (w := W) (fun W => refForward_any bl W)
      refine wp_region_all (by kernel_rfl) (by kernel_rfl) ?_
      repeat (go_big_quiet_step (first | with_reducible exact t1 _ _ | fail))
      refine wpQuiet_nil ?_
      intro W2 hC2
      clear m1 m2 t1
      have hbW2 := below_call hbW hbW.size hC2
      have hownW2 := own_call hownW hC2
      have hBW2 := below_call hBW hBW.size hC2
      clear hO1 hO2 hwf hwr hwg hC hC2 hbW hownW hBW
      replace hnx := Lib.hid (hnx.trans (if_pos (by rw [hhit]; simp)))
      go_wp2_with (at_builtin; refine wpList_push_at rfl (.tmp 50) (.tmp 52) 136 rfl w1.heap.size 3 i3 (.int .i64 0) 8 Tryz.underlying136 hi3 hz3 hs3 hy3 rfl _ (pawnL F bl a b).length ((pawnL F bl a b).map (.int .i64)) rfl hownW2 1 [.int .i64 (b : Int)] rfl (by intro u hu; simp at hu; subst hu; rfl) _ rfl rfl (by omega) hbW2.size ?_)
      intro v' w9 hown9 hg9 _
      have hb9 := (hbW2.alloc hbW2.size (.cells #[.int .i64 (b : Int)] 3)).grown hg9 (Nat.le_trans hbW2.size (by simp)) (fun j e => (hownW2.lt j e).1)
      replace hown9 : w9.ownsRow w1.heap.size 3 1 v' (pawnL F bl a (b + 1)).length ((pawnL F bl a (b + 1)).map (.int .i64)) := by rw [hnx.out]; simpa using hown9
      clear hownW2 hg9
      go_wp2_with fail
      go_roundg (gk - 1)
      case measure => omega
      case rel => exact ⟨b + 1, by omega, ⟨by omega, by go_num, hown9, hb9⟩⟩
  ·have hii : ¬ (b : Int) < N := by omega
   obtain rfl : b = N := by omega
   go_wp2_with fail
   go_ret
   exact ⟨⟨_, rfl, own_mono hown hB.size⟩, hBr⟩
end Go.Proofs.YtefmplccbkmalaaGreatDoor
namespace Go.Proofs.YtefmplccbkmalaaGreatDoor
open Go.RowKit

def vOrL (base : Nat) (vals : Nat → Value) (ol : Nat → Option (List Int)) (i : Nat) (v : Value) (W : World) : Prop :=
 match ol i with
 | some L => W.ownsRow base 3 1 v L.length (L.map (.int .i64))
 | none => v = vals i
theorem vOrL_stab {base : Nat} {vals : Nat → Value} {ol : Nat → Option (List Int)} {i : Nat} {v : Value} {W W' : World} (hb : Below W.heap.size W W') (h : vOrL base vals ol i v W) : vOrL base vals ol i v W' := by
 unfold vOrL at h ⊢
 cases e : ol i with
 | none => rw [e] at h; exact h
 | some L => rw [e] at h; exact own_call h hb
theorem wp_region_vl {P : Program} {id : Nat} {ops : Array Oper} {Q : Exit → Act → World → Prop} {a : Act} {w : World} (hm : P.follows .mixedOrders = true) (hb : edgesBack .any ops = true)
  (ds : List (Option Tmp)) (hds : ops.toList.map (·.dst) = ds) (hok : dstsOk ds = true) (base : Nat) (vals : Nat → Value) (ol : Nat → Option (List Int))
  (hstep : ∀ i o f W, ops[i]? = some o → i < ops.size → Below w.heap.size w W → (∀ e ∈ o.after, Region.binds .any e = true → vOrL base vals ol e.on (f e.on) W) → ∀ K : Act → World → Prop, (∀ u W', Below W.heap.size W W' → vOrL base vals ol i u W' → K ((putL ds f 0 a).put o.dst u) W') →
   if Region.wanted o (yielded ops (putL ds f 0 a).tmps) = true then o.wp P (putL ds f 0 a) W K Q else K ((putL ds f 0 a).put o.dst undef) W)
  (hend : ∀ f W, Below w.heap.size w W → (∀ i, i < ops.size → vOrL base vals ol i (f i) W) → Q .normal (putL ds f 0 a) W) : (Code.region id ops true).wp P Q a w := by
 refine wp_region_agL hm hb ds hds hok (fun W => Below w.heap.size w W) (fun W W' => Below W.heap.size W W') (vOrL base vals ol) (fun i v W W' _ h h2 => vOrL_stab h h2) (Below.refl _ _).drew ?_ hend
 intro i o f W ho hi hC hf K hK
 exact hstep i o f W ho hi hC hf K (fun u W' h1 h2 => hK u W' (below_call hC hC.size h1) h1 h2)

theorem or_pow {S n : Nat} (h : S.testBit n = false) : S ||| 2 ^ n = S + 2 ^ n := by
 have h1 : S = 2 ^ n * (S / 2 ^ n) + S % 2 ^ n := (Nat.div_add_mod S (2 ^ n)).symm
 obtain ⟨q, hq⟩ : ∃ q, q = S / 2 ^ n := ⟨_, rfl⟩
 obtain ⟨m, hm⟩ : ∃ m, m = S % 2 ^ n := ⟨_, rfl⟩
 have hml : m < 2 ^ n := by rw [hm]; exact Nat.mod_lt _ (Nat.two_pow_pos n)
 rw [← hq, ← hm] at h1
 have hq2 : q % 2 = 0 := by
  rw [Nat.testBit_eq_decide_div_mod_eq, ← hq] at h
  simp at h
  omega
 obtain ⟨k, hk⟩ : ∃ k, q = 2 * k := ⟨q / 2, by omega⟩
 have e1 : S = 2 ^ (n + 1) * k + m := by rw [h1, hk, Nat.pow_succ, Nat.mul_assoc]
 have hm1 : m < 2 ^ (n + 1) := Nat.lt_of_lt_of_le hml (Nat.pow_le_pow_right (by decide) (by omega))
 have hm2 : 2 ^ n + m < 2 ^ (n + 1) := by rw [Nat.pow_succ]; omega
 have e2 : 2 ^ n * 1 + m = 2 ^ n * 1 ||| m := Nat.two_pow_add_eq_or_of_lt hml 1
 have e3 : 2 ^ (n + 1) * k + m = 2 ^ (n + 1) * k ||| m := Nat.two_pow_add_eq_or_of_lt hm1 k
 have e4 : 2 ^ (n + 1) * k + (2 ^ n + m) = 2 ^ (n + 1) * k ||| (2 ^ n + m) := Nat.two_pow_add_eq_or_of_lt hm2 k
 rw [Nat.mul_one] at e2
 rw [e1]
 rw [show 2 ^ (n + 1) * k + m + 2 ^ n = 2 ^ (n + 1) * k + (2 ^ n + m) by omega, e4, e3, e2, Nat.or_assoc, Nat.or_comm m]
def ofL (L : List Int) : Nat → Nat
 | 0 => 0
 | k + 1 => if hasS (ofL L k) (L[k]?.getD 0) then ofL L k else ofL L k ||| 2 ^ (L[k]?.getD 0).toNat
def sqL (L : List Int) : Prop := ∀ k, k < L.length → 0 ≤ L[k]?.getD 0 ∧ L[k]?.getD 0 < 64
theorem ofL_lt {L : List Int} (h : sqL L) : ∀ k, k ≤ L.length → ofL L k < 2 ^ 64 := by
 intro k
 induction k with
 | zero => intro _; simp [ofL]
 | succ k ih =>
  intro hk
  have h1 := h k (by omega)
  have h2 := ih (by omega)
  simp only [ofL]
  split
  ·exact h2
  ·exact Nat.or_lt_two_pow h2 (Nat.pow_lt_pow_right (by decide) (by omega))
theorem ofL_bit {L : List Int} (h : sqL L) (i : Nat) : ∀ k, k ≤ L.length → ((ofL L k).testBit i = true ↔ ∃ j, j < k ∧ L[j]?.getD 0 = i) := by
 intro k
 induction k with
 | zero => intro _; simp [ofL]
 | succ k ih =>
  intro hk
  obtain ⟨h1, h2⟩ := h k (by omega)
  have ih := ih (by omega)
  obtain ⟨n, hn⟩ : ∃ n : Nat, L[k]?.getD 0 = n := ⟨(L[k]?.getD 0).toNat, by omega⟩
  simp only [ofL, hn]
  rw [hasS_nat _ _ (by omega)]
  have hs : (∃ j, j < k + 1 ∧ L[j]?.getD 0 = i) ↔ ((∃ j, j < k ∧ L[j]?.getD 0 = i) ∨ n = i) := by
   constructor
   ·rintro ⟨j, hj, e⟩
    by_cases hjk : j = k
    ·subst hjk; right; rw [hn] at e; omega
    ·left; exact ⟨j, by omega, e⟩
   ·rintro (⟨j, hj, e⟩ | e)
    ·exact ⟨j, by omega, e⟩
    ·exact ⟨k, by omega, by rw [hn, e]⟩
  rw [hs]
  by_cases hb : (ofL L k).testBit n = true
  ·rw [if_pos hb, ih]
   constructor
   ·exact .inl
   ·rintro (h | h)
    ·exact h
    ·rw [← ih, ← h]; exact hb
  ·rw [if_neg hb, Nat.testBit_or, Nat.testBit_two_pow, Bool.or_eq_true, ih, Int.toNat_natCast]
   simp
theorem u64_wrap {n : Nat} (h : n < 2 ^ 64) : IntKind.u64.wrap ((n : Nat) : Int) = n := by
 simp only [IntKind.wrap, IntKind.bits, IntKind.signed]
 simp
 omega
theorem refOfL_any (p : Option Addr) (c : Nat) (L : List Int) (w : World) (hx : Arr .i64 w p L) (hl : L.length ≤ 1000) (hs : sqL L) :
  Calls Tryz.prog 189 #[.slice p L.length c] w fun e w' => e = .returned (.int .u64 (ofL L L.length : Nat)) ∧ Below w.heap.size w w' := by
 go_enter Tryz.func189, Tryz.ntmps189
 go_wp2_with fail
 go_loopg [3, 4] 1001 (fun q sv iv wr => ∃ i : Nat, q + i = 1001 ∧ i ≤ L.length ∧ iv = .int .i64 i ∧ sv = .int .u64 (ofL L i : Nat) ∧ Below w.heap.size w wr)
 case atStart => exact ⟨0, rfl, Nat.zero_le _, rfl, rfl, Below.refl _ _⟩
 case round =>
  obtain ⟨i, hq, hi, rfl, rfl, hb⟩ := hrel
  by_cases hlt : i < L.length
  ·have hii : (i : Int) < L.length := by omega
   obtain ⟨b, o, rfl, hbl, hc⟩ := (hx.call hb).at hlt
   have hci := hc i hlt
   obtain ⟨h1, h2⟩ := hs i hlt
   obtain ⟨n, hn⟩ : ∃ n : Nat, L[i]?.getD 0 = n := ⟨(L[i]?.getD 0).toNat, by omega⟩
   have hlt64 := ofL_lt hs i (by omega)
   have hnx : ofL L (i + 1) = if hasS (ofL L i) (L[i]?.getD 0) then ofL L i else ofL L i ||| 2 ^ (L[i]?.getD 0).toNat := rfl
   rw [hn] at hci h1 h2 hnx
   replace hn := Lib.hid hn
   clear hc
   generalize ofL L i = S at hlt64 hnx ⊢
   go_wp2_with fail
   refine (refHas_any S n _).mono ?_
   rintro e w2 ⟨rfl, rfl⟩
   rcases hyx : hasS S n with _ | _
   ·have hnb : S.testBit n = false := by rw [← hasS_nat S n (by omega)]; exact hyx
    have hsum := or_pow hnb
    have e1 : S + 2 ^ n < 2 ^ 64 := by rw [← hsum]; exact Nat.or_lt_two_pow hlt64 (Nat.pow_lt_pow_right (by decide) (by omega))
    rw [hyx, Int.toNat_natCast] at hnx
    replace hnx : Hid (ofL L (i + 1) = S + 2 ^ n) := Lib.hid (by rw [hnx, ← hsum]; rfl)
    replace hsum := Lib.hid hsum
    have hnn : n < 64 := by omega
    go_wp2_with fail
    go_roundg (gk - 1)
    case measure => omega
    case rel =>
     refine ⟨i + 1, by omega, by omega, by go_num, ?_, hb⟩
     rw [u64_pow hnn, hnx.out, ← Int.natCast_add, u64_wrap e1]
   ·rw [hyx] at hnx
    replace hnx : Hid (ofL L (i + 1) = S) := Lib.hid hnx
    go_wp2_with fail
    go_roundg (gk - 1)
    case measure => omega
    case rel => exact ⟨i + 1, by omega, by omega, by go_num, by rw [hnx.out], hb⟩
  ·have hii : ¬ (i : Int) < L.length := by omega
   obtain rfl : i = L.length := by omega
   go_wp2_with fail
   go_ret
   exact ⟨rfl, hb⟩
theorem own_arr0 {W : World} {base : Nat} {t : TypeId} {v : Value} {k : IntKind} {xs : List Int} (h : W.ownsRow base t 1 v xs.length (xs.map (.int k))) : ∃ p c, v = .slice p xs.length c ∧ xs.length ≤ c ∧ Arr k W p xs ∧ (p = none → c = 0) := by
 obtain ⟨p, c, e, hc, hA⟩ := own_arr h
 refine ⟨p, c, e, hc, hA, fun hp => ?_⟩
 rcases h.2 with ⟨h1, _⟩ | ⟨g, cap, cur, h1, _⟩
 ·rw [e] at h1; injection h1
 ·rw [e] at h1; injection h1 with h2; rw [hp] at h2; cases h2
section ops
variable {P : Program} {o : Oper} {a : Act} {w : World} {K : Act → World → Prop} {Q : Exit → Act → World → Prop} {t : Nat → Option Bool} {X : Prop}
theorem st_appendOA (hg : o.guard = none) (s x : Operand) (ty : TypeId) (ho : o.op = .call { callee := .builtin .append, args := #[s, x], argTypes := #[ty, ty] })
  (base : Nat) (e : TypeId) (i : TypeInfo) (z : Value) (bytes : Nat) (ht : P.underlying ty = some (.slice e)) (hi : P.info? e = some i) (hz : i.zero = some z)
  (hsize : i.size = 1) (hby : i.bytes = bytes) (hzs : z.cells.size = 1) (k : IntKind) {p : Option Addr} {c : Nat} {xs : List Int} {v : Value} {n : Nat} {ys : List Value}
  (hs : a.eval s = v) (hown : w.ownsRow base e 1 v n ys) (hx : a.eval x = .slice p xs.length c) (hp : p = none → c = 0) (hA : Arr k w p xs)
  (hbytes : (n + xs.length) * (bytes + 1) ≤ 140737488355328) (hbase : base ≤ w.heap.size)
  (h : ∀ v' w', w'.ownsRow base e 1 v' (n + xs.length) (ys ++ xs.map (.int k)) → Below base w w' → K (a.put o.dst v') w') : if Region.wanted o t = true then o.wp P a w K Q else X := by
 rcases p with _ | ad
 ·rcases hA with rfl | ⟨b, o', e', _⟩
  ·rw [hp rfl] at hx
   refine st_wp hg ?_
   have hr := run_append_owned_none (P := P) (w := w) base ty o.type e i 1 ht hi v n ys hown
   unfold Oper.wp execOp
   have hx' : a.eval x = .slice none 0 0 := hx
   simp only [ho, resolve, invoke, builtin, Sem.run_bind, Sem.run_pure, Result.andThen_ok, List.map_toArray, List.map_cons, List.map_nil, hs, hx', hr]
   exact h _ _ (by simpa using hown) (Below.refl _ _)
  ·cases e'
 ·refine st_append hg s x ty ho base e i z 1 bytes ht hi hz hsize hby hzs (by decide) v n ys hs hown ad xs.length c (xs.map (.int k)) hx (by simp) ?_ ?_ hbytes hbase ?_
  ·intro j u hu
   have hj : j < xs.length := by have := (List.getElem?_eq_some_iff.1 hu).1; simpa using this
   obtain ⟨b, o', e', hb, hc⟩ := hA.at (i := j) hj
   injection e' with e'
   subst e'
   rw [Addr.add_lit, hc j hj]
   simp [hj] at hu ⊢
   exact hu
  ·intro u hu
   obtain ⟨y, _, rfl⟩ := List.mem_map.1 hu
   rfl
  ·intro v' w' h1 h2 h3
   exact h v' w' h1 ((Below.refl base w).grown h2 hbase (fun j e => (hown.lt j e).1))
end ops
theorem idxs_mem (g : Int → Bool) (xs : List Int) (i : Int) : ∀ k, i ∈ idxs g xs k ↔ ∃ j : Nat, j < k ∧ g (xs[j]?.getD 0) = true ∧ i = j := by
 intro k
 induction k with
 | zero => simp [idxs]
 | succ k ih =>
  simp only [idxs]
  have hs : (∃ j : Nat, j < k + 1 ∧ g (xs[j]?.getD 0) = true ∧ i = j) ↔ ((∃ j : Nat, j < k ∧ g (xs[j]?.getD 0) = true ∧ i = j) ∨ (g (xs[k]?.getD 0) = true ∧ i = k)) := by
   constructor
   ·rintro ⟨j, hj, e⟩
    by_cases hjk : j = k
    ·subst hjk; exact .inr e
    ·exact .inl ⟨j, by omega, e⟩
   ·rintro (⟨j, hj, e⟩ | e)
    ·exact ⟨j, by omega, e⟩
    ·exact ⟨k, by omega, e⟩
  rw [hs]
  split
  ·rename_i h
   rw [List.mem_append, ih]
   simp [h]
  ·rename_i h
   rw [ih]
   simp [h]
theorem sqL_of_mem {L : List Int} (h : ∀ x ∈ L, 0 ≤ x ∧ x < 64) : sqL L := by
 intro k hk
 have : L[k]?.getD 0 = L[k] := by simp [hk]
 rw [this]
 exact h _ (List.getElem_mem hk)
theorem idxs_sq (g : Int → Bool) (xs : List Int) (hl : xs.length ≤ 64) : ∀ x ∈ idxs g xs xs.length, 0 ≤ x ∧ x < 64 := by
 intro x hx
 rw [idxs_mem] at hx
 obtain ⟨j, hj, _, rfl⟩ := hx
 omega
def sWh (x : Int) : Bool := sgnI x == 1
def sBl (x : Int) : Bool := sgnI x == -1
theorem occ_eq (xs : List Int) (hl : xs.length ≤ 64) : ofL (idxs sWh xs xs.length ++ idxs sBl xs xs.length) (idxs sWh xs xs.length ++ idxs sBl xs xs.length).length = setW gNon xs xs.length := by
 have hs : sqL (idxs sWh xs xs.length ++ idxs sBl xs xs.length) := sqL_of_mem (by
  intro x hx
  rcases List.mem_append.1 hx with h | h
  ·exact idxs_sq _ _ hl x h
  ·exact idxs_sq _ _ hl x h)
 apply Nat.eq_of_testBit_eq
 intro i
 rw [setW_bit, Bool.eq_iff_iff, ofL_bit hs i _ (Nat.le_refl _)]
 have h1 : (∃ j, j < (idxs sWh xs xs.length ++ idxs sBl xs xs.length).length ∧ (idxs sWh xs xs.length ++ idxs sBl xs xs.length)[j]?.getD 0 = (i : Int)) ↔ (i : Int) ∈ idxs sWh xs xs.length ++ idxs sBl xs xs.length := by
  rw [List.mem_iff_getElem]
  constructor
  ·rintro ⟨j, hj, e⟩; rw [List.getElem?_eq_getElem hj] at e; exact ⟨j, hj, e⟩
  ·rintro ⟨j, hj, e⟩; exact ⟨j, hj, by rw [List.getElem?_eq_getElem hj]; exact e⟩
 rw [h1, List.mem_append, idxs_mem, idxs_mem]
 simp only [Bool.and_eq_true, decide_eq_true_eq]
 have h2 : ∀ x, gNon x = true ↔ (sWh x = true ∨ sBl x = true) := by
  intro x
  unfold gNon sWh sBl sgnI
  by_cases h3 : x < 0
  ·have : x ≠ 0 := by omega
   simp [h3, this]
  ·by_cases h4 : 0 < x
   ·have : x ≠ 0 := by omega
    simp [h3, h4, this]
   ·have : x = 0 := by omega
    simp [this]
 rw [h2]
 constructor
 ·rintro (⟨j, hj, h, e⟩ | ⟨j, hj, h, e⟩)
  ·have : i = j := by omega
   subst this; exact ⟨hj, .inl h⟩
  ·have : i = j := by omega
   subst this; exact ⟨hj, .inr h⟩
 ·rintro ⟨hi, h | h⟩
  ·exact .inl ⟨i, hi, h, rfl⟩
  ·exact .inr ⟨i, hi, h, rfl⟩
def occR (w1 : World) (B : Array Value) (L1 L2 : List Int) (V : Nat) (S : Nat → Bool) (f : Nat → Value) (W : World) : Prop :=
 Below w1.heap.size w1 W ∧ (S 0 = true → f 0 = .agg B) ∧ (S 3 = true → f 3 = .agg B) ∧
 (S 5 = false → (S 1 = true → W.ownsRow w1.heap.size 3 1 (f 1) L1.length (L1.map (.int .i64))) ∧ (S 2 = true → W.ownsRow w1.heap.size 3 1 (f 2) L1.length (L1.map (.int .i64))) ∧ (S 4 = true → W.ownsRow w1.heap.size 3 1 (f 4) L2.length (L2.map (.int .i64)))) ∧
 (S 5 = true → W.ownsRow w1.heap.size 3 1 (f 5) (L1 ++ L2).length ((L1 ++ L2).map (.int .i64))) ∧ (S 6 = true → f 6 = .int .u64 (V : Nat)) ∧ (S 7 = true → f 7 = .int .u64 (V : Nat))
set_option maxRecDepth 100000 in
theorem refOccupied_any (f r : Int) (p : Option Addr) (c : Nat) (xs : List Int) (w : World) (hx : Arr .i8 w p xs) (hl : xs.length ≤ 64) :
  Calls Tryz.prog 159 #[.agg (bdCs f r p xs.length c).toArray] w fun e w' => e = .returned (.int .u64 (setW gNon xs xs.length : Nat)) ∧ Below w.heap.size w w' := by
 obtain ⟨i3, hi3, hz3, hs3, hy3⟩ := info_parts Tryz.info3
 have hb := below_box w (.cells (bdCs f r p xs.length c).toArray 68)
 have hA := HasO.new w (.cells (bdCs f r p xs.length c).toArray 68)
 have hoc := occ_eq xs hl
 have hl1 := idxs_len sWh xs xs.length
 have hl2 := idxs_len sBl xs xs.length
 have hq1 : ∀ x ∈ idxs sWh xs xs.length ++ idxs sBl xs xs.length, 0 ≤ x ∧ x < 64 := by
  intro x hx
  rcases List.mem_append.1 hx with h | h
  iterate 2 exact idxs_sq _ _ hl x h
 have hSd1 := fun W h => refSideL_any f r 1 p c xs W h hl
 have hSd2 := fun W h => refSideL_any f r (-1) p c xs W h hl
 have e1 : (fun z => sgnI z == 1) = sWh := rfl
 have e2 : (fun z => sgnI z == -1) = sBl := rfl
 rw [e1] at hSd1
 rw [e2] at hSd2
 generalize idxs sWh xs xs.length = L1, idxs sBl xs xs.length = L2 at *
 generalize setW gNon xs xs.length = V at *
 go_enter Tryz.func159, Tryz.ntmps159
 go_wp2_with fail
 show Code.wp _ _ _ _ (w.alloc (.cells (bdCs f r p xs.length c).toArray 68))
 obtain ⟨w1, hw1⟩ : ∃ x, x = w.alloc (.cells (bdCs f r p xs.length c).toArray 68) := ⟨_, rfl⟩
 have hx1 := hx.call hb
 rw [← hw1] at hA hb hx1 ⊢
 clear hw1 hx
 refine wp_region_relL (by kernel_rfl) (by kernel_rfl) [some 3, some 4, some 5, some 6, some 7, some 8, some 9, some 2] (by rfl) (by rfl) (occR w1 (bdCs f r p xs.length c).toArray L1 L2 V) ?hcong ?h0 ?hstep ?hend
 case hcong =>
  intro S S' f W h hR
  unfold occR at hR ⊢
  rw [← h 0 (by decide), ← h 1 (by decide), ← h 2 (by decide), ← h 3 (by decide), ← h 4 (by decide), ← h 5 (by decide), ← h 6 (by decide), ← h 7 (by decide)]
  exact hR
 case h0 =>
  intro f
  exact ⟨(Below.refl _ _).drew, (fun h => by cases h), (fun h => by cases h), fun _ => ⟨(fun h => by cases h), (fun h => by cases h), (fun h => by cases h)⟩, (fun h => by cases h), (fun h => by cases h), (fun h => by cases h)⟩
 case hstep =>
  intro S i9 o9 f9 W ho hi hSj hpre hcl hR K hK
  have hi : i9 < 8 := hi
  obtain ⟨hC, h0, h3, h124, h5, h6, h7⟩ := id hR
  have hsz := hA.call hC
  have hxW := hx1.call hC
  have hkeep : ∀ {W' : World}, Below W.heap.size W W' → (S 5 = true → W'.ownsRow w1.heap.size 3 1 (f9 5) (L1 ++ L2).length ((L1 ++ L2).map (.int .i64))) := fun hb h => own_call (h5 h) hb
  have hno5 : ∀ j, j < 5 → S j = false → (j = 2 ∨ j = 4) → S 5 = false := by
   intro j _ hj hjj
   rcases h : S 5 with _ | _
   ·rfl
   ·rcases hjj with rfl | rfl
    ·have := hcl 5 _ h rfl ⟨2, .data⟩ (by simp) rfl
     rw [hj] at this; cases this
    ·have := hcl 5 _ h rfl ⟨4, .data⟩ (by simp) rfl
     rw [hj] at this; cases this
  rcases i9 with _ | _ | _ | _ | _ | _ | _ | _ | i9
  ·exact st_loadA (og ho) 68 (.tmp 1) (oo ho) (rd_out rfl rfl) (bdCs f r p xs.length c) (by kernel_rfl) (fun j v hv => by rw [Nat.zero_add, hsz.cells j]; simpa using hv) (hK _ _ ⟨hC, fun _ => rfl, h3, h124, h5, h6, h7⟩)
  ·refine st_call2 (og ho) 158 (.tmp 3) (.const (.int .i64 1)) #[68, 3] (oo ho) (ri 0 (h0 (da ho hpre 0))) rfl (fun _ _ => rfl) (hSd1 W hxW) ?_ (by rintro ch w9 ⟨⟨_, h9, _⟩, _⟩; cases h9) (by rintro w9 ⟨⟨_, h9, _⟩, _⟩; cases h9)
   rintro u w9 ⟨⟨v9, h9, hown9⟩, hb9⟩
   injection h9 with h9
   subst h9
   refine hK _ _ ⟨below_call hC hC.size hb9, h0, h3, fun h => ?_, fun h => hkeep hb9 h, h6, h7⟩
   have ⟨_, g2, g4⟩ := h124 h
   exact ⟨fun _ => own_mono hown9 hC.size, fun h => own_call (g2 h) hb9, fun h => own_call (g4 h) hb9⟩
  ·have hS5 := hno5 2 (by decide) hSj (.inl rfl)
   obtain ⟨g1, g2, g4⟩ := h124 hS5
   obtain ⟨p1, c1, q1, _, hA1, hp1⟩ := own_arr0 (g1 (da ho hpre 1))
   refine st_appendArr (og ho) (.const (.slice none 0 0)) (.tmp 4) 136 (oo ho) w1.heap.size 3 i3 (.int .i64 0) 8 Tryz.underlying136 hi3 hz3 hs3 hy3 rfl .i64 rfl (ri 1 q1) hp1 hA1 (by omega) hC.size ?_
   intro v' w' hown' hb' _
   refine hK _ _ ⟨below_call hC hC.size hb', h0, h3, fun _ => ⟨fun h => own_call (g1 h) hb', fun _ => hown', fun h => own_call (g4 h) hb'⟩, fun h => ?_, h6, h7⟩
   have h : S 5 = true := h
   rw [hS5] at h; cases h
  ·exact st_loadA (og ho) 68 (.tmp 1) (oo ho) (rd_out rfl rfl) (bdCs f r p xs.length c) (by kernel_rfl) (fun j v hv => by rw [Nat.zero_add, hsz.cells j]; simpa using hv) (hK _ _ ⟨hC, h0, fun _ => rfl, h124, h5, h6, h7⟩)
  ·refine st_call2 (og ho) 158 (.tmp 6) (.const (.int .i64 (-1))) #[68, 3] (oo ho) (ri 3 (h3 (da ho hpre 3))) rfl (fun _ _ => rfl) (hSd2 W hxW) ?_ (by rintro ch w9 ⟨⟨_, h9, _⟩, _⟩; cases h9) (by rintro w9 ⟨⟨_, h9, _⟩, _⟩; cases h9)
   rintro u w9 ⟨⟨v9, h9, hown9⟩, hb9⟩
   injection h9 with h9
   subst h9
   refine hK _ _ ⟨below_call hC hC.size hb9, h0, h3, fun h => ?_, fun h => hkeep hb9 h, h6, h7⟩
   have ⟨g1, g2, _⟩ := h124 h
   exact ⟨fun h => own_call (g1 h) hb9, fun h => own_call (g2 h) hb9, fun _ => own_mono hown9 hC.size⟩
  ·obtain ⟨_, g2, g4⟩ := h124 hSj
   obtain ⟨p1, c1, q1, _, hA1, hp1⟩ := own_arr0 (g4 (da ho hpre 4))
   refine st_appendOA (og ho) (.tmp 5) (.tmp 7) 136 (oo ho) w1.heap.size 3 i3 (.int .i64 0) 8 Tryz.underlying136 hi3 hz3 hs3 hy3 rfl .i64 (ri 2 rfl) (g2 (da ho hpre 2)) (ri 4 q1) hp1 hA1 (by omega) hC.size ?_
   intro v' w' hown' hb'
   exact hK _ _ ⟨hC.trans hb', h0, h3, (fun h => by cases h), fun _ => by simpa using hown', h6, h7⟩
  ·obtain ⟨p1, c1, q1, _, hA1, _⟩ := own_arr0 (h5 (da ho hpre 5))
   refine st_call1 (og ho) 189 (.tmp 8) #[136] (oo ho) (ri 5 q1) (fun _ _ => rfl) (refOfL_any p1 c1 (L1 ++ L2) W hA1 (by simp; omega) (sqL_of_mem hq1)) ?_ (by rintro ch w9 ⟨h9, _⟩; cases h9) (by rintro w9 ⟨h9, _⟩; cases h9)
   rintro u w9 ⟨h9, hb9⟩
   injection h9 with h9
   subst h9
   refine hK _ _ ⟨below_call hC hC.size hb9, h0, h3, fun h => ?_, fun h => hkeep hb9 h, fun _ => by rw [hoc]; rfl, h7⟩
   have ⟨g1, g2, g4⟩ := h124 h
   exact ⟨fun h => own_call (g1 h) hb9, fun h => own_call (g2 h) hb9, fun h => own_call (g4 h) hb9⟩
  ·exact st_assign (og ho) (.tmp 9) (oo ho) (ri 6 (h6 (da ho hpre 6))) (hK _ _ ⟨hC, h0, h3, h124, h5, h6, fun _ => rfl⟩)
  ·omega
 case hend =>
  intro S f9 W hS hR
  obtain ⟨hC, h0, h3, h124, h5, h6, h7⟩ := hR
  go_wp2_with fail
  refine bodyPost_ret (results_tmp (fn := Tryz.f159) Tryz.results159 _ _ _) (by rw [putL_defers]) ?_
  refine ⟨?_, below_call hb hb.size hC⟩
  rw [slot_in rfl 7 rfl (by simp) (h7 (hS 7 (by decide)))]
end Go.Proofs.YtefmplccbkmalaaGreatDoor
