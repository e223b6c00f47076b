import Derived.Test.YtnpomigmeieofaaGreatDoorS04
import Derived.Test.YtnpomigmeieofaaGreatDoorS09
set_option maxHeartbeats 12800000
namespace Go.Proofs.YtnpomigmeieofaaGreatDoor
open Go.RowKit

def zeroMen : Men := ⟨0, 0, 0, 0, 0, 0, 0, 0, 0, 0, 0, 0⟩
def parseV (s : List UInt8) : Value := .tuple (match parseC s with | some m => #[.agg m.cs.toArray, .int .i64 0] | none => #[.agg zeroMen.cs.toArray, .int .i64 6])

theorem c1_len (s : List UInt8) : (c1 s).1.length ≤ s.length ∧ (c1 s).2.1.length ≤ s.length := by
 unfold c1 Lib.cut; split
 ·simp; omega
 ·simp
theorem c2_len (s : List UInt8) : (c2 s).1.length ≤ (c1 s).2.1.length ∧ (c2 s).2.1.length ≤ (c1 s).2.1.length := by
 unfold c2 Lib.cut; split
 ·simp; omega
 ·simp
theorem cut1 (s : List UInt8) (w : World) (hs : s.length ≤ 2000000) (hm : MaxOk w) : Calls Tryz.prog 42 #[.string (str s), .string { data := #[32, 75] }] w fun e w' =>
  e = .returned (.tuple #[.string (str (c1 s).1), .string (str (c1 s).2.1), .bool (c1 s).2.2]) ∧ ∃ n, w.drewN n = w' := cut_any s [32, 75] w hs hm
theorem cut2 (s : List UInt8) (w : World) (hs : s.length ≤ 2000000) (hm : MaxOk w) : Calls Tryz.prog 42 #[.string (str (c1 s).2.1), .string { data := #[75] }] w fun e w' =>
  e = .returned (.tuple #[.string (str (c2 s).1), .string (str (c2 s).2.1), .bool (c2 s).2.2]) ∧ ∃ n, w.drewN n = w' := cut_any _ [75] w (Nat.le_trans (c1_len s).2 hs) hm

theorem parseC_bad {s : List UInt8} (h : (c1 s).2.2 = false ∨ (c2 s).2.2 = false ∨ (c1 s).1.length ≠ 3 ∨ 6 < (c1 s).2.1.length) : parseC s = none := by
 unfold parseC
 rw [if_neg]
 rintro ⟨h1, h2, h3, h4, _⟩
 rcases h with h | h | h | h
 ·rw [h] at h1; cases h1
 ·rw [h] at h2; cases h2
 ·exact h h3
 ·omega

def midMen (m : Men) (k : Nat) : Men :=
 ⟨m.f, m.r, if 0 < k then m.w0 else 0, if 1 < k then m.w1 else 0, if 2 < k then m.w2 else 0, if 3 < k then m.w3 else 0, if 4 < k then m.w4 else 0,
  if 0 < k then m.b0 else 0, if 1 < k then m.b1 else 0, if 2 < k then m.b2 else 0, if 3 < k then m.b3 else 0, if 4 < k then m.b4 else 0⟩
theorem midMen_set (m : Men) {k : Nat} (hk : k < 5) : ((midMen m k).cs.toArray.setIfInBounds (2 + k) (.int .i64 (m.sw k))).setIfInBounds (7 + k) (.int .i64 (m.sb k)) = (midMen m (k + 1)).cs.toArray := by
 rcases five hk with rfl | rfl | rfl | rfl | rfl <;> rfl
theorem count_ex (s : List UInt8) {k : Nat} (hk : k < 5) (w : World) (hs : s.length ≤ 2000000) (hm : MaxOk w) : Calls Tryz.prog 43 #[.string (str s), .string (({ data := #[80, 78, 66, 82, 81] } : ByteArray).extract k (k + 1))] w fun e w' =>
  e = .returned (.int .i64 (cnt s k)) ∧ w = w' := by
 rw [pn_cut hk]
 exact count_any1 s _ w hs hm
theorem count_w (s : List UInt8) {k : Nat} (hk : k < 5) (w : World) (hs : (c2 s).1.length ≤ 2000000) (hm : MaxOk w) : Calls Tryz.prog 43 #[.string (str (c2 s).1), .string (({ data := #[80, 78, 66, 82, 81] } : ByteArray).extract k (k + 1))] w fun e w' =>
  e = .returned (.int .i64 ((cand s).sw k)) ∧ w = w' := by
 rw [show (cand s).sw k = cnt (c2 s).1 k from by rcases five hk with rfl | rfl | rfl | rfl | rfl <;> rfl]
 exact count_ex _ hk w hs hm
theorem count_b (s : List UInt8) {k : Nat} (hk : k < 5) (w : World) (hs : (c2 s).2.1.length ≤ 2000000) (hm : MaxOk w) : Calls Tryz.prog 43 #[.string (str (c2 s).2.1), .string (({ data := #[80, 78, 66, 82, 81] } : ByteArray).extract k (k + 1))] w fun e w' =>
  e = .returned (.int .i64 ((cand s).sb k)) ∧ w = w' := by
 rw [show (cand s).sb k = cnt (c2 s).2.1 k from by rcases five hk with rfl | rfl | rfl | rfl | rfl <;> rfl]
 exact count_ex _ hk w hs hm
theorem maxOk_set {w : World} {p : Addr} {u : Value} (h : MaxOk w) (hp : 0 < p.block) : MaxOk (w.setCell p u) := by
 obtain ⟨m, h1, h2⟩ := h
 refine ⟨m, ?_, by simpa using h2⟩
 rw [← h1]
 exact (((Below.refl 1 w).setCell (p := p) (by omega) u).cell (p := ⟨0, 0, none⟩) (by simp))
theorem maxOk_drew {w : World} (h : MaxOk w) : MaxOk w.drew := h
theorem men_one (m : Men) : m.cs.toArray.all (·.oneCell') = true := by simp [Value.oneCell']
def startMen (x y : Int) : Men := ⟨x, y, 0, 0, 0, 0, 0, 0, 0, 0, 0, 0⟩
def r5v (s : ByteArray) (x y : Int) (q : Nat) : Nat → Value
 | 0 => .string s | 1 => .int .u8 x | 2 => .int .i64 x | 3 => .int .i64 (x - 48)
 | 4 => .string s | 5 => .int .u8 y | 6 => .int .i64 y | 7 => .int .i64 (y - 48)
 | 8 => .agg #[.int .i64 (x - 48), .int .i64 (y - 48)] | 9 => .agg (startMen (x - 48) (y - 48)).cs.toArray | 10 => .pointer (some ⟨q, 0, none⟩) | _ => undef
def r5w (w : World) (x y : Int) (S : Nat → Bool) : World :=
 if S 11 then (w.drew.alloc (.cells zeroMen.cs.toArray 26)).setRow w.heap.size (startMen (x - 48) (y - 48)).cs.toArray else if S 10 then w.drew.alloc (.cells zeroMen.cs.toArray 26) else w.drew
theorem r5w_mid {w : World} {x y : Int} {S : Nat → Bool} (h : S 11 = false) (h2 : S 10 = true) : r5w w x y S = w.drew.alloc (.cells zeroMen.cs.toArray 26) := by simp [r5w, h, h2]
theorem r5w_no {w : World} {x y : Int} {S : Nat → Bool} (h : S 11 = false) (h2 : S 10 = false) : r5w w x y S = w.drew := by simp [r5w, h, h2]
theorem r5w_keep {w : World} {x y : Int} {S : Nat → Bool} {i : Nat} (h : i < 10) : r5w w x y (upd S i) = r5w w x y S := by simp [r5w, upd, show ¬ 11 = i by omega, show ¬ 10 = i by omega]
theorem r5w_10 {w : World} {x y : Int} {S : Nat → Bool} (h : S 11 = false) : r5w w x y (upd S 10) = w.drew.alloc (.cells zeroMen.cs.toArray 26) := by simp [r5w, upd, h]
theorem r5w_11 {w : World} {x y : Int} {S : Nat → Bool} : r5w w x y (upd S 11) = (w.drew.alloc (.cells zeroMen.cs.toArray 26)).setRow w.heap.size (startMen (x - 48) (y - 48)).cs.toArray := by simp [r5w, upd]

set_option maxRecDepth 100000 in
theorem parse_any (s : List UInt8) (w : World) (hs : s.length ≤ 2000000) (hm : MaxOk w) :
  Calls Tryz.prog 12 #[.string (str s)] w fun e w' => e = .returned (parseV s) ∧ Below w.heap.size w w' := by
 have hs1 := str_size (c1 s).1
 have hs2 := str_size (c1 s).2.1
 go_enter Tryz.func12, Tryz.ntmps12
 go_wp2_with fail
 have hR := HasO.new w (.cells zeroMen.cs.toArray 26)
 have hb := below_box w (.cells zeroMen.cs.toArray 26)
 have hmx := hm.call hb (by obtain ⟨_, _, h⟩ := hm; exact h)
 refine (cut1 s _ hs hmx).mono ?_
 rintro e w1 ⟨rfl, n1, rfl⟩
 go_wp2_with fail
 refine (cut2 s _ hs (MaxOk.call hmx (below_drewN (Below.refl 1 _) n1) (by omega))).mono ?_
 rintro e w2 ⟨rfl, n2, rfl⟩
 have hR2 := (hR.drewN n1).drewN n2
 have hb2 := below_drewN (below_drewN hb n1) n2
 have hmx2 : MaxOk (((w.alloc (.cells zeroMen.cs.toArray 26)).drewN n1).drewN n2) := MaxOk.call hmx (below_drewN (below_drewN (Below.refl 1 _) n1) n2) (by omega)
 clear hR hb hmx
 generalize ((w.alloc (.cells zeroMen.cs.toArray 26)).drewN n1).drewN n2 = wq at *
 have hi26 : Hid ((Tryz.prog.info? 26).map (·.size) = some zeroMen.cs.toArray.size) := Lib.hid (by kernel_rfl)
 have hone : Hid (zeroMen.cs.toArray.all (·.oneCell') = true) := Lib.hid (by kernel_rfl)
 by_cases hbad : (c1 s).2.2 = false ∨ (c2 s).2.2 = false ∨ (c1 s).1.length ≠ 3 ∨ 6 < (c1 s).2.1.length
 ·have hv := Lib.hid (parseC_bad hbad)
  have hfin : ∀ w', Below w.heap.size w w' → (Ending.returned (.tuple #[.agg zeroMen.cs.toArray, .int .i64 6]) = Ending.returned (parseV s) ∧ Below w.heap.size w w') := fun w' h => ⟨ret_v (by unfold parseV; rw [hv.out]), h⟩
  replace hfin := Lib.hid hfin
  rcases h1 : (c1 s).2.2 with _ | _
  ·go_wp2_with (with_reducible refine wpList_storeAgg rfl 26 (.tmp 2) (.tmp 40) rfl w.heap.size zeroMen.cs.toArray ?_ ?_ 26 _ hR2 ?_ ?_ ?_ ?_)
   ·rfl
   ·rfl
   ·exact hi26.out
   ·rfl
   ·exact hone.out
   exact bodyPost_ret (results_ct (fn := Tryz.f12) Tryz.results12 rfl (setRow_hasO hR2) (by kernel_rfl) hi26.out rfl) rfl (hfin.out _ (setRow_below hb2 (Nat.le_refl _) hb2.size))
  ·rcases h2 : (c2 s).2.2 with _ | _
   ·go_wp2_with (with_reducible refine wpList_storeAgg rfl 26 (.tmp 2) (.tmp 40) rfl w.heap.size zeroMen.cs.toArray ?_ ?_ 26 _ hR2 ?_ ?_ ?_ ?_)
    ·rfl
    ·rfl
    ·exact hi26.out
    ·rfl
    ·exact hone.out
    exact bodyPost_ret (results_ct (fn := Tryz.f12) Tryz.results12 rfl (setRow_hasO hR2) (by kernel_rfl) hi26.out rfl) rfl (hfin.out _ (setRow_below hb2 (Nat.le_refl _) hb2.size))
   ·by_cases h3 : (c1 s).1.length = 3
    ·have h4 : 6 < (c1 s).2.1.length := by
      rcases hbad with h | h | h | h
      ·rw [h1] at h; cases h
      ·rw [h2] at h; cases h
      ·exact absurd h3 h
      ·exact h
     have h3' : ((((c1 s).1.length : Nat) : Int) == 3) = true := by simp [h3]
     have h3'' : ((((c1 s).1.length : Nat) : Int) != 3) = false := by simp [h3]
     replace h3 := Lib.hid h3
     clear hbad
     go_wp2_with (with_reducible refine wpList_storeAgg rfl 26 (.tmp 2) (.tmp 40) rfl w.heap.size zeroMen.cs.toArray ?_ ?_ 26 _ hR2 ?_ ?_ ?_ ?_)
     ·rfl
     ·rfl
     ·exact hi26.out
     ·rfl
     ·exact hone.out
     exact bodyPost_ret (results_ct (fn := Tryz.f12) Tryz.results12 rfl (setRow_hasO hR2) (by kernel_rfl) hi26.out rfl) rfl (hfin.out _ (setRow_below hb2 (Nat.le_refl _) hb2.size))
    ·have h3' : ((((c1 s).1.length : Nat) : Int) == 3) = false := by simpa using (by omega : (((c1 s).1.length : Nat) : Int) ≠ 3)
     have h3'' : ((((c1 s).1.length : Nat) : Int) != 3) = true := by simpa using (by omega : (((c1 s).1.length : Nat) : Int) ≠ 3)
     replace h3 := Lib.hid h3
     clear hbad
     go_wp2_with (with_reducible refine wpList_storeAgg rfl 26 (.tmp 2) (.tmp 40) rfl w.heap.size zeroMen.cs.toArray ?_ ?_ 26 _ hR2 ?_ ?_ ?_ ?_)
     ·rfl
     ·rfl
     ·exact hi26.out
     ·rfl
     ·exact hone.out
     exact bodyPost_ret (results_ct (fn := Tryz.f12) Tryz.results12 rfl (setRow_hasO hR2) (by kernel_rfl) hi26.out rfl) rfl (hfin.out _ (setRow_below hb2 (Nat.le_refl _) hb2.size))
 ·have h1 : (c1 s).2.2 = true := by rcases h : (c1 s).2.2 with _ | _; exact absurd (.inl h) hbad; rfl
  have h2 : (c2 s).2.2 = true := by rcases h : (c2 s).2.2 with _ | _; exact absurd (.inr (.inl h)) hbad; rfl
  have h3 : (c1 s).1.length = 3 := Decidable.byContradiction fun h => hbad (.inr (.inr (.inl h)))
  have h4 : (c1 s).2.1.length ≤ 6 := Nat.le_of_not_lt fun h => hbad (.inr (.inr (.inr h)))
  clear hbad
  obtain ⟨a, b, c, habc⟩ : ∃ a b c, (c1 s).1 = [a, b, c] := by
   rcases h : (c1 s).1 with _ | ⟨a, _ | ⟨b, _ | ⟨c, _ | ⟨d, t⟩⟩⟩⟩
   all_goals (rw [h] at h3; simp at h3)
   exact ⟨a, b, c, rfl⟩
  have h3' : (((([a, b, c] : List UInt8).length : Nat) : Int) != 3) = false := by simp
  have h4' : ((c1 s).2.1.length : Int) ≤ 6 := by omega
  rw [habc]
  rw [habc] at hs1
  have hi0 : ∀ W : World, (Instr.index 9 (.string (str [a, b, c])) (.int .i64 0)).run Tryz.prog W = .ok (.int .u8 (a.toNat : Int)) W := fun W => by rfl
  have hi2 : ∀ W : World, (Instr.index 9 (.string (str [a, b, c])) (.int .i64 2)).run Tryz.prog W = .ok (.int .u8 (c.toNat : Int)) W := fun W => by rfl
  have ha : (a.toNat : Int) < 256 := by have := a.toNat_lt; omega
  have hc : (c.toNat : Int) < 256 := by have := c.toNat_lt; omega
  replace hi0 := Lib.hid hi0
  replace hi2 := Lib.hid hi2
  go_wp2_with fail
  refine wp_region_detL (by kernel_rfl) (by kernel_rfl) [some 41, some 42, some 43, some 44, some 45, some 46, some 47, some 48, some 49, some 50, some 10, none] (by rfl) (by rfl) (r5v (str [a, b, c]) a.toNat c.toNat wq.heap.size) (r5w wq a.toNat c.toNat) (fun S S' h => by simp only [r5w, h 10 (by decide), h 11 (by decide)]) rfl ?hstep ?hend
  case hstep =>
   have e1 : IntKind.i64.wrap (a.toNat : Int) = a.toNat := IntWalk.i64_in _ (by omega)
   have e2 : IntKind.i64.wrap (c.toNat : Int) = c.toNat := IntWalk.i64_in _ (by omega)
   have e3 : IntKind.i64.wrap ((a.toNat : Int) - 48) = a.toNat - 48 := IntWalk.i64_in _ (by omega)
   have e4 : IntKind.i64.wrap ((c.toNat : Int) - 48) = c.toNat - 48 := IntWalk.i64_in _ (by omega)
   intro S i o f ho hi hSi hpre hcl hf K hK
   have hi : i < 12 := hi
   rcases (by omega : i = 0 ∨ i = 1 ∨ i = 2 ∨ i = 3 ∨ i = 4 ∨ i = 5 ∨ i = 6 ∨ i = 7 ∨ i = 8 ∨ i = 9 ∨ i = 10 ∨ i = 11) with rfl | rfl | rfl | rfl | rfl | rfl | rfl | rfl | rfl | rfl | rfl | rfl
   all_goals (injection ho with ho; subst ho)
   all_goals (simp [Region.binds] at hpre hf)
   all_goals (simp only [putL] at hK ⊢)
   all_goals (try rw [r5w_keep (by decide)] at hK)
   all_goals (simp only [r5v] at hK)
   all_goals (try simp only [r5v] at hf)
   all_goals (try simp only [hf] at hK ⊢)
   all_goals (try simp only [hi0.out, hi2.out])
   rotate_left 10
   ·have h11 : S 11 = false := by
     rcases h : S 11 with _ | _
     ·rfl
     ·have := hcl 11 _ h rfl ⟨10, .data⟩ (by simp) rfl
      rw [hSi] at this; cases this
    rw [r5w_10 h11] at hK
    rw [r5w_no h11 hSi]
    revert hK
    go_simp
    exact id
   ·have h10 : S 10 = true := hpre.1
    rw [r5w_11] at hK
    rw [r5w_mid hSi h10]
    rw [if_pos (show Region.wanted _ _ = true from rfl)]
    with_reducible refine wp_store_row 26 (.tmp 10) (.tmp 50) ?_ wq.heap.size (startMen (a.toNat - 48) (c.toNat - 48)).cs.toArray ?_ ?_ 26 zeroMen.cs.toArray ?_ ?_ ?_ ?_ ?_
    ·rfl
    ·go_simp
    ·go_simp
    ·exact HasO.new' _ _ rfl
    ·exact hi26.out
    ·rfl
    ·exact men_one _
    ·exact hK
   all_goals (try revert hK)
   all_goals (try go_simp)
   all_goals (try simp only [e1, e2, e3, e4])
   all_goals (exact id)
  case hend =>
   intro S hS
   have hw11 : r5w wq a.toNat c.toNat S = (wq.drew.alloc (.cells zeroMen.cs.toArray 26)).setRow wq.heap.size (startMen (a.toNat - 48) (c.toNat - 48)).cs.toArray := by simp [r5w, hS 11 (by decide)]
   rw [hw11]
   have hM := setRow_hasO (w := wq.drew.alloc (.cells zeroMen.cs.toArray 26)) (g := wq.heap.size) (cells := (startMen (a.toNat - 48) (c.toNat - 48)).cs.toArray) (HasO.new' _ _ rfl)
   have hne : w.heap.size < wq.heap.size := hR2.lt
   have hR3 := (hR2.drew.alloc (.cells zeroMen.cs.toArray 26)).setRow_far (g := wq.heap.size) (cells := (startMen (a.toNat - 48) (c.toNat - 48)).cs.toArray) (by omega)
   have hb3 := setRow_below (g := wq.heap.size) (cells := (startMen (a.toNat - 48) (c.toNat - 48)).cs.toArray) (hb2.drew.alloc hb2.size (.cells zeroMen.cs.toArray 26)) hb2.size (hb2.drew.alloc hb2.size (.cells zeroMen.cs.toArray 26)).size
   have hmx3 : MaxOk _ := MaxOk.call hmx2 (B := wq.heap.size) (setRow_below (g := wq.heap.size) (cells := (startMen (a.toNat - 48) (c.toNat - 48)).cs.toArray) (((Below.refl wq.heap.size wq).drew).alloc (Nat.le_refl _) (.cells zeroMen.cs.toArray 26)) (Nat.le_refl _) (by simp)) (by omega)
   generalize (wq.drew.alloc (.cells zeroMen.cs.toArray 26)).setRow wq.heap.size (startMen (a.toNat - 48) (c.toNat - 48)).cs.toArray = wp at *
   generalize wq.heap.size = qm at *
   clear hw11 hS hmx2 hR2 hb2
   simp only [putL, r5v]
   have hl1 : (c2 s).1.length ≤ 2000000 := by have := c1_len s; have := c2_len s; omega
   have hl2 : (c2 s).2.1.length ≤ 2000000 := by have := c1_len s; have := c2_len s; omega
   have hcand : (startMen (a.toNat - 48) (c.toNat - 48)) = midMen (cand s) 0 := by simp [cand, candMen, habc, midMen, startMen]
   rw [hcand] at hM
   clear hcand
   have hI0 : HasO (wp.iter PN 0) wp.heap.size (.stringIter PN 0) := HasO.new' _ _ rfl
   have hM0 := hM.iter PN 0
   have hR0 := hR3.iter PN 0
   have hb0 := hb3.alloc hb3.size (.stringIter PN 0)
   have hmx0 : MaxOk (wp.iter PN 0) := MaxOk.call hmx3 (B := wp.heap.size) ((Below.refl wp.heap.size wp).alloc (Nat.le_refl _) (.stringIter PN 0)) (by have := hM.lt; omega)
   have hqi : qm < wp.heap.size := hM.lt
   go_wp2_with fail
   clear hM hR3 hb3 hmx3
   generalize wp.heap.size = qi at *
   go_loopg [11] 5 (fun q n wr => ∃ k, q + k = 5 ∧ HasO wr w.heap.size (.cells zeroMen.cs.toArray 26 (0, 0)) ∧ HasO wr qi (.stringIter PN k) ∧ Below w.heap.size w wr ∧ MaxOk wr ∧ HasO wr qm (.cells (midMen (cand s) k).cs.toArray 26 (0, 0)))
   case atStart => exact ⟨0, rfl, hR0, hI0, hb0, hmx0, hM0⟩
   case round =>
    clear hM0 hI0 hb0 hR0 hmx0
    obtain ⟨k, hg, hR, hI, hb, hmx, hM⟩ := hrel
    by_cases hk : k < 5
    ·obtain ⟨hk1, hk2⟩ := pn_at hk
     obtain ⟨w2, hn, hI2, hg2, hz2'⟩ := next_at (P := Tryz.prog) hI hk1 hk2 0
     have hlt := hR.lt
     have hM2 := hM.grown hg2 (by intro e; injection e; omega)
     have hR2 := hR.grown hg2 (by intro e; injection e; omega)
     have hb2 := hb.grown hg2 (by omega) (fun j e => by injection e; omega)
     have hmx2 : MaxOk w2 := MaxOk.call hmx (B := 1) ((Below.refl 1 wr).grown hg2 (by omega) (fun j e => by injection e; omega)) (by omega)
     have hc1 := hM2.cells (2 + k)
     have hc2 := hM2.cells (7 + k)
     have hf := hM2.frozen
     rw [show (midMen (cand s) k).cs.toArray[2 + k]? = some (.int .i64 ((midMen (cand s) k).sw k)) from by have := (midMen (cand s) k).cs_w hk; simpa using this] at hc1
     rw [show (midMen (cand s) k).cs.toArray[7 + k]? = some (.int .i64 ((midMen (cand s) k).sb k)) from by have := (midMen (cand s) k).cs_b hk; simpa using this] at hc2
     have hkk : (k : Int) < 5 := by omega
     clear hM hI hb hg2 hz2' hR hmx hlt
     have hA : (k : Int) + 1 ≤ 5 := by omega
     have hB : (0 : Int) ≤ k := by omega
     have hC : (0 : Int) ≤ (k : Int) + 1 := by omega
     have hD : (k : Int) ≤ (k : Int) + 1 := by omega
     have hE : ¬ (k : Int) + 1 < k := by omega
     have hF : ¬ (5 : Int) < k + 1 := by omega
     have hG : ¬ ((k : Int) + 1 < 0) := by omega
     have hH : IntKind.i64.wrap ((k : Int) + 1) = k + 1 := IntWalk.i64_in _ (by omega)
     go_wp2_with fail
     go_region_with (first
      | (go_at_call_of 43 (str (c2 s).1); refine (count_w s hk _ hl1 ?_).mono ?_; (repeat (first | exact hmx2 | refine maxOk_drew ?_ | refine maxOk_set ?_ (Nat.lt_of_le_of_lt (Nat.zero_le _) hne))); rintro e w' ⟨rfl, rfl⟩)
      | (go_at_call_of 43 (str (c2 s).2.1); refine (count_b s hk _ hl2 ?_).mono ?_; (repeat (first | exact hmx2 | refine maxOk_drew ?_ | refine maxOk_set ?_ (Nat.lt_of_le_of_lt (Nat.zero_le _) hne))); rintro e w' ⟨rfl, rfl⟩))
     all_goals go_wp2_with fail
     all_goals go_roundg (gk - 1)
     case measure => omega
     case rel =>
      refine ⟨k + 1, by omega, (hR2.drew.far (show w.heap.size ≠ qm by omega) _).far (show w.heap.size ≠ qm by omega) _, (hI2.drew.far (show qi ≠ qm by omega) _).far (show qi ≠ qm by omega) _, (hb2.drew.setCell (Nat.le_of_lt hne) _).setCell (Nat.le_of_lt hne) _,
       maxOk_set (maxOk_set hmx2 (Nat.lt_of_le_of_lt (Nat.zero_le _) hne)) (Nat.lt_of_le_of_lt (Nat.zero_le _) hne), ?_⟩
      rw [← midMen_set (cand s) hk]
      exact (hM2.drew.set_ _ _).set_ _ _
    ·obtain rfl : k = 5 := by omega
     have hn := next_at_end (P := Tryz.prog) hI (by decide) 0
     have hM5 : HasO wr qm (.cells (cand s).cs.toArray 26 (0, 0)) := hM
     have hpc : parseC s = if validB (cand s) = true ∧ textL (cand s) = s then some (cand s) else none := by unfold parseC; simp [h1, h2, h3, h4]
     clear hM hI
     generalize cand s = m at *
     have hc := hM5.cells
     have hqs : qm < wr.heap.size := hM5.lt
     go_wp2_with fail
     refine (valid_any m _).mono ?_
     rintro e w3 ⟨rfl, hb3⟩
     have hR4 := hR.call hb3
     have hM6 := hM5.call hb3
     have hb4 := below_call hb hb.size hb3
     clear hn hc hR hM5 hb hb3 hmx hqs
     rcases hv : validB m with _ | _
     ·have hpv := Lib.hid (show parseC s = none by rw [hpc, if_neg (by rintro ⟨h, _⟩; rw [hv] at h; cases h)])
      replace hpc := Lib.hid hpc
      go_wp2_with (with_reducible refine wpList_storeAgg rfl 26 (.tmp 2) (.tmp 82) rfl w.heap.size zeroMen.cs.toArray ?_ ?_ 26 _ hR4 ?_ ?_ ?_ ?_)
      ·rfl
      ·rfl
      ·exact hi26.out
      ·rfl
      ·exact hone.out
      exact bodyPost_ret (results_ct (fn := Tryz.f12) Tryz.results12 rfl (setRow_hasO hR4) (by kernel_rfl) hi26.out rfl) rfl ⟨ret_v (by unfold parseV; rw [hpv.out]; rfl), setRow_below hb4 (Nat.le_refl _) hb4.size⟩
     ·have hV := Lib.hid hv
      have hc := hM6.cells
      have hqs : qm < w3.heap.size := hM6.lt
      go_wp2_with fail
      refine (text_any m _ hV).mono ?_
      rintro e w4 ⟨rfl, hb5⟩
      have hR7 := hR4.call hb5
      have hM7 := hM6.call hb5
      have hb7 := below_call hb4 hb4.size hb5
      clear hc hR4 hM6 hb4 hb5 hqs
      by_cases ht : textL m = s
      ·have hpv := Lib.hid (show parseC s = some m by rw [hpc, if_pos ⟨hv, ht⟩])
       replace hpc := Lib.hid hpc
       have hbs : ((str (textL m)).toList == (str s).toList) = true := by rw [str_beq]; simp [ht]
       have hc := hM7.cells
       have hqs : qm < w4.heap.size := hM7.lt
       have him : Hid ((Tryz.prog.info? 26).map (·.size) = some m.cs.toArray.size) := hi26
       replace ht := Lib.hid ht
       go_wp2_with (with_reducible refine wpList_storeAgg rfl 26 (.tmp 2) (.tmp 83) rfl w.heap.size m.cs.toArray ?_ ?_ 26 _ hR7 ?_ ?_ ?_ ?_)
       ·rfl
       ·rfl
       ·exact him.out
       ·rfl
       ·exact men_one m
       exact bodyPost_ret (results_ct (fn := Tryz.f12) Tryz.results12 rfl (setRow_hasO hR7) (by kernel_rfl) him.out rfl) rfl ⟨ret_v (by unfold parseV; rw [hpv.out]; rfl), setRow_below hb7 (Nat.le_refl _) hb7.size⟩
      ·have hpv := Lib.hid (show parseC s = none by rw [hpc, if_neg (by rintro ⟨_, h⟩; exact ht h)])
       replace hpc := Lib.hid hpc
       have hbs : ((str (textL m)).toList == (str s).toList) = false := by rw [str_beq]; simp [ht]
       replace ht := Lib.hid ht
       go_wp2_with (with_reducible refine wpList_storeAgg rfl 26 (.tmp 2) (.tmp 82) rfl w.heap.size zeroMen.cs.toArray ?_ ?_ 26 _ hR7 ?_ ?_ ?_ ?_)
       ·rfl
       ·rfl
       ·exact hi26.out
       ·rfl
       ·exact hone.out
       exact bodyPost_ret (results_ct (fn := Tryz.f12) Tryz.results12 rfl (setRow_hasO hR7) (by kernel_rfl) hi26.out rfl) rfl ⟨ret_v (by unfold parseV; rw [hpv.out]; rfl), setRow_below hb7 (Nat.le_refl _) hb7.size⟩
end Go.Proofs.YtnpomigmeieofaaGreatDoor
