import Derived.Test.YtddkhnnpeonbgaaGreatDoorH02
import Derived.Test.YtddkhnnpeonbgaaGreatDoorH13
import Derived.Test.YtddkhnnpeonbgaaGreatDoorH40
namespace Go.Proofs.YtddkhnnpeonbgaaGreatDoor
open Go.RowKit

def ofE (f r : Int) (xs : List Int) (bl : Bool) (ca pa ha fu : Int) : Men × Int :=
 if pvB f r xs bl ca pa ha fu then (if validB (ofM f r xs xs.length) then (ofM f r xs xs.length, 0) else (zeroMen, 7)) else (zeroMen, 2)
def ofV (f r : Int) (xs : List Int) (bl : Bool) (ca pa ha fu : Int) : Value := .tuple #[.agg (ofE f r xs bl ca pa ha fu).1.cs.toArray, .int .i64 (ofE f r xs bl ca pa ha fu).2]
set_option maxRecDepth 100000 in
set_option maxHeartbeats 3200000 in
theorem idxOfP_any (f r ca pa ha fu : Int) (bl : Bool) (p : Option Addr) (c : Nat) (xs : List Int) (hca : 0 ≤ ca ∧ ca < 256) (hl : xs.length ≤ 1000) (hcap : xs.length ≤ c) (h8 : ∀ x ∈ xs, -128 ≤ x ∧ x ≤ 127) (w : World) (hg : GlobOk w) (hx : Arr .i8 w p xs) :
  Calls Tryz.prog 29 #[.agg (posCs f r p xs.length c bl ca pa ha fu).toArray] w fun e w' => e = .returned (ofV f r xs bl ca pa ha fu) ∧ Below w.heap.size w w' := by
 have hA := HasO.new w (.cells (posCs f r p xs.length c bl ca pa ha fu).toArray 27)
 have hA1 := hA.alloc (.cells zeroMen.cs.toArray 41)
 have hR1 := HasO.new' (w.alloc (.cells (posCs f r p xs.length c bl ca pa ha fu).toArray 27)) (.cells zeroMen.cs.toArray 41) (q := w.heap.size + 1) (by simp)
 have hB1 := (below_box w (.cells (posCs f r p xs.length c bl ca pa ha fu).toArray 27)).alloc (by simp) (.cells zeroMen.cs.toArray 41)
 have hx1 := hx.call hB1
 have hg1 := hg.call hB1
 have hpv := fun W hg hx => posValid_any f r ca pa ha fu bl p c xs hca hl hcap W hg hx
 rw [pv_eq] at hpv
 have hof := fun W hx => idxOf_any f r ca pa ha fu bl p c xs hl h8 W hx
 have hva := fun W => valid_any (ofM f r xs xs.length) W
 obtain ⟨V, hV⟩ : ∃ V, V = ofE f r xs bl ca pa ha fu := ⟨_, rfl⟩
 have hVd : V = if pvB f r xs bl ca pa ha fu then (if validB (ofM f r xs xs.length) then (ofM f r xs xs.length, 0) else (zeroMen, 7)) else (zeroMen, 2) := hV
 have hVV : ofV f r xs bl ca pa ha fu = .tuple #[.agg V.1.cs.toArray, .int .i64 V.2] := by rw [hV]; rfl
 rw [hVV]
 clear hV hVV
 generalize ofM f r xs xs.length = m at *
 generalize pvB f r xs bl ca pa ha fu = D at *
 replace hVd := Lib.hid hVd
 have hc := hA1.cells
 have hlc := hA1.lt
 clear hA hx hg
 go_enter Tryz.func29, Tryz.ntmps29
 go_wp2_with fail
 refine (hpv _ hg1 hx1).mono ?_
 rintro e w2 ⟨rfl, hb2⟩
 have hA2 := hA1.call hb2
 have hR2 := hR1.call hb2
 have hB2 := below_call hB1 (Nat.le_trans hB1.size (Nat.le_refl _)) hb2
 have hx2 := hx1.call hb2
 clear hA1 hR1 hB1 hx1 hg1 hb2 hpv hc hlc
 have hc := hA2.cells
 have hlc := hA2.lt
 have hlr := hR2.lt
 cases D
 ·have e0 : Hid (V = (zeroMen, 2)) := Lib.hid (by rw [hVd.out]; rfl)
  go_wp2_with (first | (refine wpList_storeAgg rfl 41 (.tmp 2) (.tmp 8) rfl (w.heap.size + 1) _ rfl rfl 41 _ hR2 (by kernel_rfl) rfl (men_one zeroMen) ?_; rintro w' rfl) | fail)
  refine bodyPost_ret (results_ct (fn := Tryz.f29) Tryz.results29 rfl (setRow_hasO hR2) (by kernel_rfl) (by kernel_rfl) rfl) rfl ?_
  exact ⟨by rw [e0.out]; rfl, setRow_below hB2 (by omega) hB2.size⟩
 ·go_wp2_with fail
  refine (hof _ hx2).mono ?_
  rintro e w3 ⟨rfl, hb3⟩
  have hA3 := hA2.call hb3
  have hR3 := hR2.call hb3
  have hB3 := below_call hB2 hB2.size hb3
  clear hA2 hR2 hB2 hx2 hb3 hc hlc hlr hof
  have hM4 := HasO.new w3 (.cells m.cs.toArray 41)
  have hb4 := below_box w3 (.cells m.cs.toArray 41)
  have hR4 := hR3.call hb4
  have hB4 := below_call hB3 hB3.size hb4
  have hlr := hR4.lt
  clear hA3
  go_wp2_with fail
  show Calls _ _ _ (w3.alloc (.cells m.cs.toArray 41)) _
  obtain ⟨q, hq⟩ : ∃ q, q = w3.heap.size := ⟨_, rfl⟩
  rw [← hq] at hM4
  generalize w3.alloc (.cells m.cs.toArray 41) = w4 at *
  refine (hva _).mono ?_
  rintro e w5 ⟨rfl, hb5⟩
  have hM5 := hM4.call hb5
  have hR5 := hR4.call hb5
  have hB5 := below_call hB4 hB4.size hb5
  clear hM4 hR4 hB4 hb5 hR3 hB3 hb4 hlr
  have hc := hM5.cells
  have hlc := hM5.lt
  rw [hq] at hc hlc hM5
  have hlr := hR5.lt
  rcases hvb : validB m with _ | _
  ·have e0 : Hid (V = (zeroMen, 7)) := Lib.hid (by rw [hVd.out, hvb]; rfl)
   go_wp2_with (first | (refine wpList_storeAgg rfl 41 (.tmp 2) (.tmp 14) rfl (w.heap.size + 1) _ rfl rfl 41 _ hR5 (by kernel_rfl) rfl (men_one zeroMen) ?_; rintro w' rfl) | fail)
   refine bodyPost_ret (results_ct (fn := Tryz.f29) Tryz.results29 rfl (setRow_hasO hR5) (by kernel_rfl) (by kernel_rfl) rfl) rfl ?_
   exact ⟨by rw [e0.out]; rfl, setRow_below hB5 (by omega) hB5.size⟩
  ·have e0 : Hid (V = (m, 0)) := Lib.hid (by rw [hVd.out, hvb]; rfl)
   go_wp2_with (first | (refine wpList_storeAgg rfl 41 (.tmp 2) (.tmp 15) rfl (w.heap.size + 1) _ rfl rfl 41 _ hR5 (by kernel_rfl) rfl (men_one m) ?_; rintro w' rfl) | fail)
   refine bodyPost_ret (results_ct (fn := Tryz.f29) Tryz.results29 rfl (setRow_hasO hR5) (by kernel_rfl) (by kernel_rfl) rfl) rfl ?_
   exact ⟨by rw [e0.out]; rfl, setRow_below hB5 (by omega) hB5.size⟩
end Go.Proofs.YtddkhnnpeonbgaaGreatDoor
namespace Go.Proofs.YtddkhnnpeonbgaaGreatDoor
open Go.RowKit

def sqP (xs : List Int) (x : Int) : Nat → List Nat
 | 0 => []
 | k + 1 => if xs[k]?.getD 0 = x then sqP xs x k ++ [k] else sqP xs x k
theorem sqP_len (xs : List Int) (x : Int) (k : Nat) : (sqP xs x k).length = ct xs x k := by
 induction k with
 | zero => rfl
 | succ k ih => simp only [sqP, ct]; split <;> simp [ih]
theorem sqP_get {xs : List Int} {x : Int} {a K : Nat} (hx : xs[a]?.getD 0 = x) (h : a < K) : (sqP xs x K)[ct xs x a]?.getD 0 = a ∧ ct xs x a < ct xs x K := by
 induction K with
 | zero => omega
 | succ K ih =>
  rcases Nat.lt_or_ge a K with h2 | h2
  ·obtain ⟨h3, h4⟩ := ih h2
   simp only [sqP, ct]
   split
   ·refine ⟨?_, by omega⟩
    rw [List.getElem?_append_left (by rw [sqP_len]; exact h4)]; exact h3
   ·exact ⟨h3, by omega⟩
  ·obtain rfl : a = K := by omega
   simp only [sqP, ct, if_pos hx]
   rw [List.getElem?_append_right (by rw [sqP_len]; exact Nat.le_refl _), sqP_len]
   simp
theorem sqP_lt {xs : List Int} {x : Int} {j K : Nat} (h : j < ct xs x K) : (sqP xs x K)[j]?.getD 0 < K := by
 have hm : ∀ y ∈ sqP xs x K, y < K := by
  clear h
  induction K with
  | zero => intro y hy; cases hy
  | succ K ih =>
   intro y hy
   simp only [sqP] at hy
   split at hy
   ·rcases List.mem_append.1 hy with hy | hy
    ·have := ih y hy; omega
    ·simp at hy; omega
   ·have := ih y hy; omega
 rw [← sqP_len] at h
 rw [List.getElem?_eq_getElem h]
 exact hm _ (List.getElem_mem h)
def smS (L : List Nat) : Nat → Nat | 0 => 0 | k + 1 => smS L k + ch (L[k]?.getD 0) (k + 1)
theorem smS_append (L M : List Nat) {k : Nat} (h : k ≤ L.length) : smS (L ++ M) k = smS L k := by
 induction k with
 | zero => rfl
 | succ k ih => simp only [smS]; rw [ih (by omega), List.getElem?_append_left (by omega)]
def cmb (xs : List Int) (x : Int) : Nat → Nat
 | 0 => 0
 | k + 1 => cmb xs x k + if xs[k]?.getD 0 = x then ch k (ct xs x (k + 1)) else 0
theorem smS_cmb (xs : List Int) (x : Int) (k : Nat) : smS (sqP xs x k) (ct xs x k) = cmb xs x k := by
 induction k with
 | zero => rfl
 | succ k ih =>
  by_cases h : xs[k]?.getD 0 = x
  ·simp only [sqP, ct, cmb, if_pos h]
   simp only [smS]
   rw [smS_append _ _ (by rw [sqP_len]; exact Nat.le_refl _), ih, List.getElem?_append_right (by rw [sqP_len]; exact Nat.le_refl _), sqP_len]
   simp
  ·simp only [sqP, ct, cmb, if_neg h, Nat.add_zero]; exact ih
theorem ch_mono {n k : Nat} (hn : n < 64) (hk : k ≤ 4) : ch n k ≤ ch (n + 1) k := by
 have h : ∀ n, n < 64 → ∀ k, k < 5 → ch n k ≤ ch (n + 1) k := by decide +kernel
 exact h n hn k (by omega)
theorem ct_mono {xs : List Int} {x : Int} {a b : Nat} (h : a ≤ b) : ct xs x a ≤ ct xs x b := by
 induction b with
 | zero => have : a = 0 := by omega
           subst this; exact Nat.le_refl _
 | succ b ih =>
  rcases Nat.lt_or_ge a (b + 1) with h2 | h2
  ·have := ih (by omega); simp only [ct]; omega
  ·have : a = b + 1 := by omega
   subst this; exact Nat.le_refl _
theorem cmb_lt {xs : List Int} {x : Int} {k : Nat} (hk : k ≤ 64) (h4 : ct xs x k ≤ 4) : cmb xs x k + 1 ≤ ch k (ct xs x k) := by
 induction k with
 | zero => simp [cmb, ct, ch]
 | succ k ih =>
  have hm := ct_mono (xs := xs) (x := x) (show k ≤ k + 1 by omega)
  have := ih (by omega) (by omega)
  by_cases h : xs[k]?.getD 0 = x
  ·simp only [ct, if_pos h] at h4
   simp only [cmb, ct, if_pos h]
   rw [ch_succ (by omega) (by omega)]
   omega
  ·simp only [ct, if_neg h, Nat.add_zero] at h4
   simp only [cmb, ct, if_neg h, Nat.add_zero]
   have := ch_mono (n := k) (k := ct xs x k) (by omega) h4
   omega
def gN (xs : List Int) (s n0 : Nat) : Nat → Nat | 0 => n0 | j + 1 => gN xs s n0 j * ch s (ct xs (grpPiece j) s) + cmb xs (grpPiece j) s
theorem ofM_grp {f r : Int} {xs : List Int} {k j : Nat} (hj : j < 10) : (ofM f r xs k).grp j = (ct xs (grpPiece j) k : Int) := by
 rcases ten hj with rfl | rfl | rfl | rfl | rfl | rfl | rfl | rfl | rfl | rfl <;> rfl
theorem gN_lt {f r : Int} {xs : List Int} {n0 : Nat} (hv : validB (ofM f r xs xs.length) = true) (hs : xs.length = (ofM f r xs xs.length).sq) (h0 : n0 < 2 * xs.length * xs.length) :
  ∀ j, j ≤ 10 → gN xs xs.length n0 j < (ofM f r xs xs.length).prod j := by
 have h64 := (validB_sq hv).2.2
 have ho := validB_ok hv
 intro j
 induction j with
 | zero => intro _; simp only [gN, Men.prod]; rw [← hs]; exact h0
 | succ j ih =>
  intro hj
  have h1 := ih (by omega)
  have hg := grp_bd ho (j := j) (by omega)
  rw [ofM_grp (by omega)] at hg
  have hc := cmb_lt (xs := xs) (x := grpPiece j) (k := xs.length) (by omega) (by omega)
  simp only [gN, Men.prod]
  rw [ofM_grp (by omega), Int.toNat_natCast, ← hs]
  have := Nat.mul_le_mul_right (ch xs.length (ct xs (grpPiece j) xs.length)) (show gN xs xs.length n0 j + 1 ≤ (ofM f r xs xs.length).prod j by omega)
  rw [Nat.succ_mul] at this
  omega
def numN (xs : List Int) (bl : Bool) : Nat := gN xs xs.length (((if bl then 1 else 0) * xs.length + (kgI xs false).toNat) * xs.length + (kgI xs true).toNat) 10
theorem king_idx {xs : List Int} {bl : Bool} {k : Nat} (h : kgI xs bl = k) : idxI xs (6 * sdI bl) = k ∧ k < xs.length ∧ ∀ j, j < xs.length → (xs[j]?.getD 0 = 6 * sdI bl ↔ j = k) := by
 have h0 := idxI_lt (xs := xs) (x := 6 * sdI bl)
 rcases Int.lt_or_le (idxI xs (6 * sdI bl)) 0 with hn | hn
 ·have := kgI_none hn
  omega
 ·obtain ⟨i, hi⟩ : ∃ i : Nat, idxI xs (6 * sdI bl) = i := ⟨(idxI xs (6 * sdI bl)).toNat, by omega⟩
  rcases hd : (xs.drop (i + 1)).any (· == 6 * sdI bl) with _ | _
  ·have hk := kgI_one hi hd
   obtain rfl : i = k := by omega
   obtain ⟨h1, h2, h3⟩ := idxI_get hi
   refine ⟨hi, h1, fun j hj => ⟨fun e => ?_, fun e => by rw [e]; exact h2⟩⟩
   rcases Nat.lt_or_ge j i with h4 | h4
   ·exact absurd e (h3 j h4)
   ·rcases Nat.lt_or_ge i j with h5 | h5
    ·exfalso
     rw [List.any_eq_false] at hd
     refine hd (xs[j]) ?_ (by rw [← e, List.getElem?_eq_getElem hj]; simp)
     rw [List.mem_iff_getElem]
     exact ⟨j - (i + 1), by simp; omega, by simp; congr 1; omega⟩
    ·omega
  ·have := kgI_dup hi hd
   omega
theorem num0_lt {s a b : Nat} (bl : Bool) (ha : a < s) (hb : b < s) : ((if bl then 1 else 0) * s + a) * s + b < 2 * s * s := by
 have h1 : (if bl then 1 else 0) * s + a + 1 ≤ 2 * s := by cases bl <;> simp <;> omega
 have := Nat.mul_le_mul_right s h1
 rw [Nat.succ_mul] at this
 omega
end Go.Proofs.YtddkhnnpeonbgaaGreatDoor
namespace Go.Proofs.YtddkhnnpeonbgaaGreatDoor
open Go.RowKit

def allInto (ops : Array Oper) (z : Nat) : Bool := (List.range z).all fun i => (List.range (z + 1)).any fun j => decide (i < j) && ((ops[j]?).map (·.after.any fun e => Region.binds .any e && decide (e.on = i))).getD false
theorem allInto_up {ops : Array Oper} {z : Nat} (h : allInto ops z = true) {S : Nat → Bool} (hS : S z = true)
  (hcl : ∀ j o', S j = true → ops[j]? = some o' → ∀ e ∈ o'.after, Region.binds .any e = true → S e.on = true) : ∀ m i, i + m = z → S i = true := by
 intro m
 induction m using Nat.strongRecOn with
 | _ m ih =>
  intro i hi
  rcases m with _ | m
  ·rw [show i = z by omega]; exact hS
  ·unfold allInto at h
   rw [List.all_eq_true] at h
   have h1 := h i (List.mem_range.2 (by omega))
   rw [List.any_eq_true] at h1
   obtain ⟨j, hj, h2⟩ := h1
   rw [List.mem_range] at hj
   simp only [Bool.and_eq_true, decide_eq_true_eq] at h2
   obtain ⟨hij, h3⟩ := h2
   rcases ho : ops[j]? with _ | o'
   ·rw [ho] at h3; simp at h3
   ·rw [ho] at h3
    simp only [Option.map_some, Option.getD_some, Array.any_eq_true', Bool.and_eq_true, decide_eq_true_eq] at h3
    obtain ⟨e, he, hb, rfl⟩ := h3
    exact hcl j o' (ih (z - j) (by omega) j (by omega)) ho e he hb
theorem wp_region_last {P : Program} {id : Nat} {ops : Array Oper} {Q : Exit → Act → World → Prop} {a : Act} {w : World} (hm : P.follows .mixedOrders = true) (hb : edgesBack .any ops = true)
  (ds : List (Option Tmp)) (hds : ops.toList.map (·.dst) = ds) (hok : dstsOk ds = true) (z : Nat) (hz : ops.size = z + 1) (hall : allInto ops z = true)
  (vals : Nat → Value) (C C' : World → Prop) (h0 : C w.drew)
  (hstep : ∀ i o f W, ops[i]? = some o → i < ops.size → i ≠ z → C W → (∀ e ∈ o.after, Region.binds .any e = true → f e.on = vals e.on) → ∀ K : Act → World → Prop, (∀ W', C W' → K ((putL ds f 0 a).put o.dst (vals i)) W') →
   if Region.wanted o (yielded ops (putL ds f 0 a).tmps) = true then o.wp P (putL ds f 0 a) W K Q else K ((putL ds f 0 a).put o.dst undef) W)
  (hturn : ∀ o f W, ops[z]? = some o → C W → (∀ e ∈ o.after, Region.binds .any e = true → f e.on = vals e.on) → ∀ K : Act → World → Prop, (∀ W', C' W' → K ((putL ds f 0 a).put o.dst (vals z)) W') →
   if Region.wanted o (yielded ops (putL ds f 0 a).tmps) = true then o.wp P (putL ds f 0 a) W K Q else K ((putL ds f 0 a).put o.dst undef) W)
  (hend : ∀ f W, C' W → (∀ i, i < ops.size → f i = vals i) → Q .normal (putL ds f 0 a) W) : (Code.region id ops true).wp P Q a w := by
 have hlt : ∀ (i : Nat) (o : Oper), ops[i]? = some o → ∀ e ∈ o.after, Region.binds .any e = true → e.on < ops.size := by
  intro i o ho e he hbd
  have hi : i < ops.size := (Array.getElem?_eq_some_iff.1 ho).1
  have hb' := hb
  unfold edgesBack at hb'
  rw [List.all_eq_true] at hb'
  have h := hb' i (List.mem_range.2 hi)
  rw [ho] at h
  simp only [Option.map_some, Option.getD_some, Array.all_eq_true', Bool.or_eq_true, Bool.not_eq_true', decide_eq_true_eq] at h
  rcases h e he with h | h
  ·rw [hbd] at h; cases h
  ·omega
 refine wp_region_relL hm hb ds hds hok (fun S f W => (∀ i, i < ops.size → S i = true → f i = vals i) ∧ (S z = false → C W) ∧ (S z = true → C' W)) ?_ ?_ ?_ ?_
 ·rintro S S' f W hS ⟨h1, h2, h3⟩
  refine ⟨fun i hi h => h1 i hi (by rw [hS i hi]; exact h), fun h => h2 (by rw [hS z (by omega)]; exact h), fun h => h3 (by rw [hS z (by omega)]; exact h)⟩
 ·intro f
  exact ⟨fun i _ h => (by cases h), fun _ => h0, fun h => (by cases h)⟩
 ·rintro S i o f W ho hi hSi hpre hcl ⟨h1, h2, h3⟩ K hK
  by_cases hiz : i = z
  ·subst hiz
   refine hturn o f W ho (h2 hSi) (fun e he hbd => h1 e.on (hlt i o ho e he hbd) (hpre e he hbd)) K (fun W' hC' => hK _ _ ⟨fun j hj h => ?_, fun h => ?_, fun _ => hC'⟩)
   ·by_cases e : j = i
    ·simp [e]
    ·simp only [upd, if_neg e] at h
     simp only [if_neg e]; exact h1 j hj h
   ·simp [upd] at h
  ·have hSz : S z = false := by
    rcases hs : S z with _ | _
    ·rfl
    ·rw [allInto_up hall hs hcl (z - i) i (by omega)] at hSi; cases hSi
   refine hstep i o f W ho hi hiz (h2 hSz) (fun e he hbd => h1 e.on (hlt i o ho e he hbd) (hpre e he hbd)) K (fun W' hC' => hK _ _ ⟨fun j hj h => ?_, fun _ => hC', fun h => ?_⟩)
   ·by_cases e : j = i
    ·simp [e]
    ·simp only [upd, if_neg e] at h
     simp only [if_neg e]; exact h1 j hj h
   ·have : upd S i z = S z := by simp only [upd, if_neg (fun e : z = i => hiz e.symm)]
    rw [this, hSz] at h; cases h
 ·rintro S f W hall2 ⟨h1, h2, h3⟩
  exact hend f W (h3 (hall2 z (by omega))) (fun i hi => h1 i hi (hall2 i hi))

theorem rounds_ind {F : Fence} {n : Nat} {P : Program} {c : Code} {Q : Exit → Act → World → Prop} (N : Nat) (R : Nat → Act → World → Prop)
  (hr : ∀ k a w, k < N → R k a w → c.wpIn F n P (Exit.then (fun a' w' => R (k + 1) a' w') Q) a w)
  (hl : ∀ a w, R N a w → c.wpIn F n P (Exit.then (fun _ _ => False) Q) a w) : ∀ m k a w, k + m = N → R k a w → Code.roundsIn F n P c Q (m + 1) a w := by
 intro m
 induction m with
 | zero =>
  intro k a w hk h
  obtain rfl : k = N := by omega
  rw [roundsIn_succ]
  refine wpIn_mono (hl a w h) (fun e a' w' h' => ?_)
  cases e <;> first | exact h'.elim | exact h'
 | succ m ih =>
  intro k a w hk h
  rw [roundsIn_succ]
  refine wpIn_mono (hr k a w (by omega) h) (fun e a' w' h' => ?_)
  cases e
  case normal => exact ih (k + 1) a' w' (by omega) h'
  all_goals exact h'
theorem loop_ind {F : Fence} {n : Nat} {P : Program} {c : Code} {Q : Exit → Act → World → Prop} {a : Act} {w : World} (N : Nat) (R : Nat → Act → World → Prop) (h0 : R 0 a w)
  (hr : ∀ k a w, k < N → R k a w → c.wpIn F n P (Exit.then (fun a' w' => R (k + 1) a' w') Q) a w)
  (hl : ∀ a w, R N a w → c.wpIn F n P (Exit.then (fun _ _ => False) Q) a w) : (Code.loop c).wpIn F n P Q a w :=
 wpIn_loop_rounds (N + 1) (rounds_ind N R hr hl N 0 a w (by omega) h0)

def cds (E : List Nat) : List Deferred := E.map fun p => { target := .collected p, args := #[] }
theorem leaves_marks {F : Fence} {n : Nat} {P : Program} {fn : Func} {tmps : Array Value} {R : Ending → World → Prop} {B : Nat} : ∀ (E : List Nat) (w : World), B ≤ w.heap.size →
  (∀ p ∈ E, B ≤ p ∧ HasO w p (.deferred (some []))) → E.Nodup → (∀ w', Below B w w' → LeavesIn F n P fn tmps R [] .returning w') → LeavesInM F n P fn tmps R (cds E) .returning w := by
 intro E
 induction E with
 | nil => intro w hB hE hn h; exact h w (Below.refl _ _)
 | cons p E ih =>
  intro w hB hE hn h
  obtain ⟨hp, hx⟩ := hE p List.mem_cons_self
  rw [List.nodup_cons] at hn
  refine ⟨by simp, .inl ⟨_, _, rfl, run_takeDeferred hx, ?_⟩⟩
  have hbp : Below B w (w.putObj p (.deferred none)) := ⟨rfl, rfl, rfl, by simp, fun k hk => World.putObj_heap_other (by omega)⟩
  refine ih _ (by simpa using hB) (fun q hq => ?_) hn.2 (fun w' hb => h w' ?_)
  ·obtain ⟨h1, h2⟩ := hE q (List.mem_cons_of_mem _ hq)
   exact ⟨h1, (World.putObj_heap_other (fun e => hn.1 (by rw [e] at hq; exact hq))).trans h2⟩
  ·exact hbp.trans hb
end Go.Proofs.YtddkhnnpeonbgaaGreatDoor
namespace Go.Proofs.YtddkhnnpeonbgaaGreatDoor
open Go.RowKit
attribute [local go_sem] Oper.semAt_some

def SqRd (q1 q2 : Nat) (cs : List Value) (x : Int) (p : Option Addr) (xs : List Int) (W : World) : Prop :=
 HasO W q1 (.cells cs.toArray 27 (0, 0)) ∧ HasO W q2 (.cells #[.int .i8 x] 96 (0, 0)) ∧ Arr .i8 W p xs
theorem squares_any (cs : List Value) (x : Int) (w : World) : Calls Tryz.prog 67 #[.agg cs.toArray, .int .i8 x] w fun e w' =>
  e = .returned (.func (.func 107) #[] #[.pointer (some ⟨w.heap.size, 0, none⟩), .pointer (some ⟨w.heap.size + 1, 0, none⟩)]) ∧ HasO w' w.heap.size (.cells cs.toArray 27 (0, 0)) ∧ HasO w' (w.heap.size + 1) (.cells #[.int .i8 x] 96 (0, 0)) ∧ Below w.heap.size w w' ∧ w'.heap.size = w.heap.size + 2 := by
 go_enter Tryz.func67, Tryz.ntmps67
 go_wp2_with fail
 go_ret
 have h1 := HasO.new w (.cells cs.toArray 27)
 have h2 := HasO.new' (w.alloc (.cells cs.toArray 27)) (.cells #[.int .i8 x] 96) (q := w.heap.size + 1) (by simp)
 exact ⟨rfl, h1.alloc _, h2, (below_box w _).alloc (by simp) _, by simp⟩
set_option maxRecDepth 100000 in
set_option maxHeartbeats 1600000 in
theorem sq_seq (q1 q2 : Nat) (f r ca pa ha fu : Int) (bl : Bool) (p : Option Addr) (c : Nat) (xs : List Int) (x : Int) (hl : xs.length ≤ 1000) :
  SeqI Tryz.prog 107 #[.pointer (some ⟨q1, 0, none⟩), .pointer (some ⟨q2, 0, none⟩)] (ct xs x xs.length) (fun k => #[.int .i64 (k : Nat), .int .i64 ((sqP xs x xs.length)[k]?.getD 0 : Nat)]) (SqRd q1 q2 (posCs f r p xs.length c bl ca pa ha fu) x p xs) (fun _ _ => False) (fun _ => False) := by
 intro n l J Jx W0 hst hstx hRd hsz hszx h0 hy
 have hJ0 := h0 W0.heap.size W0 (Below.refl _ _) (Nat.le_refl _) rfl
 obtain ⟨hr1, hr2, hr3⟩ := hRd _ _ _ hJ0
 have hct := ct_le xs x
 have hget := fun a => sqP_get (xs := xs) (x := x) (a := a) (K := xs.length)
 have hc0 : ct xs x 0 = 0 := rfl
 have hcs : ∀ k, ct xs x (k + 1) = ct xs x k + if xs[k]?.getD 0 = x then 1 else 0 := fun k => rfl
 generalize sqP xs x xs.length = L at *
 generalize ct xs x = cx at *
 have c2 := hr1.cells 2
 have l1 := hr1.lt
 clear hr2 hr3
 refine callsIn_of_wp Tryz.func107 rfl trivial ?_ rfl
 simp only [Tryz.ntmps107, List.size_toArray, List.length_cons, List.length_nil, Nat.reduceAdd, Nat.reduceSub, Array.replicate_succ, Array.replicate_zero, List.push_toArray, List.append_toArray, List.nil_append, List.cons_append]
 gi_wp2_with fail
 gi_loopw [4, 10] (fun iv kv wr => ∃ i : Nat, i ≤ xs.length ∧ iv = .int .i64 (cx i : Nat) ∧ kv = .int .i64 i ∧ J W0.heap.size (cx i) wr) (fun _ kv _ => (1001 - intOf kv).toNat)
 case atStart => exact ⟨0, Nat.zero_le _, by rw [hc0]; rfl, rfl, by rw [hc0]; exact hJ0⟩
 case round =>
  obtain ⟨i, hi, rfl, rfl, hJ⟩ := hrel
  clear hr1 c2 l1 hJ0 h0
  obtain ⟨hr1, hr2, hr3⟩ := hRd _ _ _ hJ
  have hcb := hct i
  by_cases hlt : i < xs.length
  ·have hii : (i : Int) < xs.length := by omega
   obtain ⟨g, o, rfl, hgl, hcc⟩ := hr3.at hlt
   have hci := hcc i hlt
   have c2 := hr1.cells 2
   have l1 := hr1.lt
   have cx2 := hr2.cells 0
   have l2 := hr2.lt
   have hcsi := hcs i
   have hg := hget i
   obtain ⟨y, hyy⟩ : ∃ y, xs[i]?.getD 0 = y := ⟨_, rfl⟩
   rw [hyy] at hci hcsi hg
   clear hcc hyy hcs hget hr3
   rcases (by omega : y = x ∨ y ≠ x) with rfl | hne
   ·obtain ⟨hg1, hg2⟩ := hg rfl hlt
    rw [if_pos rfl] at hcsi
    have hyk := hy W0.heap.size (cx i) wr (Nat.le_refl _) hg2 hJ (fun q h1 h2 => by omega)
    change YieldAt _ _ _ _ #[.int .i64 (cx i : Nat), .int .i64 (L[cx i]?.getD 0 : Nat)] _ _ at hyk
    rw [hg1] at hyk
    obtain ⟨fn, tmps, assign, body, hy1, hR⟩ := hyk
    replace hcsi := Lib.hid hcsi
    clear hg hg1
    gi_wp2_with fail
    refine ⟨fun h => by simp [Fence.wide] at h, (roundIn_any hR).mono ?_⟩
    rintro e W' (⟨rfl, hJ', _⟩ | ⟨rfl, hJx⟩)
    ·gi_wp2_with fail
     go_roundw
     case measure => simp [intOf]; omega
     case rel => exact ⟨i + 1, by omega, by rw [hcsi.out]; go_num, by go_num, by rw [hcsi.out]; exact hJ'⟩
    ·gi_wp2_with fail
     refine bodyPost_ret (results_none rfl _ _ _) rfl ?_
     exact ⟨W0.heap.size, Nat.le_refl _, .inl ⟨⟨_, rfl⟩, .inr ⟨cx i, hg2, hJx⟩⟩⟩
   ·replace hcsi : cx (i + 1) = cx i := by rw [hcsi, if_neg hne]; rfl
    rw [← hcsi] at hJ
    replace hcsi := Lib.hid hcsi
    have hne2 : (y == x) = false := by simpa using hne
    clear hg
    gi_wp2_with fail
    go_roundw
    case measure => simp [intOf]; omega
    case rel => exact ⟨i + 1, by omega, by rw [hcsi.out], by go_num, hJ⟩
  ·obtain rfl : i = xs.length := by omega
   have c2 := hr1.cells 2
   have l1 := hr1.lt
   gi_wp2_with fail
   first
    | (go_end0; exact ⟨W0.heap.size, Nat.le_refl _, .inl ⟨⟨_, rfl⟩, .inl hJ⟩⟩)
    | (refine bodyPost_ret (results_none rfl _ _ _) rfl ?_; exact ⟨W0.heap.size, Nat.le_refl _, .inl ⟨⟨_, rfl⟩, .inl hJ⟩⟩)
end Go.Proofs.YtddkhnnpeonbgaaGreatDoor
