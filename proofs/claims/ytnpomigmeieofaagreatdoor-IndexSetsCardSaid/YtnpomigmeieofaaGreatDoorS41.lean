import Derived.Test.YtnpomigmeieofaaGreatDoorS03
import Derived.Test.YtnpomigmeieofaaGreatDoorS12
import Derived.Test.YtnpomigmeieofaaGreatDoorS29
import Derived.Test.YtnpomigmeieofaaGreatDoorS30
import Derived.Maps.OwnOps
set_option maxHeartbeats 12800000
namespace Go.Proofs.YtnpomigmeieofaaGreatDoor
open Go.RowKit

def sqP (xs : List Int) (x : Int) : Nat → List Nat
 | 0 => []
 | k + 1 => if xs[k]?.getD 0 = x then sqP xs x k ++ [k] else sqP xs x k
theorem sqP_len (xs : List Int) (x : Int) (k : Nat) : (sqP xs x k).length = ct xs x k := by
 induction k with
 | zero => rfl
 | succ k ih => simp only [sqP, ct]; split <;> simp [ih]
theorem sqP_get {xs : List Int} {x : Int} {a K : Nat} (hx : xs[a]?.getD 0 = x) (h : a < K) : (sqP xs x K)[ct xs x a]?.getD 0 = a ∧ ct xs x a < ct xs x K := by
 induction K with
 | zero => omega
 | succ K ih =>
  rcases Nat.lt_or_ge a K with h2 | h2
  ·obtain ⟨h3, h4⟩ := ih h2
   simp only [sqP, ct]
   split
   ·refine ⟨?_, by omega⟩
    rw [List.getElem?_append_left (by rw [sqP_len]; exact h4)]; exact h3
   ·exact ⟨h3, by omega⟩
  ·obtain rfl : a = K := by omega
   simp only [sqP, ct, if_pos hx]
   rw [List.getElem?_append_right (by rw [sqP_len]; exact Nat.le_refl _), sqP_len]
   simp
theorem sqP_lt {xs : List Int} {x : Int} {j K : Nat} (h : j < ct xs x K) : (sqP xs x K)[j]?.getD 0 < K := by
 have hm : ∀ y ∈ sqP xs x K, y < K := by
  clear h
  induction K with
  | zero => intro y hy; cases hy
  | succ K ih =>
   intro y hy
   simp only [sqP] at hy
   split at hy
   ·rcases List.mem_append.1 hy with hy | hy
    ·have := ih y hy; omega
    ·simp at hy; omega
   ·have := ih y hy; omega
 rw [← sqP_len] at h
 rw [List.getElem?_eq_getElem h]
 exact hm _ (List.getElem_mem h)
def smS (L : List Nat) : Nat → Nat | 0 => 0 | k + 1 => smS L k + ch (L[k]?.getD 0) (k + 1)
theorem smS_append (L M : List Nat) {k : Nat} (h : k ≤ L.length) : smS (L ++ M) k = smS L k := by
 induction k with
 | zero => rfl
 | succ k ih => simp only [smS]; rw [ih (by omega), List.getElem?_append_left (by omega)]
def cmb (xs : List Int) (x : Int) : Nat → Nat
 | 0 => 0
 | k + 1 => cmb xs x k + if xs[k]?.getD 0 = x then ch k (ct xs x (k + 1)) else 0
theorem smS_cmb (xs : List Int) (x : Int) (k : Nat) : smS (sqP xs x k) (ct xs x k) = cmb xs x k := by
 induction k with
 | zero => rfl
 | succ k ih =>
  by_cases h : xs[k]?.getD 0 = x
  ·simp only [sqP, ct, cmb, if_pos h]
   simp only [smS]
   rw [smS_append _ _ (by rw [sqP_len]; exact Nat.le_refl _), ih, List.getElem?_append_right (by rw [sqP_len]; exact Nat.le_refl _), sqP_len]
   simp
  ·simp only [sqP, ct, cmb, if_neg h, Nat.add_zero]; exact ih
theorem ch_mono {n k : Nat} (hn : n < 64) (hk : k ≤ 4) : ch n k ≤ ch (n + 1) k := by
 have h : ∀ n, n < 64 → ∀ k, k < 5 → ch n k ≤ ch (n + 1) k := by decide +kernel
 exact h n hn k (by omega)
theorem ct_mono {xs : List Int} {x : Int} {a b : Nat} (h : a ≤ b) : ct xs x a ≤ ct xs x b := by
 induction b with
 | zero => have : a = 0 := by omega
           subst this; exact Nat.le_refl _
 | succ b ih =>
  rcases Nat.lt_or_ge a (b + 1) with h2 | h2
  ·have := ih (by omega); simp only [ct]; omega
  ·have : a = b + 1 := by omega
   subst this; exact Nat.le_refl _
theorem cmb_lt {xs : List Int} {x : Int} {k : Nat} (hk : k ≤ 64) (h4 : ct xs x k ≤ 4) : cmb xs x k + 1 ≤ ch k (ct xs x k) := by
 induction k with
 | zero => simp [cmb, ct, ch]
 | succ k ih =>
  have hm := ct_mono (xs := xs) (x := x) (show k ≤ k + 1 by omega)
  have := ih (by omega) (by omega)
  by_cases h : xs[k]?.getD 0 = x
  ·simp only [ct, if_pos h] at h4
   simp only [cmb, ct, if_pos h]
   rw [ch_succ (by omega) (by omega)]
   omega
  ·simp only [ct, if_neg h, Nat.add_zero] at h4
   simp only [cmb, ct, if_neg h, Nat.add_zero]
   have := ch_mono (n := k) (k := ct xs x k) (by omega) h4
   omega
def gN (xs : List Int) (s n0 : Nat) : Nat → Nat | 0 => n0 | j + 1 => gN xs s n0 j * ch s (ct xs (grpPiece j) s) + cmb xs (grpPiece j) s
theorem ofM_grp {f r : Int} {xs : List Int} {k j : Nat} (hj : j < 10) : (ofM f r xs k).grp j = (ct xs (grpPiece j) k : Int) := by
 rcases ten hj with rfl | rfl | rfl | rfl | rfl | rfl | rfl | rfl | rfl | rfl <;> rfl
theorem gN_lt {f r : Int} {xs : List Int} {n0 : Nat} (hv : validB (ofM f r xs xs.length) = true) (hs : xs.length = (ofM f r xs xs.length).sq) (h0 : n0 < 2 * xs.length * xs.length) :
  ∀ j, j ≤ 10 → gN xs xs.length n0 j < (ofM f r xs xs.length).prod j := by
 have h64 := (validB_sq hv).2.2
 have ho := validB_ok hv
 intro j
 induction j with
 | zero => intro _; simp only [gN, Men.prod]; rw [← hs]; exact h0
 | succ j ih =>
  intro hj
  have h1 := ih (by omega)
  have hg := grp_bd ho (j := j) (by omega)
  rw [ofM_grp (by omega)] at hg
  have hc := cmb_lt (xs := xs) (x := grpPiece j) (k := xs.length) (by omega) (by omega)
  simp only [gN, Men.prod]
  rw [ofM_grp (by omega), Int.toNat_natCast, ← hs]
  have := Nat.mul_le_mul_right (ch xs.length (ct xs (grpPiece j) xs.length)) (show gN xs xs.length n0 j + 1 ≤ (ofM f r xs xs.length).prod j by omega)
  rw [Nat.succ_mul] at this
  omega
def numN (xs : List Int) (bl : Bool) : Nat := gN xs xs.length (((if bl then 1 else 0) * xs.length + (kgI xs false).toNat) * xs.length + (kgI xs true).toNat) 10
theorem king_idx {xs : List Int} {bl : Bool} {k : Nat} (h : kgI xs bl = k) : idxI xs (6 * sdI bl) = k ∧ k < xs.length ∧ ∀ j, j < xs.length → (xs[j]?.getD 0 = 6 * sdI bl ↔ j = k) := by
 have h0 := idxI_lt (xs := xs) (x := 6 * sdI bl)
 rcases Int.lt_or_le (idxI xs (6 * sdI bl)) 0 with hn | hn
 ·have := kgI_none hn
  omega
 ·obtain ⟨i, hi⟩ : ∃ i : Nat, idxI xs (6 * sdI bl) = i := ⟨(idxI xs (6 * sdI bl)).toNat, by omega⟩
  rcases hd : (xs.drop (i + 1)).any (· == 6 * sdI bl) with _ | _
  ·have hk := kgI_one hi hd
   obtain rfl : i = k := by omega
   obtain ⟨h1, h2, h3⟩ := idxI_get hi
   refine ⟨hi, h1, fun j hj => ⟨fun e => ?_, fun e => by rw [e]; exact h2⟩⟩
   rcases Nat.lt_or_ge j i with h4 | h4
   ·exact absurd e (h3 j h4)
   ·rcases Nat.lt_or_ge i j with h5 | h5
    ·exfalso
     rw [List.any_eq_false] at hd
     refine hd (xs[j]) ?_ (by rw [← e, List.getElem?_eq_getElem hj]; simp)
     rw [List.mem_iff_getElem]
     exact ⟨j - (i + 1), by simp; omega, by simp; congr 1; omega⟩
    ·omega
  ·have := kgI_dup hi hd
   omega
theorem num0_lt {s a b : Nat} (bl : Bool) (ha : a < s) (hb : b < s) : ((if bl then 1 else 0) * s + a) * s + b < 2 * s * s := by
 have h1 : (if bl then 1 else 0) * s + a + 1 ≤ 2 * s := by cases bl <;> simp <;> omega
 have := Nat.mul_le_mul_right s h1
 rw [Nat.succ_mul] at this
 omega
def allInto (ops : Array Oper) (z : Nat) : Bool := (List.range z).all fun i => (List.range (z + 1)).any fun j => decide (i < j) && ((ops[j]?).map (·.after.any fun e => Region.binds .any e && decide (e.on = i))).getD false
theorem allInto_up {ops : Array Oper} {z : Nat} (h : allInto ops z = true) {S : Nat → Bool} (hS : S z = true)
  (hcl : ∀ j o', S j = true → ops[j]? = some o' → ∀ e ∈ o'.after, Region.binds .any e = true → S e.on = true) : ∀ m i, i + m = z → S i = true := by
 intro m
 induction m using Nat.strongRecOn with
 | _ m ih =>
  intro i hi
  rcases m with _ | m
  ·rw [show i = z by omega]; exact hS
  ·unfold allInto at h
   rw [List.all_eq_true] at h
   have h1 := h i (List.mem_range.2 (by omega))
   rw [List.any_eq_true] at h1
   obtain ⟨j, hj, h2⟩ := h1
   rw [List.mem_range] at hj
   simp only [Bool.and_eq_true, decide_eq_true_eq] at h2
   obtain ⟨hij, h3⟩ := h2
   rcases ho : ops[j]? with _ | o'
   ·rw [ho] at h3; simp at h3
   ·rw [ho] at h3
    simp only [Option.map_some, Option.getD_some, Array.any_eq_true', Bool.and_eq_true, decide_eq_true_eq] at h3
    obtain ⟨e, he, hb, rfl⟩ := h3
    exact hcl j o' (ih (z - j) (by omega) j (by omega)) ho e he hb
theorem wp_region_last {P : Program} {id : Nat} {ops : Array Oper} {Q : Exit → Act → World → Prop} {a : Act} {w : World} (hm : P.follows .mixedOrders = true) (hb : edgesBack .any ops = true)
  (ds : List (Option Tmp)) (hds : ops.toList.map (·.dst) = ds) (hok : dstsOk ds = true) (z : Nat) (hz : ops.size = z + 1) (hall : allInto ops z = true)
  (vals : Nat → Value) (C C' : World → Prop) (h0 : C w.drew)
  (hstep : ∀ i o f W, ops[i]? = some o → i < ops.size → i ≠ z → C W → (∀ e ∈ o.after, Region.binds .any e = true → f e.on = vals e.on) → ∀ K : Act → World → Prop, (∀ W', C W' → K ((putL ds f 0 a).put o.dst (vals i)) W') →
   if Region.wanted o (yielded ops (putL ds f 0 a).tmps) = true then o.wp P (putL ds f 0 a) W K Q else K ((putL ds f 0 a).put o.dst undef) W)
  (hturn : ∀ o f W, ops[z]? = some o → C W → (∀ e ∈ o.after, Region.binds .any e = true → f e.on = vals e.on) → ∀ K : Act → World → Prop, (∀ W', C' W' → K ((putL ds f 0 a).put o.dst (vals z)) W') →
   if Region.wanted o (yielded ops (putL ds f 0 a).tmps) = true then o.wp P (putL ds f 0 a) W K Q else K ((putL ds f 0 a).put o.dst undef) W)
  (hend : ∀ f W, C' W → (∀ i, i < ops.size → f i = vals i) → Q .normal (putL ds f 0 a) W) : (Code.region id ops true).wp P Q a w := by
 have hlt : ∀ (i : Nat) (o : Oper), ops[i]? = some o → ∀ e ∈ o.after, Region.binds .any e = true → e.on < ops.size := by
  intro i o ho e he hbd
  have hi : i < ops.size := (Array.getElem?_eq_some_iff.1 ho).1
  have hb' := hb
  unfold edgesBack at hb'
  rw [List.all_eq_true] at hb'
  have h := hb' i (List.mem_range.2 hi)
  rw [ho] at h
  simp only [Option.map_some, Option.getD_some, Array.all_eq_true', Bool.or_eq_true, Bool.not_eq_true', decide_eq_true_eq] at h
  rcases h e he with h | h
  ·rw [hbd] at h; cases h
  ·omega
 refine wp_region_relL hm hb ds hds hok (fun S f W => (∀ i, i < ops.size → S i = true → f i = vals i) ∧ (S z = false → C W) ∧ (S z = true → C' W)) ?_ ?_ ?_ ?_
 ·rintro S S' f W hS ⟨h1, h2, h3⟩
  refine ⟨fun i hi h => h1 i hi (by rw [hS i hi]; exact h), fun h => h2 (by rw [hS z (by omega)]; exact h), fun h => h3 (by rw [hS z (by omega)]; exact h)⟩
 ·intro f
  exact ⟨fun i _ h => (by cases h), fun _ => h0, fun h => (by cases h)⟩
 ·rintro S i o f W ho hi hSi hpre hcl ⟨h1, h2, h3⟩ K hK
  by_cases hiz : i = z
  ·subst hiz
   refine hturn o f W ho (h2 hSi) (fun e he hbd => h1 e.on (hlt i o ho e he hbd) (hpre e he hbd)) K (fun W' hC' => hK _ _ ⟨fun j hj h => ?_, fun h => ?_, fun _ => hC'⟩)
   ·by_cases e : j = i
    ·simp [e]
    ·simp only [upd, if_neg e] at h
     simp only [if_neg e]; exact h1 j hj h
   ·simp [upd] at h
  ·have hSz : S z = false := by
    rcases hs : S z with _ | _
    ·rfl
    ·rw [allInto_up hall hs hcl (z - i) i (by omega)] at hSi; cases hSi
   refine hstep i o f W ho hi hiz (h2 hSz) (fun e he hbd => h1 e.on (hlt i o ho e he hbd) (hpre e he hbd)) K (fun W' hC' => hK _ _ ⟨fun j hj h => ?_, fun _ => hC', fun h => ?_⟩)
   ·by_cases e : j = i
    ·simp [e]
    ·simp only [upd, if_neg e] at h
     simp only [if_neg e]; exact h1 j hj h
   ·have : upd S i z = S z := by simp only [upd, if_neg (fun e : z = i => hiz e.symm)]
    rw [this, hSz] at h; cases h
 ·rintro S f W hall2 ⟨h1, h2, h3⟩
  exact hend f W (h3 (hall2 z (by omega))) (fun i hi => h1 i hi (hall2 i hi))

theorem rounds_ind {F : Fence} {n : Nat} {P : Program} {c : Code} {Q : Exit → Act → World → Prop} (N : Nat) (R : Nat → Act → World → Prop)
  (hr : ∀ k a w, k < N → R k a w → c.wpIn F n P (Exit.then (fun a' w' => R (k + 1) a' w') Q) a w)
  (hl : ∀ a w, R N a w → c.wpIn F n P (Exit.then (fun _ _ => False) Q) a w) : ∀ m k a w, k + m = N → R k a w → Code.roundsIn F n P c Q (m + 1) a w := by
 intro m
 induction m with
 | zero =>
  intro k a w hk h
  obtain rfl : k = N := by omega
  rw [roundsIn_succ]
  refine wpIn_mono (hl a w h) (fun e a' w' h' => ?_)
  cases e <;> first | exact h'.elim | exact h'
 | succ m ih =>
  intro k a w hk h
  rw [roundsIn_succ]
  refine wpIn_mono (hr k a w (by omega) h) (fun e a' w' h' => ?_)
  cases e
  case normal => exact ih (k + 1) a' w' (by omega) h'
  all_goals exact h'
theorem loop_ind {F : Fence} {n : Nat} {P : Program} {c : Code} {Q : Exit → Act → World → Prop} {a : Act} {w : World} (N : Nat) (R : Nat → Act → World → Prop) (h0 : R 0 a w)
  (hr : ∀ k a w, k < N → R k a w → c.wpIn F n P (Exit.then (fun a' w' => R (k + 1) a' w') Q) a w)
  (hl : ∀ a w, R N a w → c.wpIn F n P (Exit.then (fun _ _ => False) Q) a w) : (Code.loop c).wpIn F n P Q a w :=
 wpIn_loop_rounds (N + 1) (rounds_ind N R hr hl N 0 a w (by omega) h0)

def cds (E : List Nat) : List Deferred := E.map fun p => { target := .collected p, args := #[] }
theorem leaves_marks {F : Fence} {n : Nat} {P : Program} {fn : Func} {tmps : Array Value} {R : Ending → World → Prop} {B : Nat} : ∀ (E : List Nat) (w : World), B ≤ w.heap.size →
  (∀ p ∈ E, B ≤ p ∧ HasO w p (.deferred (some []))) → E.Nodup → (∀ w', Below B w w' → LeavesIn F n P fn tmps R [] .returning w') → LeavesInM F n P fn tmps R (cds E) .returning w := by
 intro E
 induction E with
 | nil => intro w hB hE hn h; exact h w (Below.refl _ _)
 | cons p E ih =>
  intro w hB hE hn h
  obtain ⟨hp, hx⟩ := hE p List.mem_cons_self
  rw [List.nodup_cons] at hn
  refine ⟨by simp, .inl ⟨_, _, rfl, run_takeDeferred hx, ?_⟩⟩
  have hbp : Below B w (w.putObj p (.deferred none)) := ⟨rfl, rfl, rfl, by simp, fun k hk => World.putObj_heap_other (by omega)⟩
  refine ih _ (by simpa using hB) (fun q hq => ?_) hn.2 (fun w' hb => h w' ?_)
  ·obtain ⟨h1, h2⟩ := hE q (List.mem_cons_of_mem _ hq)
   exact ⟨h1, (World.putObj_heap_other (fun e => hn.1 (by rw [e] at hq; exact hq))).trans h2⟩
  ·exact hbp.trans hb
end Go.Proofs.YtnpomigmeieofaaGreatDoor
namespace Go.Proofs.YtnpomigmeieofaaGreatDoor
open Go.RowKit
attribute [local go_sem] Oper.semAt_some

def SqRd (q1 q2 : Nat) (cs : List Value) (x : Int) (p : Option Addr) (xs : List Int) (W : World) : Prop :=
 HasO W q1 (.cells cs.toArray 40 (0, 0)) ∧ HasO W q2 (.cells #[.int .i8 x] 81 (0, 0)) ∧ Arr .i8 W p xs
theorem squares_any (cs : List Value) (x : Int) (w : World) : Calls Tryz.prog 49 #[.agg cs.toArray, .int .i8 x] w fun e w' =>
  e = .returned (.func (.func 106) #[] #[.pointer (some ⟨w.heap.size, 0, none⟩), .pointer (some ⟨w.heap.size + 1, 0, none⟩)]) ∧ HasO w' w.heap.size (.cells cs.toArray 40 (0, 0)) ∧ HasO w' (w.heap.size + 1) (.cells #[.int .i8 x] 81 (0, 0)) ∧ Below w.heap.size w w' ∧ w'.heap.size = w.heap.size + 2 := by
 go_enter Tryz.func49, Tryz.ntmps49
 go_wp2_with fail
 go_ret
 have h1 := HasO.new w (.cells cs.toArray 40)
 have h2 := HasO.new' (w.alloc (.cells cs.toArray 40)) (.cells #[.int .i8 x] 81) (q := w.heap.size + 1) (by simp)
 exact ⟨rfl, h1.alloc _, h2, (below_box w _).alloc (by simp) _, by simp⟩
set_option maxRecDepth 100000 in
theorem sq_seq (q1 q2 : Nat) (f r ca pa ha fu : Int) (bl : Bool) (p : Option Addr) (c : Nat) (xs : List Int) (x : Int) (hl : xs.length ≤ 1000) :
  SeqI Tryz.prog 106 #[.pointer (some ⟨q1, 0, none⟩), .pointer (some ⟨q2, 0, none⟩)] (ct xs x xs.length) (fun k => #[.int .i64 (k : Nat), .int .i64 ((sqP xs x xs.length)[k]?.getD 0 : Nat)]) (SqRd q1 q2 (posCs f r p xs.length c bl ca pa ha fu) x p xs) (fun _ _ => False) (fun _ => False) := by
 intro n l J Jx W0 hst hstx hRd hsz hszx h0 hy
 have hJ0 := h0 W0.heap.size W0 (Below.refl _ _) (Nat.le_refl _) rfl
 obtain ⟨hr1, hr2, hr3⟩ := hRd _ _ _ hJ0
 have hct := ct_le xs x
 have hget := fun a => sqP_get (xs := xs) (x := x) (a := a) (K := xs.length)
 have hc0 : ct xs x 0 = 0 := rfl
 have hcs : ∀ k, ct xs x (k + 1) = ct xs x k + if xs[k]?.getD 0 = x then 1 else 0 := fun k => rfl
 generalize sqP xs x xs.length = L at *
 generalize ct xs x = cx at *
 have c2 := hr1.cells 2
 have l1 := hr1.lt
 clear hr2 hr3
 refine callsIn_of_wp Tryz.func106 rfl trivial ?_ rfl
 simp only [Tryz.ntmps106, List.size_toArray, List.length_cons, List.length_nil, Nat.reduceAdd, Nat.reduceSub, Array.replicate_succ, Array.replicate_zero, List.push_toArray, List.append_toArray, List.nil_append, List.cons_append]
 gi_wp2_with fail
 gi_loopw [4, 10] (fun iv kv wr => ∃ i : Nat, i ≤ xs.length ∧ iv = .int .i64 (cx i : Nat) ∧ kv = .int .i64 i ∧ J W0.heap.size (cx i) wr) (fun _ kv _ => (1001 - intOf kv).toNat)
 case atStart => exact ⟨0, Nat.zero_le _, by rw [hc0]; rfl, rfl, by rw [hc0]; exact hJ0⟩
 case round =>
  obtain ⟨i, hi, rfl, rfl, hJ⟩ := hrel
  clear hr1 c2 l1 hJ0 h0
  obtain ⟨hr1, hr2, hr3⟩ := hRd _ _ _ hJ
  have hcb := hct i
  by_cases hlt : i < xs.length
  ·have hii : (i : Int) < xs.length := by omega
   obtain ⟨g, o, rfl, hgl, hcc⟩ := hr3.at hlt
   have hci := hcc i hlt
   have c2 := hr1.cells 2
   have l1 := hr1.lt
   have cx2 := hr2.cells 0
   have l2 := hr2.lt
   have hcsi := hcs i
   have hg := hget i
   obtain ⟨y, hyy⟩ : ∃ y, xs[i]?.getD 0 = y := ⟨_, rfl⟩
   rw [hyy] at hci hcsi hg
   clear hcc hyy hcs hget hr3
   rcases (by omega : y = x ∨ y ≠ x) with rfl | hne
   ·obtain ⟨hg1, hg2⟩ := hg rfl hlt
    rw [if_pos rfl] at hcsi
    have hyk := hy W0.heap.size (cx i) wr (Nat.le_refl _) hg2 hJ (fun q h1 h2 => by omega)
    change YieldAt _ _ _ _ #[.int .i64 (cx i : Nat), .int .i64 (L[cx i]?.getD 0 : Nat)] _ _ at hyk
    rw [hg1] at hyk
    obtain ⟨fn, tmps, assign, body, hy1, hR⟩ := hyk
    replace hcsi := Lib.hid hcsi
    clear hg hg1
    gi_wp2_with fail
    refine ⟨fun h => by simp [Fence.wide] at h, (roundIn_any hR).mono ?_⟩
    rintro e W' (⟨rfl, hJ', _⟩ | ⟨rfl, hJx⟩)
    ·gi_wp2_with fail
     go_roundw
     case measure => simp [intOf]; omega
     case rel => exact ⟨i + 1, by omega, by rw [hcsi.out]; go_num, by go_num, by rw [hcsi.out]; exact hJ'⟩
    ·gi_wp2_with fail
     refine bodyPost_ret (results_none rfl _ _ _) rfl ?_
     exact ⟨W0.heap.size, Nat.le_refl _, .inl ⟨⟨_, rfl⟩, .inr ⟨cx i, hg2, hJx⟩⟩⟩
   ·replace hcsi : cx (i + 1) = cx i := by rw [hcsi, if_neg hne]; rfl
    rw [← hcsi] at hJ
    replace hcsi := Lib.hid hcsi
    have hne2 : (y == x) = false := by simpa using hne
    clear hg
    gi_wp2_with fail
    go_roundw
    case measure => simp [intOf]; omega
    case rel => exact ⟨i + 1, by omega, by rw [hcsi.out], by go_num, hJ⟩
  ·obtain rfl : i = xs.length := by omega
   have c2 := hr1.cells 2
   have l1 := hr1.lt
   gi_wp2_with fail
   first
    | (go_end0; exact ⟨W0.heap.size, Nat.le_refl _, .inl ⟨⟨_, rfl⟩, .inl hJ⟩⟩)
    | (refine bodyPost_ret (results_none rfl _ _ _) rfl ?_; exact ⟨W0.heap.size, Nat.le_refl _, .inl ⟨⟨_, rfl⟩, .inl hJ⟩⟩)
end Go.Proofs.YtnpomigmeieofaaGreatDoor
namespace Go.Proofs.YtnpomigmeieofaaGreatDoor
open Go.RowKit
open Go.Maps (Keyed bool_keyed keyOf_bool_mk)

theorem wpList_insert_own {H : Type} {P : Program} (w : World) {ops : Array Oper} {rest : List Oper} {o : Oper} {a : Act} {Q : Exit → Act → World → Prop}
  (hg : o.guard = none) (m x v : Operand) (t : TypeId) (hop : o.op = Op.insert t m x v)
  (k e : TypeId) (K : Keyed P k) (ht : P.underlying t = some (.map k e)) (R : Value → Option (DataW H × List MemPlace)) (b n : Nat) (D : DataW H)
  (hm : a.eval m = .map (some b)) (hown : w.ownsMap P k R b n D) (hn : n < maxLen) (key val : Value) (kl : Lit) (hx : a.eval x = key) (hv : a.eval v = val) (hkey : keyOf P k key = some kl)
  (d : DataW H) (ps : List MemPlace) (hval : R val = some (d, ps))
  (hK : ∀ w', w'.ownsMap P k R b (n + 1) (D.put kl d) → w.grownBy w' (some b) → wpList P ops Q rest (a.put o.dst undef) w') :
  wpList P ops Q (o :: rest) a w := by
 refine wpList_plain hg fun K' hK' => ?_
 obtain ⟨w', hrun, r1, r2⟩ := hown.update K ht hn hkey hval
 unfold Oper.wp
 simp [execOp, hop, hm, hx, hv, hrun, Result.andThen]
 exact hK' _ _ (hK w' r1 r2)
theorem Tryz.law4 : Keyed Tryz.prog 4 := bool_keyed Tryz.underlying4
theorem Tryz.zero3 (w : World) : (zeroValue 3).run Tryz.prog w = .ok (.int .i64 0) w := by kernel_rfl
theorem two_at (a b c : Int) (x : Bool) (h : (((DataW.map (H := Unit) []).put (.bool false) (.lit (.int .i64 a))).put (.bool true) (.lit (.int .i64 b))).atKey (.bool x) (.lit (.int .i64 0)) = .lit (.int .i64 c)) : c = if x then b else a := by
 cases x
 ·have : (DataW.lit (H := Unit) (.int .i64 a)) = .lit (.int .i64 c) := h
  injection this with this; injection this with _ this; exact this.symm
 ·have : (DataW.lit (H := Unit) (.int .i64 b)) = .lit (.int .i64 c) := h
  injection this with this; injection this with _ this; exact this.symm
theorem one_at (b c : Int) (x : Bool) (h : ((DataW.map (H := Unit) []).put (.bool true) (.lit (.int .i64 b))).atKey (.bool x) (.lit (.int .i64 0)) = .lit (.int .i64 c)) : c = if x then b else 0 := by
 cases x
 ·have : (DataW.lit (H := Unit) (.int .i64 0)) = .lit (.int .i64 c) := h
  injection this with this; injection this with _ this; exact this.symm
 ·have : (DataW.lit (H := Unit) (.int .i64 b)) = .lit (.int .i64 c) := h
  injection this with this; injection this with _ this; exact this.symm
theorem below_grown {B b : Nat} {w w1 w' : World} (h : Below B w w1) (hg : w1.grownBy w' (some b)) (hB : B ≤ b) (hs : B ≤ w1.heap.size) : Below B w w' :=
 h.grown hg hs (fun j hj => by cases hj; exact hB)

def TabW (g : Nat) (W : World) : Prop := g < W.heap.size ∧ ∀ n k, n ≤ 64 → k ≤ 4 → W.cell? ⟨g, n * 5 + k, none⟩ = some (.int .i64 (ch n k : Nat))
theorem TabW.call {g : Nat} {W W' : World} (h : TabW g W) (hb : Below W.heap.size W W') : TabW g W' :=
 ⟨Nat.lt_of_lt_of_le h.1 hb.size, fun n k hn hk => (hb.cell (p := ⟨g, n * 5 + k, none⟩) h.1).trans (h.2 n k hn hk)⟩
theorem TabW.alt {g lo hi : Nat} {W W' : World} (h : TabW g W) (ha : Alt lo hi W W') (hg : g < lo ∨ hi ≤ g) : TabW g W' := by
 refine ⟨Nat.lt_of_lt_of_le h.1 ha.size, fun n k hn hk => ?_⟩
 rw [← h.2 n k hn hk]
 unfold World.cell?
 rw [ha.block g h.1 hg]
theorem TabW.ne {g q : Nat} {W : World} {x : Value} {t : TypeId} (h : TabW g W) (hq : HasO W q (.cells #[x] t (0, 0))) : g ≠ q := by
 rintro rfl
 have h1 := h.2 1 0 (by omega) (by omega)
 rw [hq.cells 5] at h1
 simp at h1
theorem alloc118 (W : World) : (Instr.alloc 77 true (.tuple #[])).run Tryz.prog W = .ok (.pointer (some ⟨W.heap.size, 0, none⟩)) (W.alloc (.cells #[.pointer none] 77)) := by kernel_rfl
def wyR (w1 : World) (v0 v1 v2 : Value) (S : Nat → Bool) (f : Nat → Value) (W : World) : Prop :=
 Below w1.heap.size w1 W ∧ (S 0 = true → f 0 = v0) ∧ (S 1 = true → f 1 = v1) ∧ (S 2 = true → f 2 = v2) ∧
 (S 3 = true → ∃ g, f 3 = .pointer (some ⟨g, 0, none⟩) ∧ w1.heap.size ≤ g ∧ TabW g W) ∧
 (S 4 = true → ∃ q, f 4 = .pointer (some ⟨q, 0, none⟩) ∧ w1.heap.size ≤ q ∧ ∃ x, HasO W q (.cells #[x] 77 (0, 0)) ∧ (S 6 = true → x = f 3)) ∧
 (S 5 = true → f 5 = v2) ∧ (S 6 = true → S 3 = true ∧ S 4 = true)
section
variable {w1 W : World} {v0 v1 v2 : Value} {S : Nat → Bool} {f : Nat → Value}
theorem wy_congr (S S' : Nat → Bool) (f : Nat → Value) (W : World) (hS : ∀ i, i < 7 → S i = S' i) (h : wyR w1 v0 v1 v2 S f W) : wyR w1 v0 v1 v2 S' f W := by
 unfold wyR at *
 rw [← hS 0 (by omega), ← hS 1 (by omega), ← hS 2 (by omega), ← hS 3 (by omega), ← hS 4 (by omega), ← hS 5 (by omega), ← hS 6 (by omega)]
 exact h
theorem wy_init (f : Nat → Value) : wyR w1 v0 v1 v2 (fun _ => false) f w1.drew :=
 ⟨(Below.refl _ _).drew, fun h => (by cases h), fun h => (by cases h), fun h => (by cases h), fun h => (by cases h), fun h => (by cases h), fun h => (by cases h), fun h => (by cases h)⟩
theorem wy_0 (h : wyR w1 v0 v1 v2 S f W) : wyR w1 v0 v1 v2 (upd S 0) (fun j => if j = 0 then v0 else f j) W := by
 obtain ⟨hC, h0, h1, h2, h3, h4, h5, h6⟩ := h
 exact ⟨hC, by simp, by simpa [upd] using h1, by simpa [upd] using h2, by simpa [upd] using h3, by simpa [upd] using h4, by simpa [upd] using h5, by simpa [upd] using h6⟩
theorem wy_1 (h : wyR w1 v0 v1 v2 S f W) : wyR w1 v0 v1 v2 (upd S 1) (fun j => if j = 1 then v1 else f j) W := by
 obtain ⟨hC, h0, h1, h2, h3, h4, h5, h6⟩ := h
 exact ⟨hC, by simpa [upd] using h0, by simp, by simpa [upd] using h2, by simpa [upd] using h3, by simpa [upd] using h4, by simpa [upd] using h5, by simpa [upd] using h6⟩
theorem wy_2 (h : wyR w1 v0 v1 v2 S f W) : wyR w1 v0 v1 v2 (upd S 2) (fun j => if j = 2 then v2 else f j) W := by
 obtain ⟨hC, h0, h1, h2, h3, h4, h5, h6⟩ := h
 exact ⟨hC, by simpa [upd] using h0, by simpa [upd] using h1, by simp, by simpa [upd] using h3, by simpa [upd] using h4, by simpa [upd] using h5, by simpa [upd] using h6⟩
theorem wy_5 (h : wyR w1 v0 v1 v2 S f W) : wyR w1 v0 v1 v2 (upd S 5) (fun j => if j = 5 then v2 else f j) W := by
 obtain ⟨hC, h0, h1, h2, h3, h4, h5, h6⟩ := h
 exact ⟨hC, by simpa [upd] using h0, by simpa [upd] using h1, by simpa [upd] using h2, by simpa [upd] using h3, by simpa [upd] using h4, by simp, by simpa [upd] using h6⟩
theorem wy_3 (h : wyR w1 v0 v1 v2 S f W) (hS : S 3 = false) {W' : World} {g : Nat} (hb : Below W.heap.size W W') (hg : w1.heap.size ≤ g) (ht : TabW g W') :
  wyR w1 v0 v1 v2 (upd S 3) (fun j => if j = 3 then .pointer (some ⟨g, 0, none⟩) else f j) W' := by
 obtain ⟨hC, h0, h1, h2, h3, h4, h5, h6⟩ := h
 have hS6 : S 6 = false := by
  rcases h : S 6 with _ | _
  ·rfl
  ·rw [(h6 h).1] at hS; cases hS
 refine ⟨below_call hC hC.size hb, by simpa [upd] using h0, by simpa [upd] using h1, by simpa [upd] using h2, fun _ => ⟨g, by simp, hg, ht⟩, ?_, by simpa [upd] using h5, by simp [upd, hS6]⟩
 intro hs
 obtain ⟨q, e, hq, x, hx, _⟩ := h4 (by simpa [upd] using hs)
 exact ⟨q, by simpa using e, hq, x, hx.call hb, by simp [upd, hS6]⟩
theorem wy_4 (h : wyR w1 v0 v1 v2 S f W) (hS : S 4 = false) : wyR w1 v0 v1 v2 (upd S 4) (fun j => if j = 4 then .pointer (some ⟨W.heap.size, 0, none⟩) else f j) (W.alloc (.cells #[.pointer none] 77)) := by
 obtain ⟨hC, h0, h1, h2, h3, h4, h5, h6⟩ := h
 have hS6 : S 6 = false := by
  rcases h : S 6 with _ | _
  ·rfl
  ·rw [(h6 h).2] at hS; cases hS
 have hb := below_box W (.cells #[.pointer none] 77)
 refine ⟨below_call hC hC.size hb, by simpa [upd] using h0, by simpa [upd] using h1, by simpa [upd] using h2, ?_, ?_, by simpa [upd] using h5, by simp [upd, hS6]⟩
 ·intro hs
  obtain ⟨g, e, hg, ht⟩ := h3 (by simpa [upd] using hs)
  exact ⟨g, by simpa using e, hg, ht.call hb⟩
 ·intro _
  exact ⟨W.heap.size, by simp, hC.size, _, HasO.new _ _, by simp [upd, hS6]⟩
theorem wy_6 (h : wyR w1 v0 v1 v2 S f W) (hS3 : S 3 = true) (hS4 : S 4 = true) {q : Nat} (e : f 4 = .pointer (some ⟨q, 0, none⟩)) :
  wyR w1 v0 v1 v2 (upd S 6) (fun j => if j = 6 then undef else f j) (W.setCell ⟨q, 0, none⟩ (f 3)) := by
 obtain ⟨hC, h0, h1, h2, h3, h4, h5, h6⟩ := h
 obtain ⟨g, e3, hg, ht⟩ := h3 hS3
 obtain ⟨q', e', hq, x, hx, _⟩ := h4 hS4
 rw [e] at e'
 injection e' with e'; injection e' with e'; injection e' with e'
 subst e'
 have hne := ht.ne hx
 have hA : Alt q (q + 1) W (W.setCell ⟨q, 0, none⟩ (f 3)) := Alt.setCell ⟨Nat.le_refl _, Nat.lt_succ_self _⟩
 refine ⟨hC.setCell (p := ⟨q, 0, none⟩) hq _, by simpa [upd] using h0, by simpa [upd] using h1, by simpa [upd] using h2, ?_, ?_, by simpa [upd] using h5, by simp [upd, hS3, hS4]⟩
 ·intro _
  exact ⟨g, by simpa using e3, hg, ht.alt hA (by omega)⟩
 ·intro _
  exact ⟨q, by simpa using e, hq, f 3, hx.set_ 0 (f 3), by simp⟩
end
def NumW (w : World) (cs : List Value) (q8 q9 g gg : Nat) (m : Men) (E : List Nat) (n : Nat) (W : World) : Prop :=
 Below w.heap.size w W ∧ HasO W w.heap.size (.cells cs.toArray 40 (0, 0)) ∧ HasO W q8 (.cells #[.pointer (some ⟨g, 0, none⟩)] 77 (0, 0)) ∧ HasO W q9 (.cells #[.int .i64 (n : Nat)] 3 (0, 0)) ∧
 TabW g W ∧ (gg < W.heap.size ∧ ∀ j, j < 10 → W.cell? ⟨gg, j * 2, none⟩ = some (.int .i8 (grpPiece j)) ∧ W.cell? ⟨gg, j * 2 + 1, none⟩ = some (.int .i64 (m.grp j))) ∧
 ∀ p ∈ E, w.heap.size ≤ p ∧ HasO W p (.deferred (some []))
theorem NumW.alt {w : World} {cs : List Value} {q8 q9 g gg : Nat} {m : Men} {E : List Nat} {n lo hi : Nat} {W W' : World} (h : NumW w cs q8 q9 g gg m E n W) (ha : Alt lo hi W W')
  (h0 : w.heap.size < lo) (h8 : q8 < lo) (h9 : q9 < lo) (hg : g < lo) (hgg : gg < lo) (hE : ∀ p ∈ E, p < lo) : NumW w cs q8 q9 g gg m E n W' := by
 obtain ⟨b, i0, i8, i9, it, ⟨ig, ic⟩, iE⟩ := h
 refine ⟨ha.below b (by omega) b.size, ha.hasO i0 (by omega), ha.hasO i8 (by omega), ha.hasO i9 (by omega), it.alt ha (by omega), ⟨Nat.lt_of_lt_of_le ig ha.size, fun j hj => ?_⟩, fun p hp => ⟨(iE p hp).1, ha.hasO (iE p hp).2 (.inl (hE p hp))⟩⟩
 have hc : ∀ x, W'.cell? ⟨gg, x, none⟩ = W.cell? ⟨gg, x, none⟩ := fun x => by
  unfold World.cell?
  rw [ha.block gg ig (.inl hgg)]
 rw [hc, hc]; exact ic j hj
theorem NumW.call {w : World} {cs : List Value} {q8 q9 g gg : Nat} {m : Men} {E : List Nat} {n : Nat} {W W' : World} (h : NumW w cs q8 q9 g gg m E n W) (hb : Below W.heap.size W W') : NumW w cs q8 q9 g gg m E n W' := by
 have h' := h
 obtain ⟨b, i0, i8, i9, it, ⟨ig, ic⟩, iE⟩ := h'
 exact h.alt (Alt.call (lo := W.heap.size) (hi := W.heap.size) hb) i0.lt i8.lt i9.lt it.1 ig (fun p hp => (iE p hp).2.lt)
theorem NumW.set {w : World} {cs : List Value} {q8 q9 g gg : Nat} {m : Men} {E : List Nat} {n n' : Nat} {W : World} (h : NumW w cs q8 q9 g gg m E n W)
  (h0 : w.heap.size < q9) (h8 : q8 ≠ q9) (hgg : gg ≠ q9) (hE : ∀ p ∈ E, p ≠ q9) : NumW w cs q8 q9 g gg m E n' (W.setCell ⟨q9, 0, none⟩ (.int .i64 (n' : Nat))) := by
 obtain ⟨b, i0, i8, i9, it, ⟨ig, ic⟩, iE⟩ := h
 have hg := it.ne i9
 have ha : Alt q9 (q9 + 1) W (W.setCell ⟨q9, 0, none⟩ (.int .i64 (n' : Nat))) := Alt.setCell ⟨Nat.le_refl _, Nat.lt_succ_self _⟩
 refine ⟨ha.below b (by omega) b.size, ha.hasO i0 (by omega), ha.hasO i8 (by omega), i9.set_ 0 _, it.alt ha (by omega), ⟨Nat.lt_of_lt_of_le ig ha.size, fun j hj => ?_⟩, fun p hp => ⟨(iE p hp).1, ha.hasO (iE p hp).2 (by have := hE p hp; omega)⟩⟩
 have hc : ∀ x, (W.setCell ⟨q9, 0, none⟩ (.int .i64 (n' : Nat))).cell? ⟨gg, x, none⟩ = W.cell? ⟨gg, x, none⟩ := fun x => by
  unfold World.cell?
  rw [ha.block gg ig (by omega)]
 rw [hc, hc]; exact ic j hj
theorem leave0 {F : Fence} {n : Nat} {P : Program} {fn : Func} {R : Ending → World → Prop} {tmps : Array Value} {w : World} (v : Value) (h : (results fn tmps).run P w = .ok v w) (hR : R (.returned v) w) : bodyPostM F n P fn R .ret { tmps := tmps, defers := [] } w := ⟨v, h, hR⟩
theorem leaveE {F : Fence} {n : Nat} {P : Program} {fn : Func} {R : Ending → World → Prop} {tmps : Array Value} {B : Nat} (E : List Nat) (w : World) (hB : B ≤ w.heap.size)
  (hE : ∀ p ∈ E, B ≤ p ∧ HasO w p (.deferred (some []))) (hn : E.Nodup) (h : ∀ w', Below B w w' → ∃ v, (results fn tmps).run P w' = .ok v w' ∧ R (.returned v) w') : bodyPostM F n P fn R .ret { tmps := tmps, defers := cds E } w :=
 leaves_marks E w hB hE hn h
theorem wpList_storeTo {P : Program} {ops : Array Oper} {rest : List Oper} {o : Oper} {a : Act} {w wz : World} {Q : Exit → Act → World → Prop} {g : Nat} {cells : Array Value} (hwz : Hid (wz = w.setRow g cells)) (hgd : o.guard = none) (ty : TypeId) (x y : Operand) (ho : o.op = .store ty x y)
  (hx : a.eval x = .pointer (some ⟨g, 0, none⟩)) (hy : a.eval y = .agg cells)
  (t : TypeId) (old : Array Value) (hg : HasO w g (.cells old t (0, 0))) (hi : (P.info? ty).map (·.size) = some cells.size)
  (hold : old.size = cells.size) (h1 : cells.all (·.oneCell') = true)
  (h : wpList P ops Q rest (a.put o.dst undef) wz) : wpList P ops Q (o :: rest) a w := by
 have hwz := hwz.out
 subst hwz
 exact wpList_storeAgg hgd ty x y ho g cells hx hy t old hg hi hold h1 (fun _ e => e ▸ h)
def numE (f r : Int) (xs : List Int) (bl : Bool) (ca pa ha fu : Int) : Int × Int :=
 if pvB f r xs bl ca pa ha fu then (if validB (ofM f r xs xs.length) then (if countN (ofM f r xs xs.length) ≤ 1048576 then
  (if ca ≠ 0 ∨ (0 ≤ pa ∧ 0 < (if bl then (ofM f r xs xs.length).b0 else (ofM f r xs xs.length).w0)) then (0, 9) else (((numN xs bl : Nat) : Int), 0)) else (0, 7)) else (0, 7)) else (0, 2)
end Go.Proofs.YtnpomigmeieofaaGreatDoor
