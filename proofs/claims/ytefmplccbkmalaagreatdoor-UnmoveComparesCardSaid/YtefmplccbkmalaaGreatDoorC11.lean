import Derived.Test.YtefmplccbkmalaaGreatDoorC10
set_option maxHeartbeats 12800000
namespace Go.Proofs.YtefmplccbkmalaaGreatDoor
open Go.RowKit

def vOrL (base : Nat) (vals : Nat → Value) (ol : Nat → Option (List Int)) (i : Nat) (v : Value) (W : World) : Prop :=
 match ol i with
 | some L => W.ownsRow base 3 1 v L.length (L.map (.int .i64))
 | none => v = vals i
theorem vOrL_stab {base : Nat} {vals : Nat → Value} {ol : Nat → Option (List Int)} {i : Nat} {v : Value} {W W' : World} (hb : Below W.heap.size W W') (h : vOrL base vals ol i v W) : vOrL base vals ol i v W' := by
 unfold vOrL at h ⊢
 cases e : ol i with
 | none => rw [e] at h; exact h
 | some L => rw [e] at h; exact own_call h hb
theorem wp_region_vl {P : Program} {id : Nat} {ops : Array Oper} {Q : Exit → Act → World → Prop} {a : Act} {w : World} (hm : P.follows .mixedOrders = true) (hb : edgesBack .any ops = true)
  (ds : List (Option Tmp)) (hds : ops.toList.map (·.dst) = ds) (hok : dstsOk ds = true) (base : Nat) (vals : Nat → Value) (ol : Nat → Option (List Int))
  (hstep : ∀ i o f W, ops[i]? = some o → i < ops.size → Below w.heap.size w W → (∀ e ∈ o.after, Region.binds .any e = true → vOrL base vals ol e.on (f e.on) W) → ∀ K : Act → World → Prop, (∀ u W', Below W.heap.size W W' → vOrL base vals ol i u W' → K ((putL ds f 0 a).put o.dst u) W') →
   if Region.wanted o (yielded ops (putL ds f 0 a).tmps) = true then o.wp P (putL ds f 0 a) W K Q else K ((putL ds f 0 a).put o.dst undef) W)
  (hend : ∀ f W, Below w.heap.size w W → (∀ i, i < ops.size → vOrL base vals ol i (f i) W) → Q .normal (putL ds f 0 a) W) : (Code.region id ops true).wp P Q a w := by
 refine wp_region_agL hm hb ds hds hok (fun W => Below w.heap.size w W) (fun W W' => Below W.heap.size W W') (vOrL base vals ol) (fun i v W W' _ h h2 => vOrL_stab h h2) (Below.refl _ _).drew ?_ hend
 intro i o f W ho hi hC hf K hK
 exact hstep i o f W ho hi hC hf K (fun u W' h1 h2 => hK u W' (below_call hC hC.size h1) h1 h2)

theorem or_pow {S n : Nat} (h : S.testBit n = false) : S ||| 2 ^ n = S + 2 ^ n := by
 have h1 : S = 2 ^ n * (S / 2 ^ n) + S % 2 ^ n := (Nat.div_add_mod S (2 ^ n)).symm
 obtain ⟨q, hq⟩ : ∃ q, q = S / 2 ^ n := ⟨_, rfl⟩
 obtain ⟨m, hm⟩ : ∃ m, m = S % 2 ^ n := ⟨_, rfl⟩
 have hml : m < 2 ^ n := by rw [hm]; exact Nat.mod_lt _ (Nat.two_pow_pos n)
 rw [← hq, ← hm] at h1
 have hq2 : q % 2 = 0 := by
  rw [Nat.testBit_eq_decide_div_mod_eq, ← hq] at h
  simp at h
  omega
 obtain ⟨k, hk⟩ : ∃ k, q = 2 * k := ⟨q / 2, by omega⟩
 have e1 : S = 2 ^ (n + 1) * k + m := by rw [h1, hk, Nat.pow_succ, Nat.mul_assoc]
 have hm1 : m < 2 ^ (n + 1) := Nat.lt_of_lt_of_le hml (Nat.pow_le_pow_right (by decide) (by omega))
 have hm2 : 2 ^ n + m < 2 ^ (n + 1) := by rw [Nat.pow_succ]; omega
 have e2 : 2 ^ n * 1 + m = 2 ^ n * 1 ||| m := Nat.two_pow_add_eq_or_of_lt hml 1
 have e3 : 2 ^ (n + 1) * k + m = 2 ^ (n + 1) * k ||| m := Nat.two_pow_add_eq_or_of_lt hm1 k
 have e4 : 2 ^ (n + 1) * k + (2 ^ n + m) = 2 ^ (n + 1) * k ||| (2 ^ n + m) := Nat.two_pow_add_eq_or_of_lt hm2 k
 rw [Nat.mul_one] at e2
 rw [e1]
 rw [show 2 ^ (n + 1) * k + m + 2 ^ n = 2 ^ (n + 1) * k + (2 ^ n + m) by omega, e4, e3, e2, Nat.or_assoc, Nat.or_comm m]
def ofL (L : List Int) : Nat → Nat
 | 0 => 0
 | k + 1 => if hasS (ofL L k) (L[k]?.getD 0) then ofL L k else ofL L k ||| 2 ^ (L[k]?.getD 0).toNat
def sqL (L : List Int) : Prop := ∀ k, k < L.length → 0 ≤ L[k]?.getD 0 ∧ L[k]?.getD 0 < 64
theorem ofL_lt {L : List Int} (h : sqL L) : ∀ k, k ≤ L.length → ofL L k < 2 ^ 64 := by
 intro k
 induction k with
 | zero => intro _; simp [ofL]
 | succ k ih =>
  intro hk
  have h1 := h k (by omega)
  have h2 := ih (by omega)
  simp only [ofL]
  split
  ·exact h2
  ·exact Nat.or_lt_two_pow h2 (Nat.pow_lt_pow_right (by decide) (by omega))
theorem ofL_bit {L : List Int} (h : sqL L) (i : Nat) : ∀ k, k ≤ L.length → ((ofL L k).testBit i = true ↔ ∃ j, j < k ∧ L[j]?.getD 0 = i) := by
 intro k
 induction k with
 | zero => intro _; simp [ofL]
 | succ k ih =>
  intro hk
  obtain ⟨h1, h2⟩ := h k (by omega)
  have ih := ih (by omega)
  obtain ⟨n, hn⟩ : ∃ n : Nat, L[k]?.getD 0 = n := ⟨(L[k]?.getD 0).toNat, by omega⟩
  simp only [ofL, hn]
  rw [hasS_nat _ _ (by omega)]
  have hs : (∃ j, j < k + 1 ∧ L[j]?.getD 0 = i) ↔ ((∃ j, j < k ∧ L[j]?.getD 0 = i) ∨ n = i) := by
   constructor
   ·rintro ⟨j, hj, e⟩
    by_cases hjk : j = k
    ·subst hjk; right; rw [hn] at e; omega
    ·left; exact ⟨j, by omega, e⟩
   ·rintro (⟨j, hj, e⟩ | e)
    ·exact ⟨j, by omega, e⟩
    ·exact ⟨k, by omega, by rw [hn, e]⟩
  rw [hs]
  by_cases hb : (ofL L k).testBit n = true
  ·rw [if_pos hb, ih]
   constructor
   ·exact .inl
   ·rintro (h | h)
    ·exact h
    ·rw [← ih, ← h]; exact hb
  ·rw [if_neg hb, Nat.testBit_or, Nat.testBit_two_pow, Bool.or_eq_true, ih, Int.toNat_natCast]
   simp
theorem u64_wrap {n : Nat} (h : n < 2 ^ 64) : IntKind.u64.wrap ((n : Nat) : Int) = n := by
 simp only [IntKind.wrap, IntKind.bits, IntKind.signed]
 simp
 omega
theorem refOfL_any (p : Option Addr) (c : Nat) (L : List Int) (w : World) (hx : Arr .i64 w p L) (hl : L.length ≤ 1000) (hs : sqL L) :
  Calls Tryz.prog 189 #[.slice p L.length c] w fun e w' => e = .returned (.int .u64 (ofL L L.length : Nat)) ∧ Below w.heap.size w w' := by
 go_enter Tryz.func189, Tryz.ntmps189
 go_wp2_with fail
 go_loopg [3, 4] 1001 (fun q sv iv wr => ∃ i : Nat, q + i = 1001 ∧ i ≤ L.length ∧ iv = .int .i64 i ∧ sv = .int .u64 (ofL L i : Nat) ∧ Below w.heap.size w wr)
 case atStart => exact ⟨0, rfl, Nat.zero_le _, rfl, rfl, Below.refl _ _⟩
 case round =>
  obtain ⟨i, hq, hi, rfl, rfl, hb⟩ := hrel
  by_cases hlt : i < L.length
  ·have hii : (i : Int) < L.length := by omega
   obtain ⟨b, o, rfl, hbl, hc⟩ := (hx.call hb).at hlt
   have hci := hc i hlt
   obtain ⟨h1, h2⟩ := hs i hlt
   obtain ⟨n, hn⟩ : ∃ n : Nat, L[i]?.getD 0 = n := ⟨(L[i]?.getD 0).toNat, by omega⟩
   have hlt64 := ofL_lt hs i (by omega)
   have hnx : ofL L (i + 1) = if hasS (ofL L i) (L[i]?.getD 0) then ofL L i else ofL L i ||| 2 ^ (L[i]?.getD 0).toNat := rfl
   rw [hn] at hci h1 h2 hnx
   replace hn := Lib.hid hn
   clear hc
   generalize ofL L i = S at hlt64 hnx ⊢
   go_wp2_with fail
   refine (refHas_any S n _).mono ?_
   rintro e w2 ⟨rfl, rfl⟩
   rcases hyx : hasS S n with _ | _
   ·have hnb : S.testBit n = false := by rw [← hasS_nat S n (by omega)]; exact hyx
    have hsum := or_pow hnb
    have e1 : S + 2 ^ n < 2 ^ 64 := by rw [← hsum]; exact Nat.or_lt_two_pow hlt64 (Nat.pow_lt_pow_right (by decide) (by omega))
    rw [hyx, Int.toNat_natCast] at hnx
    replace hnx : Hid (ofL L (i + 1) = S + 2 ^ n) := Lib.hid (by rw [hnx, ← hsum]; rfl)
    replace hsum := Lib.hid hsum
    have hnn : n < 64 := by omega
    go_wp2_with fail
    go_roundg (gk - 1)
    case measure => omega
    case rel =>
     refine ⟨i + 1, by omega, by omega, by go_num, ?_, hb⟩
     rw [u64_pow hnn, hnx.out, ← Int.natCast_add, u64_wrap e1]
   ·rw [hyx] at hnx
    replace hnx : Hid (ofL L (i + 1) = S) := Lib.hid hnx
    go_wp2_with fail
    go_roundg (gk - 1)
    case measure => omega
    case rel => exact ⟨i + 1, by omega, by omega, by go_num, by rw [hnx.out], hb⟩
  ·have hii : ¬ (i : Int) < L.length := by omega
   obtain rfl : i = L.length := by omega
   go_wp2_with fail
   go_ret
   exact ⟨rfl, hb⟩
theorem own_arr0 {W : World} {base : Nat} {t : TypeId} {v : Value} {k : IntKind} {xs : List Int} (h : W.ownsRow base t 1 v xs.length (xs.map (.int k))) : ∃ p c, v = .slice p xs.length c ∧ xs.length ≤ c ∧ Arr k W p xs ∧ (p = none → c = 0) := by
 obtain ⟨p, c, e, hc, hA⟩ := own_arr h
 refine ⟨p, c, e, hc, hA, fun hp => ?_⟩
 rcases h.2 with ⟨h1, _⟩ | ⟨g, cap, cur, h1, _⟩
 ·rw [e] at h1; injection h1
 ·rw [e] at h1; injection h1 with h2; rw [hp] at h2; cases h2
section ops
variable {P : Program} {o : Oper} {a : Act} {w : World} {K : Act → World → Prop} {Q : Exit → Act → World → Prop} {t : Nat → Option Bool} {X : Prop}
theorem st_appendOA (hg : o.guard = none) (s x : Operand) (ty : TypeId) (ho : o.op = .call { callee := .builtin .append, args := #[s, x], argTypes := #[ty, ty] })
  (base : Nat) (e : TypeId) (i : TypeInfo) (z : Value) (bytes : Nat) (ht : P.underlying ty = some (.slice e)) (hi : P.info? e = some i) (hz : i.zero = some z)
  (hsize : i.size = 1) (hby : i.bytes = bytes) (hzs : z.cells.size = 1) (k : IntKind) {p : Option Addr} {c : Nat} {xs : List Int} {v : Value} {n : Nat} {ys : List Value}
  (hs : a.eval s = v) (hown : w.ownsRow base e 1 v n ys) (hx : a.eval x = .slice p xs.length c) (hp : p = none → c = 0) (hA : Arr k w p xs)
  (hbytes : (n + xs.length) * (bytes + 1) ≤ 140737488355328) (hbase : base ≤ w.heap.size)
  (h : ∀ v' w', w'.ownsRow base e 1 v' (n + xs.length) (ys ++ xs.map (.int k)) → Below base w w' → K (a.put o.dst v') w') : if Region.wanted o t = true then o.wp P a w K Q else X := by
 rcases p with _ | ad
 ·rcases hA with rfl | ⟨b, o', e', _⟩
  ·rw [hp rfl] at hx
   refine st_wp hg ?_
   have hr := run_append_owned_none (P := P) (w := w) base ty o.type e i 1 ht hi v n ys hown
   unfold Oper.wp execOp
   have hx' : a.eval x = .slice none 0 0 := hx
   simp only [ho, resolve, invoke, builtin, Sem.run_bind, Sem.run_pure, Result.andThen_ok, List.map_toArray, List.map_cons, List.map_nil, hs, hx', hr]
   exact h _ _ (by simpa using hown) (Below.refl _ _)
  ·cases e'
 ·refine st_append hg s x ty ho base e i z 1 bytes ht hi hz hsize hby hzs (by decide) v n ys hs hown ad xs.length c (xs.map (.int k)) hx (by simp) ?_ ?_ hbytes hbase ?_
  ·intro j u hu
   have hj : j < xs.length := by have := (List.getElem?_eq_some_iff.1 hu).1; simpa using this
   obtain ⟨b, o', e', hb, hc⟩ := hA.at (i := j) hj
   injection e' with e'
   subst e'
   rw [Addr.add_lit, hc j hj]
   simp [hj] at hu ⊢
   exact hu
  ·intro u hu
   obtain ⟨y, _, rfl⟩ := List.mem_map.1 hu
   rfl
  ·intro v' w' h1 h2 h3
   exact h v' w' h1 ((Below.refl base w).grown h2 hbase (fun j e => (hown.lt j e).1))
end ops
theorem idxs_mem (g : Int → Bool) (xs : List Int) (i : Int) : ∀ k, i ∈ idxs g xs k ↔ ∃ j : Nat, j < k ∧ g (xs[j]?.getD 0) = true ∧ i = j := by
 intro k
 induction k with
 | zero => simp [idxs]
 | succ k ih =>
  simp only [idxs]
  have hs : (∃ j : Nat, j < k + 1 ∧ g (xs[j]?.getD 0) = true ∧ i = j) ↔ ((∃ j : Nat, j < k ∧ g (xs[j]?.getD 0) = true ∧ i = j) ∨ (g (xs[k]?.getD 0) = true ∧ i = k)) := by
   constructor
   ·rintro ⟨j, hj, e⟩
    by_cases hjk : j = k
    ·subst hjk; exact .inr e
    ·exact .inl ⟨j, by omega, e⟩
   ·rintro (⟨j, hj, e⟩ | e)
    ·exact ⟨j, by omega, e⟩
    ·exact ⟨k, by omega, e⟩
  rw [hs]
  split
  ·rename_i h
   rw [List.mem_append, ih]
   simp [h]
  ·rename_i h
   rw [ih]
   simp [h]
theorem sqL_of_mem {L : List Int} (h : ∀ x ∈ L, 0 ≤ x ∧ x < 64) : sqL L := by
 intro k hk
 have : L[k]?.getD 0 = L[k] := by simp [hk]
 rw [this]
 exact h _ (List.getElem_mem hk)
theorem idxs_sq (g : Int → Bool) (xs : List Int) (hl : xs.length ≤ 64) : ∀ x ∈ idxs g xs xs.length, 0 ≤ x ∧ x < 64 := by
 intro x hx
 rw [idxs_mem] at hx
 obtain ⟨j, hj, _, rfl⟩ := hx
 omega
def sWh (x : Int) : Bool := sgnI x == 1
def sBl (x : Int) : Bool := sgnI x == -1
theorem occ_eq (xs : List Int) (hl : xs.length ≤ 64) : ofL (idxs sWh xs xs.length ++ idxs sBl xs xs.length) (idxs sWh xs xs.length ++ idxs sBl xs xs.length).length = setW gNon xs xs.length := by
 have hs : sqL (idxs sWh xs xs.length ++ idxs sBl xs xs.length) := sqL_of_mem (by
  intro x hx
  rcases List.mem_append.1 hx with h | h
  ·exact idxs_sq _ _ hl x h
  ·exact idxs_sq _ _ hl x h)
 apply Nat.eq_of_testBit_eq
 intro i
 rw [setW_bit, Bool.eq_iff_iff, ofL_bit hs i _ (Nat.le_refl _)]
 have h1 : (∃ j, j < (idxs sWh xs xs.length ++ idxs sBl xs xs.length).length ∧ (idxs sWh xs xs.length ++ idxs sBl xs xs.length)[j]?.getD 0 = (i : Int)) ↔ (i : Int) ∈ idxs sWh xs xs.length ++ idxs sBl xs xs.length := by
  rw [List.mem_iff_getElem]
  constructor
  ·rintro ⟨j, hj, e⟩; rw [List.getElem?_eq_getElem hj] at e; exact ⟨j, hj, e⟩
  ·rintro ⟨j, hj, e⟩; exact ⟨j, hj, by rw [List.getElem?_eq_getElem hj]; exact e⟩
 rw [h1, List.mem_append, idxs_mem, idxs_mem]
 simp only [Bool.and_eq_true, decide_eq_true_eq]
 have h2 : ∀ x, gNon x = true ↔ (sWh x = true ∨ sBl x = true) := by
  intro x
  unfold gNon sWh sBl sgnI
  by_cases h3 : x < 0
  ·have : x ≠ 0 := by omega
   simp [h3, this]
  ·by_cases h4 : 0 < x
   ·have : x ≠ 0 := by omega
    simp [h3, h4, this]
   ·have : x = 0 := by omega
    simp [this]
 rw [h2]
 constructor
 ·rintro (⟨j, hj, h, e⟩ | ⟨j, hj, h, e⟩)
  ·have : i = j := by omega
   subst this; exact ⟨hj, .inl h⟩
  ·have : i = j := by omega
   subst this; exact ⟨hj, .inr h⟩
 ·rintro ⟨hi, h | h⟩
  ·exact .inl ⟨i, hi, h, rfl⟩
  ·exact .inr ⟨i, hi, h, rfl⟩
def occR (w1 : World) (B : Array Value) (L1 L2 : List Int) (V : Nat) (S : Nat → Bool) (f : Nat → Value) (W : World) : Prop :=
 Below w1.heap.size w1 W ∧ (S 0 = true → f 0 = .agg B) ∧ (S 3 = true → f 3 = .agg B) ∧
 (S 5 = false → (S 1 = true → W.ownsRow w1.heap.size 3 1 (f 1) L1.length (L1.map (.int .i64))) ∧ (S 2 = true → W.ownsRow w1.heap.size 3 1 (f 2) L1.length (L1.map (.int .i64))) ∧ (S 4 = true → W.ownsRow w1.heap.size 3 1 (f 4) L2.length (L2.map (.int .i64)))) ∧
 (S 5 = true → W.ownsRow w1.heap.size 3 1 (f 5) (L1 ++ L2).length ((L1 ++ L2).map (.int .i64))) ∧ (S 6 = true → f 6 = .int .u64 (V : Nat)) ∧ (S 7 = true → f 7 = .int .u64 (V : Nat))
set_option maxRecDepth 100000 in
theorem refOccupied_any (f r : Int) (p : Option Addr) (c : Nat) (xs : List Int) (w : World) (hx : Arr .i8 w p xs) (hl : xs.length ≤ 64) :
  Calls Tryz.prog 159 #[.agg (bdCs f r p xs.length c).toArray] w fun e w' => e = .returned (.int .u64 (setW gNon xs xs.length : Nat)) ∧ Below w.heap.size w w' := by
 obtain ⟨i3, hi3, hz3, hs3, hy3⟩ := info_parts Tryz.info3
 have hb := below_box w (.cells (bdCs f r p xs.length c).toArray 68)
 have hA := HasO.new w (.cells (bdCs f r p xs.length c).toArray 68)
 have hoc := occ_eq xs hl
 have hl1 := idxs_len sWh xs xs.length
 have hl2 := idxs_len sBl xs xs.length
 have hq1 : ∀ x ∈ idxs sWh xs xs.length ++ idxs sBl xs xs.length, 0 ≤ x ∧ x < 64 := by
  intro x hx
  rcases List.mem_append.1 hx with h | h
  iterate 2 exact idxs_sq _ _ hl x h
 have hSd1 := fun W h => refSideL_any f r 1 p c xs W h hl
 have hSd2 := fun W h => refSideL_any f r (-1) p c xs W h hl
 have e1 : (fun z => sgnI z == 1) = sWh := rfl
 have e2 : (fun z => sgnI z == -1) = sBl := rfl
 rw [e1] at hSd1
 rw [e2] at hSd2
 generalize idxs sWh xs xs.length = L1, idxs sBl xs xs.length = L2 at *
 generalize setW gNon xs xs.length = V at *
 go_enter Tryz.func159, Tryz.ntmps159
 go_wp2_with fail
 show Code.wp _ _ _ _ (w.alloc (.cells (bdCs f r p xs.length c).toArray 68))
 obtain ⟨w1, hw1⟩ : ∃ x, x = w.alloc (.cells (bdCs f r p xs.length c).toArray 68) := ⟨_, rfl⟩
 have hx1 := hx.call hb
 rw [← hw1] at hA hb hx1 ⊢
 clear hw1 hx
 refine wp_region_relL (by kernel_rfl) (by kernel_rfl) [some 3, some 4, some 5, some 6, some 7, some 8, some 9, some 2] (by rfl) (by rfl) (occR w1 (bdCs f r p xs.length c).toArray L1 L2 V) ?hcong ?h0 ?hstep ?hend
 case hcong =>
  intro S S' f W h hR
  unfold occR at hR ⊢
  rw [← h 0 (by decide), ← h 1 (by decide), ← h 2 (by decide), ← h 3 (by decide), ← h 4 (by decide), ← h 5 (by decide), ← h 6 (by decide), ← h 7 (by decide)]
  exact hR
 case h0 =>
  intro f
  exact ⟨(Below.refl _ _).drew, (fun h => by cases h), (fun h => by cases h), fun _ => ⟨(fun h => by cases h), (fun h => by cases h), (fun h => by cases h)⟩, (fun h => by cases h), (fun h => by cases h), (fun h => by cases h)⟩
 case hstep =>
  intro S i9 o9 f9 W ho hi hSj hpre hcl hR K hK
  have hi : i9 < 8 := hi
  obtain ⟨hC, h0, h3, h124, h5, h6, h7⟩ := id hR
  have hsz := hA.call hC
  have hxW := hx1.call hC
  have hkeep : ∀ {W' : World}, Below W.heap.size W W' → (S 5 = true → W'.ownsRow w1.heap.size 3 1 (f9 5) (L1 ++ L2).length ((L1 ++ L2).map (.int .i64))) := fun hb h => own_call (h5 h) hb
  have hno5 : ∀ j, j < 5 → S j = false → (j = 2 ∨ j = 4) → S 5 = false := by
   intro j _ hj hjj
   rcases h : S 5 with _ | _
   ·rfl
   ·rcases hjj with rfl | rfl
    ·have := hcl 5 _ h rfl ⟨2, .data⟩ (by simp) rfl
     rw [hj] at this; cases this
    ·have := hcl 5 _ h rfl ⟨4, .data⟩ (by simp) rfl
     rw [hj] at this; cases this
  rcases i9 with _ | _ | _ | _ | _ | _ | _ | _ | i9
  ·exact st_loadA (og ho) 68 (.tmp 1) (oo ho) (rd_out rfl rfl) (bdCs f r p xs.length c) (by kernel_rfl) (fun j v hv => by rw [Nat.zero_add, hsz.cells j]; simpa using hv) (hK _ _ ⟨hC, fun _ => rfl, h3, h124, h5, h6, h7⟩)
  ·refine st_call2 (og ho) 158 (.tmp 3) (.const (.int .i64 1)) #[68, 3] (oo ho) (ri 0 (h0 (da ho hpre 0))) rfl (fun _ _ => rfl) (hSd1 W hxW) ?_ (by rintro ch w9 ⟨⟨_, h9, _⟩, _⟩; cases h9) (by rintro w9 ⟨⟨_, h9, _⟩, _⟩; cases h9)
   rintro u w9 ⟨⟨v9, h9, hown9⟩, hb9⟩
   injection h9 with h9
   subst h9
   refine hK _ _ ⟨below_call hC hC.size hb9, h0, h3, fun h => ?_, fun h => hkeep hb9 h, h6, h7⟩
   have ⟨_, g2, g4⟩ := h124 h
   exact ⟨fun _ => own_mono hown9 hC.size, fun h => own_call (g2 h) hb9, fun h => own_call (g4 h) hb9⟩
  ·have hS5 := hno5 2 (by decide) hSj (.inl rfl)
   obtain ⟨g1, g2, g4⟩ := h124 hS5
   obtain ⟨p1, c1, q1, _, hA1, hp1⟩ := own_arr0 (g1 (da ho hpre 1))
   refine st_appendArr (og ho) (.const (.slice none 0 0)) (.tmp 4) 136 (oo ho) w1.heap.size 3 i3 (.int .i64 0) 8 Tryz.underlying136 hi3 hz3 hs3 hy3 rfl .i64 rfl (ri 1 q1) hp1 hA1 (by omega) hC.size ?_
   intro v' w' hown' hb' _
   refine hK _ _ ⟨below_call hC hC.size hb', h0, h3, fun _ => ⟨fun h => own_call (g1 h) hb', fun _ => hown', fun h => own_call (g4 h) hb'⟩, fun h => ?_, h6, h7⟩
   have h : S 5 = true := h
   rw [hS5] at h; cases h
  ·exact st_loadA (og ho) 68 (.tmp 1) (oo ho) (rd_out rfl rfl) (bdCs f r p xs.length c) (by kernel_rfl) (fun j v hv => by rw [Nat.zero_add, hsz.cells j]; simpa using hv) (hK _ _ ⟨hC, h0, fun _ => rfl, h124, h5, h6, h7⟩)
  ·refine st_call2 (og ho) 158 (.tmp 6) (.const (.int .i64 (-1))) #[68, 3] (oo ho) (ri 3 (h3 (da ho hpre 3))) rfl (fun _ _ => rfl) (hSd2 W hxW) ?_ (by rintro ch w9 ⟨⟨_, h9, _⟩, _⟩; cases h9) (by rintro w9 ⟨⟨_, h9, _⟩, _⟩; cases h9)
   rintro u w9 ⟨⟨v9, h9, hown9⟩, hb9⟩
   injection h9 with h9
   subst h9
   refine hK _ _ ⟨below_call hC hC.size hb9, h0, h3, fun h => ?_, fun h => hkeep hb9 h, h6, h7⟩
   have ⟨g1, g2, _⟩ := h124 h
   exact ⟨fun h => own_call (g1 h) hb9, fun h => own_call (g2 h) hb9, fun _ => own_mono hown9 hC.size⟩
  ·obtain ⟨_, g2, g4⟩ := h124 hSj
   obtain ⟨p1, c1, q1, _, hA1, hp1⟩ := own_arr0 (g4 (da ho hpre 4))
   refine st_appendOA (og ho) (.tmp 5) (.tmp 7) 136 (oo ho) w1.heap.size 3 i3 (.int .i64 0) 8 Tryz.underlying136 hi3 hz3 hs3 hy3 rfl .i64 (ri 2 rfl) (g2 (da ho hpre 2)) (ri 4 q1) hp1 hA1 (by omega) hC.size ?_
   intro v' w' hown' hb'
   exact hK _ _ ⟨hC.trans hb', h0, h3, (fun h => by cases h), fun _ => by simpa using hown', h6, h7⟩
  ·obtain ⟨p1, c1, q1, _, hA1, _⟩ := own_arr0 (h5 (da ho hpre 5))
   refine st_call1 (og ho) 189 (.tmp 8) #[136] (oo ho) (ri 5 q1) (fun _ _ => rfl) (refOfL_any p1 c1 (L1 ++ L2) W hA1 (by simp; omega) (sqL_of_mem hq1)) ?_ (by rintro ch w9 ⟨h9, _⟩; cases h9) (by rintro w9 ⟨h9, _⟩; cases h9)
   rintro u w9 ⟨h9, hb9⟩
   injection h9 with h9
   subst h9
   refine hK _ _ ⟨below_call hC hC.size hb9, h0, h3, fun h => ?_, fun h => hkeep hb9 h, fun _ => by rw [hoc]; rfl, h7⟩
   have ⟨g1, g2, g4⟩ := h124 h
   exact ⟨fun h => own_call (g1 h) hb9, fun h => own_call (g2 h) hb9, fun h => own_call (g4 h) hb9⟩
  ·exact st_assign (og ho) (.tmp 9) (oo ho) (ri 6 (h6 (da ho hpre 6))) (hK _ _ ⟨hC, h0, h3, h124, h5, h6, fun _ => rfl⟩)
  ·omega
 case hend =>
  intro S f9 W hS hR
  obtain ⟨hC, h0, h3, h124, h5, h6, h7⟩ := hR
  go_wp2_with fail
  refine bodyPost_ret (results_tmp (fn := Tryz.f159) Tryz.results159 _ _ _) (by rw [putL_defers]) ?_
  refine ⟨?_, below_call hb hb.size hC⟩
  rw [slot_in rfl 7 rfl (by simp) (h7 (hS 7 (by decide)))]
section ops
variable {P : Program} {o : Oper} {a : Act} {w : World} {K : Act → World → Prop} {Q : Exit → Act → World → Prop} {t : Nat → Option Bool} {X : Prop}
theorem st_call4 (hg : o.guard = none) (fid : Nat) (x1 x2 x3 x4 : Operand) (ts : Array TypeId) (ho : o.op = .call { callee := .value (.func fid), args := #[x1, x2, x3, x4], argTypes := ts }) {v1 v2 v3 v4 : Value} (h1 : a.eval x1 = v1) (h2 : a.eval x2 = v2) (h3 : a.eval x3 = v3) (h4 : a.eval x4 = v4)
  (he : ∀ args w, (callFunc fid args).run P w = .ok (.enter fid args) w) {R : Ending → World → Prop} (hc : Calls P fid #[v1, v2, v3, v4] w R) (hret : ∀ u w', R (.returned u) w' → K (a.put o.dst u) w') (hpan : ∀ ch w', R (.panicked ch) w' → Q (.panic ch) a w') (hout : ∀ w', ¬ R .outgrown w') :
  if Region.wanted o t = true then o.wp P a w K Q else X := by
 refine st_wp hg ?_
 have hr : (execOp a.eval o).run P w = .ok (.enter fid #[v1, v2, v3, v4]) w := by
  have hf : a.eval (.func fid) = .func (.func fid) #[] #[] := rfl
  unfold execOp
  simp [ho, resolve, hf, h1, h2, h3, h4, Deferred.ofValue, invoke, he]
 unfold Oper.wp
 rw [hr, Oper.upon_enter]
 refine hc.mono ?_
 intro e w' h
 cases e with
 | returned u => exact hret u w' h
 | panicked ch => exact hpan ch w' h
 | outgrown => exact absurd h (hout w')
theorem st_call5 (hg : o.guard = none) (fid : Nat) (x1 x2 x3 x4 x5 : Operand) (ts : Array TypeId) (ho : o.op = .call { callee := .value (.func fid), args := #[x1, x2, x3, x4, x5], argTypes := ts }) {v1 v2 v3 v4 v5 : Value} (h1 : a.eval x1 = v1) (h2 : a.eval x2 = v2) (h3 : a.eval x3 = v3) (h4 : a.eval x4 = v4) (h5 : a.eval x5 = v5)
  (he : ∀ args w, (callFunc fid args).run P w = .ok (.enter fid args) w) {R : Ending → World → Prop} (hc : Calls P fid #[v1, v2, v3, v4, v5] w R) (hret : ∀ u w', R (.returned u) w' → K (a.put o.dst u) w') (hpan : ∀ ch w', R (.panicked ch) w' → Q (.panic ch) a w') (hout : ∀ w', ¬ R .outgrown w') :
  if Region.wanted o t = true then o.wp P a w K Q else X := by
 refine st_wp hg ?_
 have hr : (execOp a.eval o).run P w = .ok (.enter fid #[v1, v2, v3, v4, v5]) w := by
  have hf : a.eval (.func fid) = .func (.func fid) #[] #[] := rfl
  unfold execOp
  simp [ho, resolve, hf, h1, h2, h3, h4, h5, Deferred.ofValue, invoke, he]
 unfold Oper.wp
 rw [hr, Oper.upon_enter]
 refine hc.mono ?_
 intro e w' h
 cases e with
 | returned u => exact hret u w' h
 | panicked ch => exact hpan ch w' h
 | outgrown => exact absurd h (hout w')
end ops
theorem bin_neqE {x y : Int} {d : Bool} {W : World} (h : (x != y) = d) : (binOp .neq 3 (.int .i64 x) (.int .i64 y)).run Tryz.prog W = .ok (.bool d) W := by rw [bin_neq, h]
def attB (F R : Nat) (xs : List Int) (a b oc : Nat) : Bool :=
 if kindI (xs[a]?.getD 0) = 1 then elI (pawnL F (decide (xs[a]?.getD 0 < 0)) a (F * R)) b else !decide (a = b) && reachB F R (kindI (xs[a]?.getD 0)) a b oc
theorem pOk_bd {x : Int} (h : pOk x = true) : -15 ≤ x ∧ x ≤ 15 := by
 unfold pOk at h; simp at h; exact h
set_option maxRecDepth 100000 in
theorem refAttacks_any (F R : Nat) (p : Option Addr) (c : Nat) (xs : List Int) (a b oc : Nat) (hF : 3 ≤ F ∧ F ≤ 8) (hR : 3 ≤ R ∧ R ≤ 8) (hlen : xs.length = F * R) (ha : a < F * R) (hb : b < F * R) (hok : ∀ x ∈ xs, pOk x = true) (w : World) (hx : Arr .i8 w p xs) :
  Calls Tryz.prog 160 #[.agg (bdCs F R p xs.length c).toArray, .int .i64 a, .int .i64 b, .int .u64 (oc : Nat)] w fun e w' => e = .returned (.bool (attB F R xs a b oc)) ∧ Below w.heap.size w w' := by
 have hA := HasO.new w (.cells (bdCs F R p xs.length c).toArray 68)
 have hB := below_box w (.cells (bdCs F R p xs.length c).toArray 68)
 have hlt : a < xs.length := by omega
 have hii : (a : Int) < xs.length := by omega
 obtain ⟨g, o, rfl, hgl, hcc⟩ := (hx.call hB).at hlt
 have hcx := hcc a hlt
 obtain ⟨x, hxv⟩ : ∃ x, x = xs[a]?.getD 0 := ⟨_, rfl⟩
 have hxk : pOk x = true := by
  rw [hxv, List.getElem?_eq_getElem hlt]; exact hok _ (List.getElem_mem hlt)
 have hxb := pOk_bd hxk
 obtain ⟨V, hV⟩ : ∃ V, V = attB F R xs a b oc := ⟨_, rfl⟩
 have hVV : V = if kindI x = 1 then elI (pawnL F (decide (x < 0)) a (F * R)) b else !decide (a = b) && reachB F R (kindI x) a b oc := by rw [hV, hxv]; rfl
 rw [← hV]
 rw [← hxv] at hcx
 clear hV hxv hcc hok hxk
 have hpl := pawnL_len F (decide (x < 0)) a (F * R)
 have hFR : F * R ≤ 64 := Nat.mul_le_mul hF.2 hR.2
 have hpw := fun W => refPawn_any F R (decide (x < 0)) a hF hR ha W
 have hre := fun W => refReaches_any F R (kindI x) a b oc hF hR ha hb W
 generalize pawnL F (decide (x < 0)) a (F * R) = L at hpl hpw hVV
 generalize reachB F R (kindI x) a b oc = rb at hre hVV
 have hc0 := hA.cells
 have hl0 := hA.lt
 replace hVV := Lib.hid hVV
 replace hlen := Lib.hid hlen
 have hkx := refKind_any x ⟨by omega, by omega⟩
 obtain ⟨kx, hk⟩ : ∃ k, k = kindI x := ⟨_, rfl⟩
 rw [← hk] at hkx hVV hre
 go_enter Tryz.func160, Tryz.ntmps160
 go_wp2_with fail
 refine (hkx _).mono ?_
 rintro e w' ⟨rfl, rfl⟩
 by_cases h1 : kx = 1
 ·have e0 : Hid (V = elI L b) := Lib.hid (by rw [hVV.out, if_pos h1])
  have c1 : (kx == 1) = true := by simp [h1]
  replace h1 := Lib.hid h1
  replace hk := Lib.hid hk
  go_wp2_with fail
  refine (hpw _).mono ?_
  rintro e w2 ⟨⟨v, rfl, hown⟩, hb2⟩
  have hB2 := below_call hB hB.size hb2
  obtain ⟨p1, c1', rfl, _, hArr⟩ := own_arr hown
  clear hb2 hown hc0 hl0 hA hpw hre
  go_wp2_with fail
  refine (refHasL_any p1 c1' L b w2 hArr (by omega)).mono ?_
  rintro e w3 ⟨rfl, hb3⟩
  go_wp2_with fail
  go_ret
  exact ⟨by rw [e0.out]; rfl, below_call hB2 hB2.size hb3⟩
 ·have e1 : Hid (V = (!decide (a = b) && rb)) := Lib.hid (by rw [hVV.out, if_neg h1])
  have c1 : (kx == 1) = false := by simp [h1]
  replace h1 := Lib.hid h1
  replace hk := Lib.hid hk
  go_wp2_with fail
  show Code.wp _ _ _ _ (w.alloc (.cells (bdCs F R (some ⟨g, o, none⟩) xs.length c).toArray 68))
  obtain ⟨w1, hw1⟩ : ∃ x, x = w.alloc (.cells (bdCs F R (some ⟨g, o, none⟩) xs.length c).toArray 68) := ⟨_, rfl⟩
  rw [← hw1] at hA hB ⊢
  clear hw1 hc0 hl0 hcx hgl
  by_cases hab : a = b
  ·have e2 : Hid (V = false) := Lib.hid (by rw [e1.out]; simp [hab])
   have c2 : ((a : Int) != (b : Int)) = false := by simp [hab]
   replace hab := Lib.hid hab
   refine wp_region_vl (by kernel_rfl) (by kernel_rfl) [some 26, some 27, some 28, some 29, some 30, some 31, some 32, some 33, some 34, some 35, some 36, some 37, some 38, some 8] (by rfl) (by rfl) w1.heap.size (fun i => match i with | 0 => .int .i64 ((a : Nat) : Int) | 1 => .int .i64 ((b : Nat) : Int) | 2 => .bool false | 3 => .bool false | 12 => .bool false | 13 => .bool false | _ => undef) (fun _ => none) ?hstep ?hend
   case hstep =>
    intro i9 o9 f9 W ho hi hC hf K hK
    have hi : i9 < 14 := hi
    rcases i9 with _ | _ | _ | _ | _ | _ | _ | _ | _ | _ | _ | _ | _ | _ | i9
    ·exact st_move (og ho) (.tmp 1) (oo ho) (rd_out rfl rfl) (kk hK)
    ·exact st_move (og ho) (.tmp 2) (oo ho) (rd_out rfl rfl) (kk hK)
    ·exact st_bin (og ho) .neq 3 3 (.tmp 26) (.tmp 27) (oo ho) (ri 0 (da ho hf 0)) (ri 1 (da ho hf 1)) (gu_i _ _ _ _ _ _ _ _) (bin_neqE c2) (kk hK)
    ·exact st_move (og ho) (.tmp 28) (oo ho) (ri 2 (da ho hf 2)) (kk hK)
    iterate 8 exact skip_gd (uw ho (dg ho hf 3)) (kk hK)
    ·exact st_pickF (og ho) (.tmp 29) (.tmp 37) (.const (.bool false)) (oo ho) (ri 3 (da ho hf 3)) rfl (kk hK)
    ·exact st_assign (og ho) (.tmp 38) (oo ho) (ri 12 (da ho hf 12)) (kk hK)
    ·omega
   case hend =>
    intro f9 W hC hf
    go_wp2_with fail
    refine bodyPost_ret (results_tmp (fn := Tryz.f160) Tryz.results160 _ _ _) (by rw [putL_defers]) ?_
    refine ⟨?_, below_call hB hB.size hC⟩
    rw [slot_in rfl 13 rfl (by simp) (hf 13 (by decide)), e2.out]
    rfl
  ·have e2 : Hid (V = rb) := Lib.hid (by rw [e1.out]; simp [hab])
   have c2 : ((a : Int) != (b : Int)) = true := by simp; omega
   replace hab := Lib.hid hab
   refine wp_region_vl (by kernel_rfl) (by kernel_rfl) [some 26, some 27, some 28, some 29, some 30, some 31, some 32, some 33, some 34, some 35, some 36, some 37, some 38, some 8] (by rfl) (by rfl) w1.heap.size (fun i => match i with | 0 => .int .i64 ((a : Nat) : Int) | 1 => .int .i64 ((b : Nat) : Int) | 2 => .bool true | 3 => .bool true | 4 => .pointer (some ⟨w.heap.size, 0, none⟩) | 5 => .agg [.int .i64 (F : Int), .int .i64 (R : Int)].toArray | 6 => .int .i8 x | 7 => .int .i8 kx | 8 => .int .i64 ((a : Nat) : Int) | 9 => .int .i64 ((b : Nat) : Int) | 10 => .int .u64 (oc : Nat) | 11 => .bool rb | 12 => .bool rb | 13 => .bool rb | _ => undef) (fun _ => none) ?hstep ?hend
   case hstep =>
    intro i9 o9 f9 W ho hi hC hf K hK
    have hi : i9 < 14 := hi
    rcases i9 with _ | _ | _ | _ | _ | _ | _ | _ | _ | _ | _ | _ | _ | _ | i9
    ·exact st_move (og ho) (.tmp 1) (oo ho) (rd_out rfl rfl) (kk hK)
    ·exact st_move (og ho) (.tmp 2) (oo ho) (rd_out rfl rfl) (kk hK)
    ·exact st_bin (og ho) .neq 3 3 (.tmp 26) (.tmp 27) (oo ho) (ri 0 (da ho hf 0)) (ri 1 (da ho hf 1)) (gu_i _ _ _ _ _ _ _ _) (bin_neqE c2) (kk hK)
    ·exact st_move (og ho) (.tmp 28) (oo ho) (ri 2 (da ho hf 2)) (kk hK)
    ·exact gd (wo ho (dg ho hf 3)) (st_field rfl 68 (.tmp 4) 0 (oo ho) (rd_out rfl rfl) (n := 0) (by kernel_rfl) (kk hK))
    ·exact gd (wo ho (dg ho hf 3)) (st_loadA rfl 23 (.tmp 30) (oo ho) (ri 4 (da ho hf 4)) [.int .i64 (F : Int), .int .i64 (R : Int)] (by kernel_rfl) (fun j v hv => by rw [Nat.zero_add, (hA.call hC).cells j]; rcases (by have := (List.getElem?_eq_some_iff.1 hv).1; simp at this; omega : j = 0 ∨ j = 1) with rfl | rfl <;> simpa using hv) (kk hK))
    ·exact gd (wo ho (dg ho hf 3)) (st_move rfl (.tmp 9) (oo ho) (rd_out rfl rfl) (kk hK))
    ·exact gd (wo ho (dg ho hf 3)) (st_call1 rfl 39 (.tmp 32) #[38] (oo ho) (ri 6 (da ho hf 6)) (fun _ _ => rfl) (hkx W) (by rintro u w9 ⟨h9, h10⟩; injection h9 with h9; subst h9; subst h10; exact hK _ _ (Below.refl _ _) rfl) (fun _ _ h => nomatch h.1) (fun _ h => nomatch h.1))
    ·exact gd (wo ho (dg ho hf 3)) (st_move rfl (.tmp 1) (oo ho) (rd_out rfl rfl) (kk hK))
    ·exact gd (wo ho (dg ho hf 3)) (st_move rfl (.tmp 2) (oo ho) (rd_out rfl rfl) (kk hK))
    ·exact gd (wo ho (dg ho hf 3)) (st_move rfl (.tmp 3) (oo ho) (rd_out rfl rfl) (kk hK))
    ·exact gd (wo ho (dg ho hf 3)) (st_call5 rfl 165 (.tmp 31) (.tmp 33) (.tmp 34) (.tmp 35) (.tmp 36) #[23, 38, 3, 3, 64] (oo ho) (ri 5 (da ho hf 5)) (ri 7 (da ho hf 7)) (ri 8 (da ho hf 8)) (ri 9 (da ho hf 9)) (ri 10 (da ho hf 10)) (fun _ _ => rfl) (hre W) (by rintro u w9 ⟨h9, hb9⟩; injection h9 with h9; subst h9; exact hK _ _ hb9 rfl) (fun _ _ h => nomatch h.1) (fun _ h => nomatch h.1))
    ·exact st_pickT (og ho) (.tmp 29) (.tmp 37) (.const (.bool false)) (oo ho) (ri 3 (da ho hf 3)) (ri 11 (da ho hf 11)) (kk hK)
    ·exact st_assign (og ho) (.tmp 38) (oo ho) (ri 12 (da ho hf 12)) (kk hK)
    ·omega
   case hend =>
    intro f9 W hC hf
    go_wp2_with fail
    refine bodyPost_ret (results_tmp (fn := Tryz.f160) Tryz.results160 _ _ _) (by rw [putL_defers]) ?_
    refine ⟨?_, below_call hB hB.size hC⟩
    rw [slot_in rfl 13 rfl (by simp) (hf 13 (by decide)), e2.out]
    rfl
end Go.Proofs.YtefmplccbkmalaaGreatDoor
