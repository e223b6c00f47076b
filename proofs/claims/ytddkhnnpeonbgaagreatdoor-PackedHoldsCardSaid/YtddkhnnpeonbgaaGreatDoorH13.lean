import Derived.Test.YtddkhnnpeonbgaaGreatDoorH03
import Derived.Test.YtddkhnnpeonbgaaGreatDoorH09
import Derived.Test.YtddkhnnpeonbgaaGreatDoorH12
import Derived.Maps.AppendAt
import Derived.Laws.BitsAllLaws
import Derived.BigRegion
namespace Go.Proofs.YtddkhnnpeonbgaaGreatDoor
open Go.RowKit

theorem wp_region_relL {P : Program} {id : Nat} {ops : Array Oper} {Q : Exit → Act → World → Prop} {a : Act} {w : World} (hm : P.follows .mixedOrders = true) (hb : edgesBack .any ops = true)
  (ds : List (Option Tmp)) (hds : ops.toList.map (·.dst) = ds) (hok : dstsOk ds = true)
  (R : (Nat → Bool) → (Nat → Value) → World → Prop) (hcong : ∀ S S' f w, (∀ i, i < ops.size → S i = S' i) → R S f w → R S' f w) (h0 : ∀ f, R (fun _ => false) f w.drew)
  (hstep : ∀ S i o f w, ops[i]? = some o → i < ops.size → S i = false → (∀ e ∈ o.after, Region.binds .any e = true → S e.on = true) →
   (∀ j o', S j = true → ops[j]? = some o' → ∀ e ∈ o'.after, Region.binds .any e = true → S e.on = true) → R S f w →
   ∀ K : Act → World → Prop, (∀ u w', R (upd S i) (fun j => if j = i then u else f j) w' → K ((putL ds f 0 a).put o.dst u) w') →
   if Region.wanted o (yielded ops (putL ds f 0 a).tmps) = true then o.wp P (putL ds f 0 a) w K Q else K ((putL ds f 0 a).put o.dst undef) w)
  (hend : ∀ S f w, (∀ i, i < ops.size → S i = true) → R S f w → Q .normal (putL ds f 0 a) w) : (Code.region id ops true).wp P Q a w := by
 refine wp_region_inv hm hb (fun S a' w => ∃ f, a' = putL ds f 0 a ∧ R S f w ∧
  (∀ j o', S j = true → ops[j]? = some o' → ∀ e ∈ o'.after, Region.binds .any e = true → S e.on = true)) ?_ ⟨tmps0 ds a, (putL_self _ _ _ _ (fun i t h => by simp [tmps0, h]) hok).symm, h0 _, fun j o' h => (by cases h)⟩ ?_ ?_
 ·rintro S S' a' w hS ⟨f, h1, h2, h4⟩
  refine ⟨f, h1, hcong _ _ _ _ hS h2, fun j o' hj ho e he hbd => ?_⟩
  have hj2 : j < ops.size := (Array.getElem?_eq_some_iff.1 ho).1
  have hb' := hb
  unfold edgesBack at hb'
  rw [List.all_eq_true] at hb'
  have h := hb' j (List.mem_range.2 hj2)
  rw [ho] at h
  simp only [Option.map_some, Option.getD_some] at h
  rw [Array.all_eq_true] at h
  obtain ⟨k, hk, rfl⟩ := Array.getElem_of_mem he
  have h5 := h k hk
  rw [hbd] at h5
  simp only [Bool.not_true, Bool.false_or, decide_eq_true_eq] at h5
  rw [← hS _ (by omega)]
  exact h4 j o' (by rw [hS _ hj2]; exact hj) ho _ he hbd
 ·rintro S a' w i hi hSi hpre ⟨f, rfl, hR, hcl⟩
  refine hstep S i _ f w (Array.getElem?_eq_getElem hi) hi hSi hpre hcl hR _ ?_
  intro u w' hR'
  refine ⟨_, by have := putL_at ds hok f 0 a i _ (dst_at hds hi) u; rw [Nat.zero_add] at this; exact this, hR', fun j o' hj ho e he hbd => ?_⟩
  unfold upd at hj ⊢
  by_cases e2 : e.on = i
  ·simp [e2]
  ·simp only [e2, if_false]
   by_cases e3 : j = i
   ·subst e3
    have : o' = ops[j] := by rw [Array.getElem?_eq_getElem hi] at ho; exact (Option.some.inj ho).symm
    subst this
    exact hpre e he hbd
   ·simp only [e3, if_false] at hj
    exact hcl j o' hj ho e he hbd
 ·rintro S a' w hS ⟨f, rfl, hR, _⟩
  exact hend S f w hS hR

structure Put2 (q : Nat) (v : Value) (w w' : World) : Prop where
 os : w'.os = w.os
 tape : w'.tape = w.tape
 output : w'.output = w.output
 size : w.heap.size ≤ w'.heap.size
 block : ∀ k, k < w.heap.size → k ≠ q → v.ownBlock ≠ some k → w'.heap[k]? = w.heap[k]?
theorem Put2.refl (q : Nat) (v : Value) (w : World) : Put2 q v w w := ⟨rfl, rfl, rfl, Nat.le_refl _, fun _ _ _ _ => rfl⟩
def Near (w : World) (v v' : Value) : Prop := ∀ k, v'.ownBlock = some k → v.ownBlock = some k ∨ w.heap.size ≤ k
theorem Near.refl (w : World) (v : Value) : Near w v v := fun _ h => .inl h
theorem Near.trans {w w' : World} {v v' v'' : Value} (h : Near w v v') (h2 : Near w' v' v'') (hs : w.heap.size ≤ w'.heap.size) : Near w v v'' := by
 intro k hk
 rcases h2 k hk with h3 | h3
 ·exact h k h3
 ·exact .inr (Nat.le_trans hs h3)
theorem Put2.trans {q : Nat} {v v' : Value} {w w' w'' : World} (h : Put2 q v w w') (hn : Near w v v') (h2 : Put2 q v' w' w'') : Put2 q v w w'' :=
 ⟨h2.os.trans h.os, h2.tape.trans h.tape, h2.output.trans h.output, Nat.le_trans h.size h2.size, fun k hk hq hv => (h2.block k (Nat.lt_of_lt_of_le hk h.size) hq (fun e => by
  rcases hn k e with h3 | h3
  ·exact hv h3
  ·omega)).trans (h.block k hk hq hv)⟩
theorem Put2.hasO {q k : Nat} {v : Value} {w w' : World} {o : Obj} (h : Put2 q v w w') (ho : HasO w k o) (hq : k ≠ q) (hv : v.ownBlock ≠ some k) : HasO w' k o := (h.block k ho.lt hq hv).trans ho
theorem Put2.below {q B : Nat} {v : Value} {w0 w w' : World} (h : Put2 q v w w') (hb : Below B w0 w) (hB : B ≤ w.heap.size) (hq : B ≤ q) (hv : ∀ k, v.ownBlock = some k → B ≤ k) : Below B w0 w' :=
 hb.trans ⟨h.os, h.tape, h.output, h.size, fun k hk => h.block k (by omega) (by omega) (fun e => by have := hv k e; omega)⟩
theorem Put2.drewN {q : Nat} {v : Value} {w w' : World} (h : Put2 q v w w') (n : Nat) : Put2 q v w (w'.drewN n) := ⟨h.os, h.tape, h.output, h.size, h.block⟩
theorem Put2.drew {q : Nat} {v : Value} {w w' : World} (h : Put2 q v w w') : Put2 q v w w'.drew := ⟨h.os, h.tape, h.output, h.size, h.block⟩
theorem Put2.setCell {q : Nat} {v : Value} {w w' : World} (h : Put2 q v w w') (i : Nat) (u : Value) : Put2 q v w (w'.setCell ⟨q, i, none⟩ u) :=
 ⟨h.os, h.tape, h.output, by simp [World.setCell]; exact h.size, fun k hk hq hv => (Below.heap_setCell w' ⟨q, i, none⟩ u k (fun e => hq e)).trans (h.block k hk hq hv)⟩
theorem Put2.alloc {q : Nat} {v : Value} {w w' : World} (h : Put2 q v w w') (o : Obj) : Put2 q v w (w'.alloc o) :=
 ⟨h.os, h.tape, h.output, Nat.le_trans h.size (by simp), fun k hk hq hv => (Below.heap_alloc w' o k (Nat.lt_of_lt_of_le hk h.size)).trans (h.block k hk hq hv)⟩
theorem Put2.grown {q : Nat} {v v' : Value} {w w' w'' : World} (h : Put2 q v w w') (hn : Near w v v') (hg : w'.grownBy w'' v'.ownBlock) : Put2 q v w w'' :=
 h.trans hn ⟨hg.os, hg.tape, hg.output, hg.size, fun k hk _ hv => hg.block k hk (fun e => hv e.symm)⟩

theorem wpList_push_at {P : Program} {W : World} {ops : Array Oper} {rest : List Oper} {o : Oper} {a : Act} {Q : Exit → Act → World → Prop} (hgd : o.guard = none) (s x : Operand) (t : TypeId)
  (ho : o.op = .call { callee := .builtin .append, args := #[s, x], argTypes := #[t, t] })
  (base : Nat) (e : TypeId) (i : TypeInfo) (z : Value) (bytes : Nat) (ht : P.underlying t = some (.slice e)) (hi : P.info? e = some i) (hz : i.zero = some z)
  (hsize : i.size = 1) (hby : i.bytes = bytes) (hzs : z.cells.size = 1)
  (v : Value) (n : Nat) (xs : List Value) (hs : a.eval s = v) (hown : W.ownsRow base e 1 v n xs)
  (m : Nat) (news : List Value) (hl : news.length = m) (h1 : ∀ u ∈ news, u.oneCell' = true) (q : Nat) (hq : q = W.heap.size) (hx : a.eval x = .slice (some ⟨q, 0, none⟩) m m)
  (hbytes : (n + m) * (bytes + 1) ≤ 140737488355328) (hbase : base ≤ W.heap.size)
  (h : ∀ v' w', w'.ownsRow base e 1 v' (n + m) (xs ++ news) → (W.alloc (.cells news.toArray e)).grownBy w' v.ownBlock → Near W v v' → wpList P ops Q rest (a.put o.dst v') w') :
  wpList P ops Q (o :: rest) a (W.alloc (.cells news.toArray e)) := by
 subst hq
 have hb1 : (n + m) * bytes ≤ 140737488355328 := Nat.le_trans (Nat.mul_le_mul_left _ (by omega)) hbytes
 have hb2 : n + m ≤ maxLen := by
  have : (n + m) * 1 ≤ (n + m) * (bytes + 1) := Nat.mul_le_mul_left _ (by omega)
  unfold maxLen; omega
 refine wpList_append_own_at _ hgd s x t ho base e i z 1 bytes ht hi hz hsize hby hzs (by decide) v n xs hs (hown.alloc _) ⟨W.heap.size, 0, none⟩ m m news hx (by omega) ?_ h1 hb2 hb1 (by simp; omega) ?_
 ·intro j u hu
  rw [Addr.add_lit]
  have := (HasO.new W (.cells news.toArray e)).cells j
  rw [Nat.zero_add, this]
  simpa using hu
 ·intro v' w' ho' hg _ hloc
  refine h v' w' ho' hg (fun k hk => ?_)
  rcases hloc with e2 | e2
  ·rw [e2] at hk; exact .inl hk
  ·rw [e2] at hk
   injection hk with hk
   simp at hk
   right; omega
theorem wp_push_at {P : Program} {W : World} {o : Oper} {a : Act} {K : Act → World → Prop} {Q : Exit → Act → World → Prop} (s x : Operand) (t : TypeId)
  (ho : o.op = .call { callee := .builtin .append, args := #[s, x], argTypes := #[t, t] })
  (base : Nat) (e : TypeId) (i : TypeInfo) (z : Value) (bytes : Nat) (ht : P.underlying t = some (.slice e)) (hi : P.info? e = some i) (hz : i.zero = some z)
  (hsize : i.size = 1) (hby : i.bytes = bytes) (hzs : z.cells.size = 1)
  (v : Value) (n : Nat) (xs : List Value) (hs : a.eval s = v) (hown : W.ownsRow base e 1 v n xs)
  (m : Nat) (news : List Value) (hl : news.length = m) (h1 : ∀ u ∈ news, u.oneCell' = true) (q : Nat) (hq : q = W.heap.size) (hx : a.eval x = .slice (some ⟨q, 0, none⟩) m m)
  (hbytes : (n + m) * (bytes + 1) ≤ 140737488355328) (hbase : base ≤ W.heap.size)
  (h : ∀ v' w', w'.ownsRow base e 1 v' (n + m) (xs ++ news) → (W.alloc (.cells news.toArray e)).grownBy w' v.ownBlock → Near W v v' → K (a.put o.dst v') w') :
  o.wp P a (W.alloc (.cells news.toArray e)) K Q := by
 subst hq
 have hb1 : (n + m) * bytes ≤ 140737488355328 := Nat.le_trans (Nat.mul_le_mul_left _ (by omega)) hbytes
 have hb2 : n + m ≤ maxLen := by
  have : (n + m) * 1 ≤ (n + m) * (bytes + 1) := Nat.mul_le_mul_left _ (by omega)
  unfold maxLen; omega
 obtain ⟨v', w', hr, h2, h3, h4, h5⟩ := run_append_own_at (P := P) (W.alloc (.cells news.toArray e)) base t o.type e i z 1 bytes ht hi hz hsize hby hzs (by decide) v n xs (hown.alloc _) ⟨W.heap.size, 0, none⟩ m m news (by omega) (by
  intro j u hu
  rw [Addr.add_lit]
  have := (HasO.new W (.cells news.toArray e)).cells j
  rw [Nat.zero_add, this]
  simpa using hu) h1 hb2 hb1 (by simp; omega)
 unfold Oper.wp execOp
 simp only [ho, resolve, invoke, builtin, Sem.run_bind, Sem.run_pure, Result.andThen_ok, List.map_toArray, List.map_cons, List.map_nil, hs, hx, hr]
 refine h v' w' h2 h3 (fun k hk => ?_)
 rcases h5 with e2 | e2
 ·rw [e2] at hk; exact .inl hk
 ·rw [e2] at hk
  injection hk with hk
  simp at hk
  right; omega
end Go.Proofs.YtddkhnnpeonbgaaGreatDoor
namespace Go.Proofs.YtddkhnnpeonbgaaGreatDoor
open Go.RowKit

theorem nat_or_shift (a n w : Nat) (hn : n < 2 ^ w) (hw : w ≤ 32) : (a * 2 ^ w % 4294967296) ||| n = a * 2 ^ w % 4294967296 + n := by
 have e : a * 2 ^ w % 4294967296 = (a % 2 ^ (32 - w)) <<< w := by
  rw [Nat.shiftLeft_eq, show (4294967296 : Nat) = 2 ^ (32 - w) * 2 ^ w by rw [← Nat.pow_add, show 32 - w + w = 32 by omega], Nat.mul_mod_mul_right]
 rw [e, Nat.shiftLeft_add_eq_or_of_lt hn]
theorem acc_step (V n : Int) (w : Nat) (hV : 0 ≤ V) (h0 : 0 ≤ n) (hn : n < 2 ^ w) (hw : w ≤ 32) : bits .or .u32 ((V % 4294967296) * 2 ^ w % 4294967296) n = (V * 2 ^ w + n) % 4294967296 := by
 obtain ⟨v, rfl⟩ := Int.eq_ofNat_of_zero_le hV
 obtain ⟨m, rfl⟩ := Int.eq_ofNat_of_zero_le h0
 have hm : m < 2 ^ w := by exact_mod_cast hn
 have hp : (2 : Nat) ^ w ≤ 2 ^ 32 := Nat.pow_le_pow_right (by decide) hw
 have e1 : ((v : Int) % 4294967296) * 2 ^ w % 4294967296 = ((v * 2 ^ w % 4294967296 : Nat) : Int) := by
  rw [Int.mul_emod, Int.emod_emod_of_dvd _ (Int.dvd_refl _), ← Int.mul_emod, Int.natCast_emod, Int.natCast_mul, Int.natCast_pow]; rfl
 rw [e1, u32_or_nat _ _ (by omega) (by omega), nat_or_shift _ _ _ hm hw]
 have h3 : v * 2 ^ w % 4294967296 + m < 4294967296 := by
  have e2 : v * 2 ^ w % 4294967296 = (v % 2 ^ (32 - w)) * 2 ^ w := by
   rw [show (4294967296 : Nat) = 2 ^ (32 - w) * 2 ^ w by rw [← Nat.pow_add, show 32 - w + w = 32 by omega], Nat.mul_mod_mul_right]
  have h4 : v % 2 ^ (32 - w) < 2 ^ (32 - w) := Nat.mod_lt _ (Nat.two_pow_pos _)
  have h5 : (v % 2 ^ (32 - w) + 1) * 2 ^ w ≤ 2 ^ (32 - w) * 2 ^ w := Nat.mul_le_mul_right _ h4
  rw [← Nat.pow_add, show 32 - w + w = 32 by omega, Nat.add_mul] at h5
  omega
 have h6 : (v * 2 ^ w + m) % 4294967296 = v * 2 ^ w % 4294967296 + m := by
  rw [Nat.add_mod, Nat.mod_eq_of_lt (show m < 4294967296 by omega), Nat.mod_eq_of_lt h3]
 have h7 : ((v : Int) * 2 ^ w + (m : Int)) % 4294967296 = (((v * 2 ^ w + m) % 4294967296 : Nat) : Int) := by rw [Int.natCast_emod, Int.natCast_add, Int.natCast_mul, Int.natCast_pow]; rfl
 rw [h7, h6]
theorem shr_byte (V : Int) (w : Nat) (hw : w ≤ 24) : (V % 4294967296) / 2 ^ w % 256 = V / 2 ^ w % 256 := by
 have hp := pow_pos2 w
 have e : (4294967296 : Int) = 2 ^ w * (2 ^ (24 - w) * 256) := by
  rw [← Int.mul_assoc, ← Int.pow_add, show w + (24 - w) = 24 by omega]; rfl
 have h1 := Int.mul_ediv_add_emod V 4294967296
 have h2 : V % 4294967296 = V + 2 ^ w * (-(2 ^ (24 - w) * 256 * (V / 4294967296))) := by
  have e3 : 2 ^ w * (-(2 ^ (24 - w) * 256 * (V / 4294967296))) = -(4294967296 * (V / 4294967296)) := by
   rw [e]; rw [Int.mul_neg, ← Int.mul_assoc]
  rw [e3]; omega
 rw [h2, Int.add_mul_ediv_left _ _ (by omega)]
 have e4 : -(2 ^ (24 - w) * 256 * (V / 4294967296)) = 256 * (-(2 ^ (24 - w) * (V / 4294967296))) := by
  rw [Int.mul_neg]; congr 1
  rw [Int.mul_comm (2 ^ (24 - w)) 256, Int.mul_assoc]
 rw [e4, Int.add_mul_emod_self_left]

def WrS (base q : Nat) (v : Value) (pre bs : List Int) (w : World) : Prop :=
 HasO w q (.cells #[v, .int .u32 (valL bs % 4294967296), .int .i64 ((bs.length % 8 : Nat) : Int)] 135 (0, 0)) ∧
 w.ownsRow base 5 1 v (pre.length + bs.length / 8) ((pre ++ bytesN (bs.length / 8) bs).map (.int .u8))

def pv (q : Nat) (v' : Value) (av2 : Int) (m : Nat) : Nat → Value
 | 0 => .pointer (some ⟨q, 0, none⟩) | 1 => .pointer (some ⟨q, 0, none⟩) | 2 => .pointer (some ⟨q, 0, none⟩) | 3 => .pointer (some ⟨q, 0, none⟩) | 4 => v'
 | 5 => .pointer (some ⟨q, 0, none⟩) | 6 => .pointer (some ⟨q, 0, none⟩) | 7 => .pointer (some ⟨q, 1, none⟩) | 8 => .int .u32 av2
 | 9 => .pointer (some ⟨q, 0, none⟩) | 10 => .pointer (some ⟨q, 0, none⟩) | 11 => .pointer (some ⟨q, 2, none⟩) | 12 => .int .i64 m
 | 13 => .int .u32 (av2 / 2 ^ m) | 14 => .int .u8 (av2 / 2 ^ m % 256) | 17 => .pointer (some ⟨q, 0, none⟩) | 18 => .pointer (some ⟨q, 0, none⟩) | _ => undef
def putR (base q : Nat) (v v' : Value) (av2 : Int) (m N : Nat) (xs : List Int) (w wA : World) : (s15 s16 s19 : Bool) → Value → Value → World → Prop
 | _, _, true, _, _, wv => ∃ v'', wv.ownsRow base 5 1 v'' (N + 1) ((xs ++ [av2 / 2 ^ m % 256]).map (.int .u8)) ∧ HasO wv q (.cells #[v'', .int .u32 av2, .int .i64 m] 135 (0, 0)) ∧ Put2 q v w wv ∧ Near w v v''
 | _, true, false, _, u16, wv => wv.ownsRow base 5 1 u16 (N + 1) ((xs ++ [av2 / 2 ^ m % 256]).map (.int .u8)) ∧ HasO wv q (.cells #[v', .int .u32 av2, .int .i64 m] 135 (0, 0)) ∧ Put2 q v w wv ∧ Near w v u16
 | true, false, false, u15, _, wv => u15 = .slice (some ⟨wA.heap.size, 0, none⟩) 1 1 ∧ wv = wA.drew.alloc (.cells #[.int .u8 (av2 / 2 ^ m % 256)] 5)
 | false, false, false, _, _, wv => wv = wA.drew
theorem own_slice {w : World} {base : Nat} {e : TypeId} {size n : Nat} {v : Value} {xs : List Value} (h : w.ownsRow base e size v n xs) : ∃ p n c, v = .slice p n c := by
 rcases h.2 with ⟨rfl, _⟩ | ⟨g, cap, cur, rfl, _⟩
 iterate 2 exact ⟨_, _, _, rfl⟩
theorem putR_has {base q : Nat} {v v' : Value} {av2 : Int} {m N : Nat} {xs : List Int} {w wA : World} {s15 s16 : Bool} {u15 u16 : Value} {wv : World} (h : putR base q v v' av2 m N xs w wA s15 s16 false u15 u16 wv)
  (hM : HasO wA q (.cells #[v', .int .u32 av2, .int .i64 m] 135 (0, 0))) : HasO wv q (.cells #[v', .int .u32 av2, .int .i64 m] 135 (0, 0)) := by
 rcases s16 with _ | _
 ·rcases s15 with _ | _
  ·obtain rfl : wv = wA.drew := h
   exact hM.drew
  ·obtain ⟨_, rfl⟩ : _ ∧ wv = wA.drew.alloc _ := h
   exact hM.drew.alloc _
 ·exact h.2.1

set_option maxRecDepth 100000 in
set_option maxHeartbeats 1000000 in
theorem put_any (base q : Nat) (v : Value) (pre bs : List Int) (n : Int) (wd : Nat) (w : World) (hW : WrS base q v pre bs w) (hbits : isBits bs) (h0 : 0 ≤ n) (h1 : n < 2 ^ wd) (hw : wd ≤ 14) (hbase : base ≤ w.heap.size) (hl : pre.length + bs.length ≤ 100000000) :
  Calls Tryz.prog 78 #[.pointer (some ⟨q, 0, none⟩), .int .u32 n, .int .i64 wd] w fun e w' => ∃ v', e = .returned (.tuple #[]) ∧ WrS base q v' pre (bs ++ bitsI wd n) w' ∧ Put2 q v w w' ∧ Near w v v' := by
 obtain ⟨i0, hi0, hz0, hz1, hz2⟩ := info_parts Tryz.info5
 obtain ⟨hM, hown⟩ := hW
 have hb2 := isBits_append hbits (bitsI_bits wd n)
 have hlen : (bs ++ bitsI wd n).length = bs.length + wd := by rw [List.length_append, bitsI_len]
 have hval : valL (bs ++ bitsI wd n) = valL bs * 2 ^ wd + n := by rw [valL_append, bitsI_len, bitsI_val _ _ h0 h1]
 have hacc := Lib.hid (acc_step (valL bs) n wd (valL_bd hbits).1 h0 h1 (by omega))
 rw [← hval] at hacc
 have hpre := bytesN_append (bs.length / 8) bs (bitsI wd n) (by omega)
 rw [← hpre] at hown
 replace hval := Lib.hid hval
 replace hpre := Lib.hid hpre
 replace hbits := Lib.hid hbits
 have hn32 : n < 4294967296 := by
  have h2 := Nat.pow_le_pow_right (show 0 < 2 by decide) hw
  have e : ((2 ^ wd : Nat) : Int) = (2 : Int) ^ wd := by rw [Int.natCast_pow]; rfl
  rw [← e] at h1
  omega
 replace h1 := Lib.hid h1
 have hva : 0 ≤ valL bs % 4294967296 ∧ valL bs % 4294967296 < 4294967296 := ⟨Int.emod_nonneg _ (by decide), Int.emod_lt_of_pos _ (by decide)⟩
 generalize hbs2 : bs ++ bitsI wd n = bs2 at *
 replace hbs2 := Lib.hid hbs2
 generalize valL bs % 4294967296 = av at *
 obtain ⟨r, hr⟩ : ∃ r, r = bs.length % 8 := ⟨_, rfl⟩
 rw [← hr] at hM
 have hr8 : r < 8 := by omega
 obtain ⟨k0, hk0⟩ : ∃ k, k = bs.length / 8 := ⟨_, rfl⟩
 rw [← hk0] at hown
 have hL : bs2.length = 8 * k0 + r + wd := by omega
 have hk0b : 8 * k0 ≤ bs.length := by omega
 replace hr := Lib.hid hr
 replace hk0 := Lib.hid hk0
 replace hlen := Lib.hid hlen
 go_enter Tryz.func78, Tryz.ntmps78
 have c0 := hM.cells 0
 have c1 := hM.cells 1
 have c2 := hM.cells 2
 have f := hM.frozen
 have hlt := hM.lt
 go_wp2_with fail
 go_region
 rw [hacc.out]
 have hM1 := ((hM.set_ 1 (.int .u32 (valL bs2 % 4294967296))).set_ 2 (.int .i64 ((r : Int) + wd))).drew
 have hP1 := (((Put2.refl q v w).setCell 1 (.int .u32 (valL bs2 % 4294967296))).setCell 2 (.int .i64 ((r : Int) + wd))).drew
 have hne : v.ownBlock ≠ some q := own_ne hown hM (by simp)
 have hown1 : ((w.setCell ⟨q, 1, none⟩ (.int .u32 (valL bs2 % 4294967296))).setCell ⟨q, 2, none⟩ (.int .i64 ((r : Int) + wd))).drew.ownsRow base 5 1 v (pre.length + k0) ((pre ++ bytesN k0 bs2).map (.int .u8)) := by
  refine hown.kept (row := some q) ⟨rfl, rfl, rfl, by simp [World.setCell], fun k hk hkq => ?_⟩ (.inr hne)
  show ((w.setCell _ _).setCell _ _).heap[k]? = _
  rw [Below.heap_setCell _ _ _ _ (fun e => hkq (by rw [e])), Below.heap_setCell _ _ _ _ (fun e => hkq (by rw [e]))]
 generalize ((w.setCell ⟨q, 1, none⟩ (.int .u32 (valL bs2 % 4294967296))).setCell ⟨q, 2, none⟩ (.int .i64 ((r : Int) + wd))).drew = wB at *
 have hva2 : 0 ≤ valL bs2 % 4294967296 ∧ valL bs2 % 4294967296 < 4294967296 := ⟨Int.emod_nonneg _ (by decide), Int.emod_lt_of_pos _ (by decide)⟩
 generalize hav2 : valL bs2 % 4294967296 = av2 at *
 replace hav2 := Lib.hid hav2
 clear c0 c1 c2 f hacc hva hne
 go_wp2_with fail
 go_loopg [] 3 (fun qg wr => ∃ (k : Nat) (v' : Value), qg + k = k0 + 3 ∧ k0 ≤ k ∧ 8 * k ≤ bs2.length ∧ HasO wr q (.cells #[v', .int .u32 av2, .int .i64 ((bs2.length : Int) - 8 * k)] 135 (0, 0)) ∧
  wr.ownsRow base 5 1 v' (pre.length + k) ((pre ++ bytesN k bs2).map (.int .u8)) ∧ Put2 q v w wr ∧ Near w v v')
 case atStart => exact ⟨k0, v, by omega, by omega, by omega, by rw [show (bs2.length : Int) - 8 * k0 = (r : Int) + wd by omega]; exact hM1, hown1, hP1, Near.refl _ _⟩
 case round =>
  clear hM1 hown1 hP1 hM hown
  obtain ⟨k, v', hq, hk0k, hk8, hM, hown, hP, hN⟩ := hrel
  by_cases hk : 8 * k + 8 ≤ bs2.length
  ·obtain ⟨m, hm⟩ : ∃ m, m = bs2.length - (8 * k + 8) := ⟨_, rfl⟩
   have hm24 : m ≤ 13 := by omega
   have hW : (bs2.length : Int) - 8 * k = m + 8 := by omega
   rw [hW] at hM
   have c0 := hM.cells 0
   have c1 := hM.cells 1
   have c2 := hM.cells 2
   have f := hM.frozen
   have hlt := hM.lt
   have hne : v'.ownBlock ≠ some q := own_ne hown hM (by simp)
   have hMA := hM.set_ 2 (.int .i64 (m : Int))
   have hPA := hP.setCell 2 (.int .i64 (m : Int))
   have hownA : (wr.setCell ⟨q, 2, none⟩ (.int .i64 (m : Int))).ownsRow base 5 1 v' (pre.length + k) ((pre ++ bytesN k bs2).map (.int .u8)) := by
    refine hown.kept (row := some q) ⟨rfl, rfl, rfl, by simp [World.setCell], fun k hk hkq => ?_⟩ (.inr hne)
    rw [Below.heap_setCell _ _ _ _ (fun e => hkq (by rw [e]))]
   replace hm := Lib.hid hm
   replace hW := Lib.hid hW
   replace hL := Lib.hid hL
   have hmm : (m : Int) + 8 - 8 = m := by omega
   go_wp2_with fail
   have hszA : (wr.setCell ⟨q, 2, none⟩ (.int .i64 (m : Int))).heap.size = wr.heap.size := by simp [World.setCell]
   generalize wr.setCell ⟨q, 2, none⟩ (.int .i64 (m : Int)) = wA at *
   have hbA : base ≤ wA.heap.size := by have := hPA.size; omega
   have hltA := hMA.lt
   clear c0 c1 c2 f hne hown hM hP hlt hmm
   replace hszA := True.intro
   refine wp_region_relL (by kernel_rfl) (by kernel_rfl) [some 38, some 39, some 40, some 41, some 42, some 43, some 44, some 45, some 46, some 47, some 48, some 49, some 50, some 51, some 52, some 53, some 54, some 55, some 56, none] (by rfl) (by rfl)
    (fun S f wv => (∀ i, i < 19 → i ≠ 15 → i ≠ 16 → S i = true → f i = pv q v' av2 m i) ∧ putR base q v v' av2 m (pre.length + k) (pre ++ bytesN k bs2) w wA (S 15) (S 16) (S 19) (f 15) (f 16) wv) ?hcong ?h0 ?hstep ?hend
   case hcong =>
    rintro S S' f wv hS ⟨h1, h2⟩
    refine ⟨fun i hi h15 h16 h => h1 i hi h15 h16 (by rw [hS i (Nat.lt_of_lt_of_le hi (by decide))]; exact h), ?_⟩
    rw [← hS 15 (by decide), ← hS 16 (by decide), ← hS 19 (by decide)]; exact h2
   case h0 => exact fun f => ⟨fun i _ _ _ h => (by cases h), rfl⟩
   case hstep =>
    rintro S i o f wv ho hi hSi hpre hcl ⟨hf, hR⟩ K hK
    have hi : i < 20 := hi
    have keep : ∀ u, i ≠ 15 → i ≠ 16 → i < 19 → u = pv q v' av2 m i → (∀ j, j < 19 → j ≠ 15 → j ≠ 16 → upd S i j = true → (if j = i then u else f j) = pv q v' av2 m j) ∧ putR base q v v' av2 m (pre.length + k) (pre ++ bytesN k bs2) w wA (upd S i 15) (upd S i 16) (upd S i 19) (if 15 = i then u else f 15) (if 16 = i then u else f 16) wv := by
     intro u h15 h16 h19 hu
     refine ⟨fun j hj hj15 hj16 hSj => ?_, ?_⟩
     ·by_cases e : j = i
      ·subst e; simpa using hu
      ·simp only [e, if_false]; exact hf j hj hj15 hj16 (by simpa [upd, e] using hSj)
     ·simp only [upd, show ¬ 15 = i from fun h => h15 h.symm, show ¬ 16 = i from fun h => h16 h.symm, show ¬ 19 = i by omega, if_false]; exact hR
    have hv : ∀ e ∈ o.after, Region.binds .any e = true → e.on ≠ 15 → e.on ≠ 16 → e.on < 19 → f e.on = pv q v' av2 m e.on := fun e he hb h1 h2 h3 => hf _ h3 h1 h2 (hpre e he hb)
    have h19 : i < 17 → S 19 = false := by
     intro h
     rcases hs : S 19 with _ | _
     ·rfl
     ·have h4 := hcl 19 _ hs rfl ⟨i, .phase⟩ (by
       rcases (by omega : i = 0 ∨ i = 1 ∨ i = 2 ∨ i = 3 ∨ i = 4 ∨ i = 5 ∨ i = 6 ∨ i = 7 ∨ i = 8 ∨ i = 9 ∨ i = 10 ∨ i = 11 ∨ i = 12 ∨ i = 13 ∨ i = 14 ∨ i = 15 ∨ i = 16) with rfl | rfl | rfl | rfl | rfl | rfl | rfl | rfl | rfl | rfl | rfl | rfl | rfl | rfl | rfl | rfl | rfl <;> simp) rfl
      rw [hSi] at h4; cases h4
    by_cases hspec : i = 15 ∨ i = 16 ∨ i = 19
    ·rcases hspec with rfl | rfl | rfl
     ·have h19' := h19 (by omega)
      have h16 : S 16 = false := by
       rcases hs : S 16 with _ | _
       ·rfl
       ·have h4 := hcl 16 _ hs rfl ⟨15, .data⟩ (by simp) rfl
        rw [hSi] at h4; cases h4
      rw [hSi, h16, h19'] at hR
      obtain rfl : wv = wA.drew := hR
      have hK := hK (.slice (some ⟨wA.heap.size, 0, none⟩) 1 1) (wA.drew.alloc (.cells #[.int .u8 (av2 / 2 ^ m % 256)] 5)) ⟨fun j hj h1 h2 h3 => by show (if j = 15 then _ else f j) = _; rw [if_neg h1]; exact hf j hj h1 h2 (by simpa [upd, h1] using h3), by
       rw [show upd S 15 15 = true by simp [upd], show upd S 15 16 = false by simp [upd, h16], show upd S 15 19 = false by simp [upd, h19']]
       exact ⟨rfl, rfl⟩⟩
      clear hcl hpre keep h19 h19' hf
      injection ho with ho; subst ho
      simp [Region.binds] at hv
      simp only [putL, pv] at hv hK ⊢
      simp only [hv] at hK ⊢
      revert hK
      go_simp
     ·have h19' := h19 (by omega)
      have h15 : S 15 = true := hpre ⟨15, .data⟩ (by injection ho with ho; subst ho; simp) rfl
      have h4 : f 4 = v' := hv ⟨4, .data⟩ (by injection ho with ho; subst ho; simp) rfl (by decide) (by decide) (by decide)
      rw [h15, hSi, h19'] at hR
      obtain ⟨hu15, rfl⟩ : f 15 = .slice (some ⟨wA.heap.size, 0, none⟩) 1 1 ∧ wv = wA.drew.alloc (.cells #[.int .u8 (av2 / 2 ^ m % 256)] 5) := hR
      have hK : ∀ u w', w'.ownsRow base 5 1 u (pre.length + k + 1) ((pre ++ bytesN k bs2 ++ [av2 / 2 ^ m % 256]).map (.int .u8)) ∧ HasO w' q (.cells #[v', .int .u32 av2, .int .i64 m] 135 (0, 0)) ∧ Put2 q v w w' ∧ Near w v u → K ((putL _ f 0 _).put o.dst u) w' := fun u w' hu => hK u w' ⟨fun j hj h1 h2 h3 => by show (if j = 16 then _ else f j) = _; rw [if_neg h2]; exact hf j hj h1 h2 (by simpa [upd, h2] using h3), by
       rw [show upd S 16 15 = true by simp [upd, h15], show upd S 16 16 = true by simp [upd], show upd S 16 19 = false by simp [upd, h19']]
       exact hu⟩
      clear hcl hpre keep h19 h19' hf hv
      injection ho with ho; subst ho
      rw [if_pos (show Region.wanted _ _ = true from rfl)]
      with_reducible refine wp_push_at (.tmp 42) (.tmp 53) 22 ?_ base 5 i0 (.int .u8 0) 1 ?_ ?_ ?_ ?_ ?_ ?_ v' (pre.length + k) ((pre ++ bytesN k bs2).map (.int .u8)) ?_ ?_ 1 [.int .u8 (av2 / 2 ^ m % 256)] ?_ ?_ wA.drew.heap.size ?_ ?_ ?_ ?_ ?_
      ·rfl
      ·exact Tryz.underlying22
      ·exact hi0
      ·exact hz0
      ·exact hz1
      ·exact hz2
      ·rfl
      ·simp only [putL]; go_simp
      ·exact hownA
      ·rfl
      ·intro u hu; simp at hu; subst hu; rfl
      ·rfl
      ·simp only [putL]; go_simp
      ·omega
      ·exact hbA
      ·intro v'' w' ho2 hg hnear
       refine hK v'' w' ⟨by rw [List.map_append]; exact ho2, ?_, ?_, ?_⟩
       ·exact (hMA.drew.alloc _).grown hg (own_ne hownA hMA (by simp))
       ·exact (hPA.drew.alloc _).grown hN hg
       ·exact hN.trans hnear hPA.size
     ·have h16 : S 16 = true := hpre ⟨16, .data⟩ (by injection ho with ho; subst ho; simp) rfl
      have h18 : f 18 = .pointer (some ⟨q, 0, none⟩) := hv ⟨18, .data⟩ (by injection ho with ho; subst ho; simp) rfl (by decide) (by decide) (by decide)
      rw [h16, hSi] at hR
      have hR2 : wv.ownsRow base 5 1 (f 16) (pre.length + k + 1) ((pre ++ bytesN k bs2 ++ [av2 / 2 ^ m % 256]).map (.int .u8)) ∧ HasO wv q (.cells #[v', .int .u32 av2, .int .i64 m] 135 (0, 0)) ∧ Put2 q v w wv ∧ Near w v (f 16) := by
       rcases S 15 with _ | _ <;> exact hR
      obtain ⟨ho1, ho2, ho3, ho4⟩ := hR2
      have hne := own_ne ho1 ho2 (by simp)
      have hu := own_slice ho1
      obtain ⟨up, un, uc, hu⟩ := hu
      have hK := hK undef (wv.setCell ⟨q, 0, none⟩ (f 16)) ⟨fun j hj h1 h2 h3 => by show (if j = 19 then _ else f j) = _; rw [if_neg (by omega)]; exact hf j hj h1 h2 (by simpa [upd, show ¬ j = 19 by omega] using h3), by
       rw [show upd S 19 19 = true by simp [upd]]
       have hfin : ∃ v'', (wv.setCell ⟨q, 0, none⟩ (f 16)).ownsRow base 5 1 v'' (pre.length + k + 1) ((pre ++ bytesN k bs2 ++ [av2 / 2 ^ m % 256]).map (.int .u8)) ∧ HasO (wv.setCell ⟨q, 0, none⟩ (f 16)) q (.cells #[v'', .int .u32 av2, .int .i64 m] 135 (0, 0)) ∧ Put2 q v w (wv.setCell ⟨q, 0, none⟩ (f 16)) ∧ Near w v v'' := by
        refine ⟨f 16, ?_, ho2.set_ 0 (f 16), ho3.setCell 0 (f 16), ho4⟩
        refine ho1.kept (row := some q) ⟨rfl, rfl, rfl, by simp [World.setCell], fun k hk hkq => ?_⟩ (.inr hne)
        rw [Below.heap_setCell _ _ _ _ (fun e => hkq (by rw [e]))]
       rcases upd S 19 15 with _ | _ <;> rcases upd S 19 16 with _ | _ <;> exact hfin⟩
      have c0 := ho2.cells 0
      have fz := ho2.frozen
      clear hcl hpre keep h19 hf hv hR
      injection ho with ho; subst ho
      simp only [putL] at hK ⊢
      simp only [h18] at hK ⊢
      simp only [hu] at hK ⊢
      clear ho1 ho2 ho3 ho4 hne
      revert hK
      go_simp
    ·by_cases hpt : i = 17 ∨ i = 18
     ·have hK := hK _ wv (keep (pv q v' av2 m i) (by omega) (by omega) (by omega) rfl)
      clear hR hcl hpre keep h19 hf
      rcases hpt with rfl | rfl
      all_goals (injection ho with ho; subst ho)
      all_goals (simp [Region.binds] at hv)
      all_goals (simp only [putL, pv] at hv hK ⊢)
      all_goals (try simp only [hv] at hK ⊢)
      all_goals (revert hK)
      all_goals (try go_simp)
      all_goals (try exact id)
     have h19' := h19 (by omega)
     have hR2 := hR
     rw [h19'] at hR2
     have hMv := putR_has hR2 hMA
     have c0 := hMv.cells 0
     have c1 := hMv.cells 1
     have c2 := hMv.cells 2
     have hK := hK _ wv (keep (pv q v' av2 m i) (by omega) (by omega) (by omega) rfl)
     clear hR2 hR hcl hpre keep h19 h19' hf
     rcases (by omega : i = 0 ∨ i = 1 ∨ i = 2 ∨ i = 3 ∨ i = 4 ∨ i = 5 ∨ i = 6 ∨ i = 7 ∨ i = 8 ∨ i = 9 ∨ i = 10 ∨ i = 11 ∨ i = 12 ∨ i = 13 ∨ i = 14) with rfl | rfl | rfl | rfl | rfl | rfl | rfl | rfl | rfl | rfl | rfl | rfl | rfl | rfl | rfl
     all_goals (injection ho with ho; subst ho)
     all_goals (simp [Region.binds] at hv)
     all_goals (simp only [putL, pv] at hv hK ⊢)
     all_goals (try simp only [hv] at hK ⊢)
     all_goals (revert hK)
     all_goals (try go_simp)
     all_goals (try exact id)
   case hend =>
    rintro S f wv hS ⟨hf, hR⟩
    rw [hS 19 (by decide)] at hR
    have hR2 : ∃ v'', wv.ownsRow base 5 1 v'' (pre.length + k + 1) ((pre ++ bytesN k bs2 ++ [av2 / 2 ^ m % 256]).map (.int .u8)) ∧ HasO wv q (.cells #[v'', .int .u32 av2, .int .i64 m] 135 (0, 0)) ∧ Put2 q v w wv ∧ Near w v v'' := by
     rcases S 15 with _ | _ <;> rcases S 16 with _ | _ <;> exact hR
    obtain ⟨v'', ho1, ho2, ho3, ho4⟩ := hR2
    have hx : av2 / 2 ^ m % 256 = valL ((bs2.drop (8 * k)).take 8) := by
     rw [byte_mid hb2 hk, ← hm.out, ← hav2.out, shr_byte _ _ (by omega)]
    rw [hx, List.append_assoc, ← bytesN_succ] at ho1
    clear hR hf hS hMA hPA hownA hN
    simp only [putL]
    go_simp
    go_wp2_with fail
    have hL := hL.out
    go_roundg (gk - 1)
    case measure => omega
    case rel =>
     have e : (bs2.length : Int) - 8 * ((k + 1 : Nat) : Int) = m := by have := hW.out; omega
     exact ⟨k + 1, v'', by omega, by omega, by omega, by rw [e]; exact ho2, ho1, ho3, ho4⟩
  ·have hkk : (bs2.length : Int) - 8 * k < 8 := by omega
   have hkk0 : 0 ≤ (bs2.length : Int) - 8 * k := by omega
   have c2 := hM.cells 2
   have hlt := hM.lt
   go_wp2_with fail
   go_end0
   have hkL : k = bs2.length / 8 := by omega
   refine ⟨v', rfl, ⟨?_, ?_⟩, hP, hN⟩
   ·rw [hav2.out, show ((bs2.length % 8 : Nat) : Int) = (bs2.length : Int) - 8 * k by omega]; exact hM
   ·rw [← hkL]; exact hown
end Go.Proofs.YtddkhnnpeonbgaaGreatDoor
