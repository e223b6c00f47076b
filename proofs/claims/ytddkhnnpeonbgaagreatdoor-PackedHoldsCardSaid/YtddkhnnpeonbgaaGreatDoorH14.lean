import Derived.Test.YtddkhnnpeonbgaaGreatDoorH02
import Derived.Test.YtddkhnnpeonbgaaGreatDoorH06
import Derived.Test.YtddkhnnpeonbgaaGreatDoorH13
import Derived.RegionIn
import Derived.Maps.OwnIn
import Derived.Lib.AppendStr
namespace Go.Proofs.YtddkhnnpeonbgaaGreatDoor
open Go.RowKit

theorem padL_len (bs : List Int) : (padL bs).length = bs.length + padN bs.length := by simp [padL]
theorem end_any (base q : Nat) (v : Value) (pre bs : List Int) (w : World) (hW : WrS base q v pre bs w) (hbits : isBits bs) (hbase : base ≤ w.heap.size) (hl : pre.length + bs.length ≤ 100000000) :
  Calls Tryz.prog 79 #[.pointer (some ⟨q, 0, none⟩)] w fun e w' => ∃ v', e = .returned (.tuple #[]) ∧ WrS base q v' (pre ++ bytesL bs) [] w' ∧ Put2 q v w w' ∧ Near w v v' := by
 have hM := hW.1
 have c2 := hM.cells 2
 have hlt := hM.lt
 have key : ∀ v' w', WrS base q v' pre (padL bs) w' → Put2 q v w w' → Near w v v' → (WrS base q v' (pre ++ bytesL bs) [] (w'.setCell ⟨q, 1, none⟩ (.int .u32 0)) ∧ Put2 q v w (w'.setCell ⟨q, 1, none⟩ (.int .u32 0)) ∧ Near w v v') := by
  rintro v' w' ⟨h1, h2⟩ h3 h4
  refine ⟨⟨?_, ?_⟩, h3.setCell 1 _, h4⟩
  ·have := h1.set_ 1 (.int .u32 0)
   have e : ((padL bs).length % 8 : Nat) = 0 := by have := padN_lt bs.length; rw [padL_len]; omega
   rw [e] at this
   exact this
  ·have hne := own_ne h2 h1 (by simp)
   have e1 : (pre ++ bytesL bs).length + ([] : List Int).length / 8 = pre.length + (padL bs).length / 8 := by simp [bytesL, bytesN_len]
   have e2 : (pre ++ bytesL bs) ++ bytesN (([] : List Int).length / 8) [] = pre ++ bytesN ((padL bs).length / 8) (padL bs) := by simp [bytesL, bytesN]
   rw [e1, e2]
   refine h2.kept (row := some q) ⟨rfl, rfl, rfl, by simp [World.setCell], fun k hk hkq => ?_⟩ (.inr hne)
   rw [Below.heap_setCell _ _ _ _ (fun e => hkq (by rw [e]))]
 replace key := Lib.hid key
 have hr : bs.length % 8 < 8 := Nat.mod_lt _ (by decide)
 generalize hrr : bs.length % 8 = r at *
 go_enter Tryz.func79, Tryz.ntmps79
 by_cases h0 : r = 0
 ·subst h0
  have hp : padL bs = bs := by simp [padL, padN, hrr]
  have hk := Lib.hid (key.out v w (by rw [hp]; exact hW) (Put2.refl _ _ _) (Near.refl _ _))
  have f := hM.frozen
  have c1 := hM.cells 1
  replace hrr := Lib.hid hrr
  go_wp2_with fail
  go_end0
  first | exact ⟨v, rfl, hk.out⟩ | exact ⟨rfl, v, hk.out⟩
 ·have hr0 : (0 : Int) < r := by omega
  replace hrr := Lib.hid hrr
  go_wp2_with fail
  have e : (8 : Int) - r = ((8 - r : Nat) : Int) := by omega
  rw [e]
  refine (put_any base q v pre bs 0 (8 - r) w hW hbits (Int.le_refl _) (pow_pos2 _) (by omega) hbase hl).mono ?_
  rintro e w' ⟨v', rfl, h1, h2, h3⟩
  have hp : bs ++ bitsI (8 - r) 0 = padL bs := by
   rw [bitsI_zero, padL, padN, hrr.out, Nat.mod_eq_of_lt (by omega)]
  rw [hp] at h1
  have hk := Lib.hid (key.out v' w' h1 h2 h3)
  have hM2 := h1.1
  have f := hM2.frozen
  have c1 := hM2.cells 1
  have hlt2 := hM2.lt
  clear hM c2 hlt hW
  go_wp2_with fail
  go_end0
  first | exact ⟨v', rfl, hk.out⟩ | exact ⟨rfl, v', hk.out⟩

theorem min_any (p : Option Addr) (c : Nat) (xs : List Int) (w : World) (hx : Arr .i16 w p xs) (hl : xs.length ≤ 1000000000) (hne : 0 < xs.length) :
  Calls Tryz.prog 75 #[.slice p xs.length c] w fun e w' => e = .returned (.int .i16 (lowL xs)) ∧ w' = w := by
 obtain ⟨b, o, rfl, hbl, hc⟩ := hx.at hne
 have hc0 := hc 0 hne
 have hn1 : ¬ (xs.length : Int) < 1 := by omega
 obtain ⟨x0, hx0⟩ : ∃ x, x = xs[0]?.getD 0 := ⟨_, rfl⟩
 rw [← hx0, Nat.add_zero] at hc0
 have hlow : Hid (lowL xs = xs.foldl min x0) := Lib.hid (by rw [hx0]; rfl)
 have h0 : Hid (x0 = (xs.take 1).foldl min x0) := Lib.hid (by rw [hx0]; rcases xs with _ | ⟨y, t⟩; simp at hne; simp)
 replace hc := Lib.hid hc
 replace hx0 := Lib.hid hx0
 go_enter Tryz.func75, Tryz.ntmps75
 go_wp2_with fail
 go_loopg [3, 4] 1000000001 (fun q mv iv wr => ∃ i : Nat, q + i = 1000000002 ∧ i ≤ xs.length ∧ mv = .int .i16 ((xs.take i).foldl min x0) ∧ iv = .int .i64 i ∧ wr = w)
 case atStart => exact ⟨1, rfl, hne, by rw [← h0.out], rfl, rfl⟩
 case round =>
  obtain ⟨i, hq, hi, rfl, rfl, rfl⟩ := hrel
  by_cases hlt : i < xs.length
  ·have hii : (i : Int) < xs.length := by omega
   have hci := hc.out i hlt
   obtain ⟨x, hxv⟩ : ∃ x, x = xs[i]?.getD 0 := ⟨_, rfl⟩
   rw [← hxv] at hci
   have hst : Hid (min ((xs.take i).foldl min x0) x = (xs.take (i + 1)).foldl min x0) := Lib.hid (by
    rw [List.take_succ_eq_append_getElem hlt, List.foldl_append, hxv]; simp [hlt])
   replace hxv := Lib.hid hxv
   go_wp2_with fail
   rw [hst.out]
   go_roundg (gk - 1)
   case measure => omega
   case rel => exact ⟨i + 1, by omega, by omega, rfl, by go_num, rfl⟩
  ·have hii : ¬ (i : Int) < xs.length := by omega
   go_wp2_with fail
   go_ret
   exact ⟨ret_int (by rw [hlow.out, List.take_of_length_le (by omega)]), rfl⟩
theorem max_any (p : Option Addr) (c : Nat) (xs : List Int) (w : World) (hx : Arr .i16 w p xs) (hl : xs.length ≤ 1000000000) (hne : 0 < xs.length) :
  Calls Tryz.prog 77 #[.slice p xs.length c] w fun e w' => e = .returned (.int .i16 (highL xs)) ∧ w' = w := by
 obtain ⟨b, o, rfl, hbl, hc⟩ := hx.at hne
 have hc0 := hc 0 hne
 have hn1 : ¬ (xs.length : Int) < 1 := by omega
 obtain ⟨x0, hx0⟩ : ∃ x, x = xs[0]?.getD 0 := ⟨_, rfl⟩
 rw [← hx0, Nat.add_zero] at hc0
 have hhigh : Hid (highL xs = xs.foldl max x0) := Lib.hid (by rw [hx0]; rfl)
 have h0 : Hid (x0 = (xs.take 1).foldl max x0) := Lib.hid (by rw [hx0]; rcases xs with _ | ⟨y, t⟩; simp at hne; simp)
 replace hc := Lib.hid hc
 replace hx0 := Lib.hid hx0
 go_enter Tryz.func77, Tryz.ntmps77
 go_wp2_with fail
 go_loopg [3, 4] 1000000001 (fun q mv iv wr => ∃ i : Nat, q + i = 1000000002 ∧ i ≤ xs.length ∧ mv = .int .i16 ((xs.take i).foldl max x0) ∧ iv = .int .i64 i ∧ wr = w)
 case atStart => exact ⟨1, rfl, hne, by rw [← h0.out], rfl, rfl⟩
 case round =>
  obtain ⟨i, hq, hi, rfl, rfl, rfl⟩ := hrel
  by_cases hlt : i < xs.length
  ·have hii : (i : Int) < xs.length := by omega
   have hci := hc.out i hlt
   obtain ⟨x, hxv⟩ : ∃ x, x = xs[i]?.getD 0 := ⟨_, rfl⟩
   rw [← hxv] at hci
   have hst : Hid (max ((xs.take i).foldl max x0) x = (xs.take (i + 1)).foldl max x0) := Lib.hid (by
    rw [List.take_succ_eq_append_getElem hlt, List.foldl_append, hxv]; simp [hlt])
   replace hxv := Lib.hid hxv
   go_wp2_with fail
   rw [hst.out]
   go_roundg (gk - 1)
   case measure => omega
   case rel => exact ⟨i + 1, by omega, by omega, rfl, by go_num, rfl⟩
  ·have hii : ¬ (i : Int) < xs.length := by omega
   go_wp2_with fail
   go_ret
   exact ⟨ret_int (by rw [hhigh.out, List.take_of_length_le (by omega)]), rfl⟩
end Go.Proofs.YtddkhnnpeonbgaaGreatDoor
namespace Go.Proofs.YtddkhnnpeonbgaaGreatDoor
open Go.RowKit
attribute [local go_sem] Oper.semAt_some

def ChunkRd (b1 b2 g o n c : Nat) (W : World) : Prop :=
 W.cell? ⟨b1, 0, none⟩ = some (.slice (some ⟨g, o, none⟩) n c) ∧ W.cell? ⟨b2, 0, none⟩ = some (.int .i64 32)
def chunkE (g o n k : Nat) : Array Value := #[.slice (some ⟨g, o + 32 * k, none⟩) (min 32 (n - 32 * k)) (min 32 (n - 32 * k))]

theorem chunk_seq (b1 b2 g o n c : Nat) (_hn : n ≤ 1000000000) (hc : n ≤ c) :
  SeqI Tryz.prog 113 #[.pointer (some ⟨b1, 0, none⟩), .pointer (some ⟨b2, 0, none⟩)] (nBlk n) (chunkE g o n) (ChunkRd b1 b2 g o n c) (fun _ _ => False) (fun _ => False) := by
 intro n0 l J Jx W0 hst hstx hRd hsz hszx h0 hy
 have hJ0 := h0 W0.heap.size W0 (Below.refl _ _) (Nat.le_refl _) rfl
 obtain ⟨hr1, hr2⟩ := hRd _ _ _ hJ0
 refine callsIn_of_wp Tryz.func113 rfl trivial ?_ rfl
 simp only [Tryz.ntmps113, List.size_toArray, List.length_cons, List.length_nil, Nat.reduceAdd, Nat.reduceSub, Array.replicate_succ, Array.replicate_zero, List.push_toArray, List.append_toArray, List.nil_append, List.cons_append]
 gi_wp2
 gi_loopw [4] (fun i wr => ∃ k : Nat, k ≤ nBlk n ∧ i = .int .i64 (32 * (k : Int)) ∧ J W0.heap.size k wr) (fun i wr => ((n : Int) + 32 - intOf i).toNat)
 case atStart => exact ⟨0, by omega, by simp, hJ0⟩
 case round =>
  clear hr1 hr2
  obtain ⟨k, hk, rfl, hJ⟩ := hrel
  obtain ⟨hr1, hr2⟩ := hRd _ _ _ hJ
  have hnb : nBlk n = (n + 31) / 32 := rfl
  by_cases hlt : k < nBlk n
  ·have hi1 : 32 * (k : Int) < n := by omega
   replace hnb := Lib.hid hnb
   gi_wp2
   gi_region
   obtain ⟨e, he⟩ : ∃ e, e = min 32 (n - 32 * k) := ⟨_, rfl⟩
   rw [show min (32 : Int) ((n - 32 * k : Nat) : Int) = (e : Int) by omega]
   have hJ1 : J W0.heap.size k wr.drew := hst _ _ _ _ (Nat.le_refl _) hJ (Alt.drewN 1)
   have hr1 : wr.drew.cell? ⟨b1, 0, none⟩ = some (.slice (some ⟨g, o, none⟩) n c) := hr1
   have hr2 : wr.drew.cell? ⟨b2, 0, none⟩ = some (.int .i64 32) := hr2
   have hce : chunkE g o n k = #[.slice (some ⟨g, o + 32 * k, none⟩) e e] := by unfold chunkE; rw [← he]
   obtain ⟨fn, tmps, assign, body, hy1, hR⟩ := hy W0.heap.size k wr.drew (Nat.le_refl _) hlt hJ1 (fun q h1 h2 => by omega)
   rw [hce] at hy1
   have he1 : 1 ≤ e := by omega
   have he2 : 32 * k + e ≤ n := by omega
   replace he := Lib.hid he
   clear hJ hce
   generalize wr.drew = wd at *
   have hs1 : 32 * (k : Int) + e ≤ c := by omega
   have hs2 : 32 * (k : Int) ≤ 32 * (k : Int) + e := by omega
   have hs3 : (0 : Int) ≤ 32 * (k : Int) := by omega
   gi_wp2
   refine ⟨fun h => by simp [Fence.wide] at h, (roundIn_any hR).mono ?_⟩
   rintro e' W' (⟨rfl, hJ', _⟩ | ⟨rfl, hJx⟩)
   ·have hr2' := (hRd _ _ _ hJ').2
    gi_wp2
    go_roundw
    case rel => exact ⟨k + 1, by omega, by go_num, hJ'⟩
    case measure => simp [intOf]; omega
   ·gi_wp2
    refine bodyPost_ret (results_none rfl _ _ _) rfl ?_
    exact ⟨W0.heap.size, Nat.le_refl _, .inl ⟨⟨_, rfl⟩, .inr ⟨k, hlt, hJx⟩⟩⟩
  ·obtain rfl : k = nBlk n := by omega
   have hi1 : ¬ 32 * ((nBlk n : Nat) : Int) < n := by omega
   replace hnb := Lib.hid hnb
   gi_wp2
   go_end0
   first | exact ⟨W0.heap.size, Nat.le_refl _, .inl ⟨⟨_, rfl⟩, .inl hJ⟩⟩ | exact ⟨W0.heap.size, Nat.le_refl _, ⟨_, rfl⟩, .inl hJ⟩

theorem chunk_any (g o n c : Nat) (w : World) : Calls Tryz.prog 74 #[.slice (some ⟨g, o, none⟩) n c, .int .i64 32] w fun e w' =>
  e = .returned (.func (.func 113) #[] #[.pointer (some ⟨w.heap.size, 0, none⟩), .pointer (some ⟨w.heap.size + 1, 0, none⟩)]) ∧ Below w.heap.size w w' ∧
  HasO w' w.heap.size (.cells #[.slice (some ⟨g, o, none⟩) n c] 42 (0, 0)) ∧ HasO w' (w.heap.size + 1) (.cells #[.int .i64 32] 3 (0, 0)) := by
 have hA : HasO (w.alloc (.cells #[.slice (some ⟨g, o, none⟩) n c] 42)) w.heap.size (.cells #[.slice (some ⟨g, o, none⟩) n c] 42 (0, 0)) := HasO.new _ _
 have hB : HasO ((w.alloc (.cells #[.slice (some ⟨g, o, none⟩) n c] 42)).alloc (.cells #[.int .i64 32] 3)) (w.heap.size + 1) (.cells #[.int .i64 32] 3 (0, 0)) := HasO.new' _ _ (by simp)
 have hA1 := hA.alloc (.cells #[.int .i64 32] 3)
 have hb := (below_box w (.cells #[.slice (some ⟨g, o, none⟩) n c] 42)).alloc (by simp) (.cells #[.int .i64 32] 3)
 have c0 := hB.cells 0
 have hlt := hB.lt
 go_enter Tryz.func74, Tryz.ntmps74
 go_wp2_with fail
 go_ret
 exact ⟨rfl, hb, hA1, hB⟩
theorem wid_half {n : Int} (h0 : 0 < n) (h : n < 32768) : wid n = 1 + wid (n / 2) := by
 have h1 := wid_eq n
 have h2 := wid_eq (n / 2)
 omega
theorem wid_bitLen : ∀ n : Nat, n < 32768 → wid n = Lib.bitLen n := by
 intro n
 induction n using Nat.strongRecOn with
 | _ n ih =>
  intro h
  by_cases h0 : n = 0
  ·subst h0; rfl
  ·rw [wid_half (by omega) (by omega), Lib.bitLen_half n h0 (by omega), show ((n : Int) / 2) = ((n / 2 : Nat) : Int) by omega, ih (n / 2) (by omega) (by omega)]
theorem len16_any (x : Int) (h0 : 0 ≤ x) (h1 : x < 32768) (w : World) : Calls Tryz.prog 76 #[.int .u16 x] w fun e w' => e = .returned (.int .i64 (wid x : Nat)) ∧ w' = w := by
 refine (Tryz.bits_Len16 x w h0 (by omega)).mono ?_
 rintro e w' ⟨rfl, rfl⟩
 refine ⟨?_, rfl⟩
 have := wid_bitLen x.toNat (by omega)
 rw [show ((x.toNat : Nat) : Int) = x by omega] at this
 rw [this]
end Go.Proofs.YtddkhnnpeonbgaaGreatDoor
namespace Go.Proofs.YtddkhnnpeonbgaaGreatDoor
open Go.RowKit

theorem own_new (W : World) (base : Nat) (e : TypeId) (vs : List Value) (hb : base ≤ W.heap.size) (hl : vs.length ≤ maxLen) :
  (W.alloc (.cells vs.toArray e)).ownsRow base e 1 (.slice (some ⟨W.heap.size, 0, none⟩) vs.length vs.length) vs.length vs := by
 refine ⟨by omega, .inr ⟨W.heap.size, vs.length, vs.toArray, rfl, hb, HasO.new _ _, Nat.le_refl _, hl, by simp, by simp⟩⟩

theorem wpListIn_push_at {F : Fence} {nF : Nat} {P : Program} {W : World} {ops : Array Oper} {rest : List Oper} {o : Oper} {a : Act} {Q : Exit → Act → World → Prop} (hgd : o.guard = none) (s x : Operand) (t : TypeId)
  (ho : o.op = .call { callee := .builtin .append, args := #[s, x], argTypes := #[t, t] })
  (base : Nat) (e : TypeId) (i : TypeInfo) (z : Value) (bytes : Nat) (ht : P.underlying t = some (.slice e)) (hi : P.info? e = some i) (hz : i.zero = some z)
  (hsize : i.size = 1) (hby : i.bytes = bytes) (hzs : z.cells.size = 1)
  (v : Value) (n : Nat) (xs : List Value) (hs : a.eval s = v) (hown : W.ownsRow base e 1 v n xs)
  (m : Nat) (news : List Value) (hl : news.length = m) (h1 : ∀ u ∈ news, u.oneCell' = true) (q : Nat) (hq : q = W.heap.size) (hx : a.eval x = .slice (some ⟨q, 0, none⟩) m m)
  (hbytes : (n + m) * (bytes + 1) ≤ 140737488355328) (hbase : base ≤ W.heap.size)
  (h : ∀ v' w', w'.ownsRow base e 1 v' (n + m) (xs ++ news) → (W.alloc (.cells news.toArray e)).grownBy w' v.ownBlock → Near W v v' → wpListIn F nF P ops Q rest (a.put o.dst v') w') :
  wpListIn F nF P ops Q (o :: rest) a (W.alloc (.cells news.toArray e)) := by
 subst hq
 have hb1 : (n + m) * bytes ≤ 140737488355328 := Nat.le_trans (Nat.mul_le_mul_left _ (by omega)) hbytes
 have hb2 : n + m ≤ maxLen := by
  have : (n + m) * 1 ≤ (n + m) * (bytes + 1) := Nat.mul_le_mul_left _ (by omega)
  unfold maxLen; omega
 refine Go.wpListIn_append_own_at _ hgd s x t ho base e i z 1 bytes ht hi hz hsize hby hzs (by decide) v n xs hs (hown.alloc _) ⟨W.heap.size, 0, none⟩ m m news hx (by omega) ?_ h1 hb2 hb1 (by simp; omega) ?_
 ·intro j u hu
  rw [Addr.add_lit]
  have := (HasO.new W (.cells news.toArray e)).cells j
  rw [Nat.zero_add, this]
  simpa using hu
 ·intro v' w' ho' hg _ hloc
  refine h v' w' ho' hg (fun k hk => ?_)
  rcases hloc with e2 | e2
  ·rw [e2] at hk; exact .inl hk
  ·rw [e2] at hk
   injection hk with hk
   simp at hk
   right; omega

theorem wpListIn_str {F : Fence} {n' : Nat} {P : Program} {ops : Array Oper} {rest : List Oper} {o : Oper} {a : Act} {Q : Exit → Act → World → Prop} (w : World) (hgd : o.guard = none) (sl x : Operand) (t u : TypeId)
  (ho : o.op = .call { callee := .builtin .append, args := #[sl, x], argTypes := #[t, u] })
  (base : Nat) (e : TypeId) (i : TypeInfo) (ht : P.underlying t = some (.slice e)) (hu : P.underlying u = some .string) (hi : P.info? e = some i) (hz : i.zero = some (.int .u8 0))
  (hsize : i.size = 1) (hby : i.bytes = 1)
  (v : Value) (n : Nat) (xs : List Value) (hs : a.eval sl = v) (hown : w.ownsRow base e 1 v n xs) (s : ByteArray) (hx : a.eval x = .string s)
  (h63 : n + s.size ≤ maxLen) (hbytes : n + s.size ≤ 140737488355328) (hbase : base ≤ w.heap.size)
  (h : ∀ v' w', w'.ownsRow base e 1 v' (n + s.size) (xs ++ Lib.strCells s) → w.grownBy w' v.ownBlock → wpListIn F n' P ops Q rest (a.put o.dst v') w') : wpListIn F n' P ops Q (o :: rest) a w := by
 refine wpListIn_plain hgd fun K hK => ?_
 obtain ⟨v', w', hr, h2, h3, h4⟩ := Lib.run_append_own_string (P := P) w base t u o.type e i ht hu hi hz hsize hby v n xs hown s h63 hbytes hbase
 unfold Oper.wpIn
 refine ⟨?_, ?_⟩
 ·simp [Oper.about, ho, resolve, Target.leads, Sem.run_pure]
 ·rw [Oper.semAt_plain F _ _ (by rw [ho]; intro c hc'; cases hc')]
  simp [execOp, ho, resolve, invoke, builtin, hs, hx, hr, Result.andThen]
  exact hK _ _ (h v' w' h2 h3)
end Go.Proofs.YtddkhnnpeonbgaaGreatDoor
