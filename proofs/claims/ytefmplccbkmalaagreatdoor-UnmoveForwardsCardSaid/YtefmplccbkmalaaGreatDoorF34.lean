import Derived.Test.YtefmplccbkmalaaGreatDoorF03
import Derived.Test.YtefmplccbkmalaaGreatDoorF07
import Derived.Test.YtefmplccbkmalaaGreatDoorF32
import Derived.Test.YtefmplccbkmalaaGreatDoorF33
set_option maxHeartbeats 12800000
namespace Go.Proofs.YtefmplccbkmalaaGreatDoor
open Go.RowKit Go.Sort Go.BigFrame

theorem wpList_loadA {P : Program} {ops : Array Oper} {rest : List Oper} {o : Oper} {a : Act} {w : World} {Q : Exit → Act → World → Prop} (hgd : o.guard = none) (ty : TypeId) (x : Operand) (ho : o.op = .load ty x)
  {g b : Nat} (hx : a.eval x = .pointer (some ⟨g, b, none⟩)) (vs : List Value) (hr : isRow P ty vs.length = true) (hc : ∀ j v, vs[j]? = some v → w.cell? ⟨g, b + j, none⟩ = some v)
  (h : wpList P ops Q rest (a.put o.dst (.agg vs.toArray)) w) : wpList P ops Q (o :: rest) a w :=
 wpList_plain hgd fun _ hK => by
  unfold Oper.wp execOp
  simp only [ho, hx, Instr.loadAt, Instr.sureAddr, Sem.run_bind, Sem.run_pure, Result.andThen_ok, run_loadA vs hr hc]
  exact hK _ _ h
theorem run_storeVar_at {P : Program} (w : World) (g o : Nat) (t ty : TypeId) (cur : Array Value) (cells : List Value) (hg : w.heap[g]? = some (.cells cur t (0, 0))) (hi : (P.info? ty).map (·.size) = some cells.length)
  (hl : o + cells.length ≤ cur.size) (h1 : ∀ u ∈ cells, u.oneCell' = true) :
  (storeVar ty ⟨g, o, none⟩ (.agg cells.toArray)).run P w = .ok () (w.setRow g (cur.toList.take o ++ cells ++ cur.toList.drop (o + cells.length)).toArray) := by
 have := run_storeCells_at (P := P) g o t cells 0 cur w hg (by omega) h1
 cases hq : P.info? ty with
 | none => simp [hq] at hi
 | some i =>
  have hs : cells.length = i.size := by simp [hq] at hi; omega
  simp [storeVar, sizeOf, typeInfo, hq, Value.cells, hs] at this ⊢
  rw [this]
theorem own_putR {W : World} {base g n cap : Nat} {L : List Ret} (h : W.ownsRow base 42 7 (.slice (some ⟨g, 0, none⟩) n cap) n (retsV L)) (hn : n = L.length) {j : Nat} (hj : j < L.length) (x : Ret) :
  ∃ cur : Array Value, HasO W g (.cells cur 42 (0, 0)) ∧ j * 7 + x.cs.length ≤ cur.size ∧ (W.setRow g (cur.toList.take (j * 7) ++ x.cs ++ cur.toList.drop (j * 7 + x.cs.length)).toArray).ownsRow base 42 7 (.slice (some ⟨g, 0, none⟩) n cap) n (retsV (L.set j x)) := by
 rcases h.2 with ⟨h', _⟩ | ⟨g', cap', cur, h', hb, hg, hnc, hcm, hcs, htake⟩
 ·simp at h'
 ·simp only [Value.slice.injEq, Option.some.injEq, Addr.mk.injEq, and_true, true_and] at h'
  obtain ⟨rfl, rfl⟩ := h'
  have h7 : x.cs.length = 7 := rfl
  have hsz : j * 7 + 7 ≤ n * 7 := by omega
  have hcz : n * 7 ≤ cur.size := by rw [hcs]; exact Nat.mul_le_mul_right 7 hnc
  refine ⟨cur, hg, by omega, ⟨by rw [retsV_len, List.length_set, hn], .inr ⟨g, cap, _, rfl, hb, setRow_hasO hg, hnc, hcm, ?_, ?_⟩⟩⟩
  ·simp; omega
  ·rw [retsV_set L hj, ← htake, h7]
   have e1 : (cur.toList.take (n * 7)).take (j * 7) = cur.toList.take (j * 7) := by rw [List.take_take, Nat.min_eq_left (by omega)]
   rw [e1, List.drop_take]
   have l1 : (cur.toList.take (j * 7) ++ x.cs).length = j * 7 + 7 := by
    rw [List.length_append, List.length_take, Array.length_toList, h7]; omega
   show ((cur.toList.take (j * 7) ++ x.cs) ++ cur.toList.drop (j * 7 + 7)).take (n * 7) = _
   rw [List.take_append, l1, List.take_of_length_le (by omega)]
theorem index30 (W : World) (g N cap k : Nat) (hk : k < N) : (Instr.indexAt 30 (.slice (some ⟨g, 0, none⟩) N cap) (.int .i64 k)).run Tryz.prog W = .ok (.pointer (some ⟨g, k * 7, none⟩)) W := by
 simp [Instr.indexAt, go_sem, run_underlying Tryz.underlying30, hk]
theorem own_atR {W : World} {base g n cap : Nat} {L : List Ret} (h : W.ownsRow base 42 7 (.slice (some ⟨g, 0, none⟩) n cap) n (retsV L)) {j : Nat} (hj : j < n) {i : Nat} {v : Value} (hv : (L[j]?.getD zeroRet).cs[i]? = some v) : W.cell? ⟨g, j * 7 + i, none⟩ = some v := by
 have hn : n = L.length := by have := h.1; rw [retsV_len] at this; omega
 have hi : i < 7 := (List.getElem?_eq_some_iff.1 hv).1
 rw [h.cellAt _ (by omega)]
 exact retsV_get L j i v (by omega) hv
theorem setRow_grown (W : World) (g : Nat) (cs : Array Value) : W.grownBy (W.setRow g cs) (some g) := by
 have h := setRow_alt W g cs
 exact ⟨h.os, h.tape, h.output, h.size, fun k hk hne => h.block k hk (by have : k ≠ g := fun e => hne (by rw [e]); omega)⟩
theorem ret_eqs (m m' : Ret) (W : World) : (Op.equalIn 10000 42 (.agg m.cs.toArray) (.agg m'.cs.toArray)).run Tryz.prog W = .ok (decide (m = m')) W := by
 simp [go_sem]
 obtain ⟨⟨a, b, c⟩, d, e, f, g⟩ := m
 obtain ⟨⟨a', b', c'⟩, d', e', f', g'⟩ := m'
 simp only [Ret.mk.injEq, Mv.mk.injEq]
 by_cases h0 : a = a' <;> by_cases h1 : b = b' <;> by_cases h2 : c = c' <;> simp [h0, h1, h2]
 by_cases h3 : d = d' <;> by_cases h4 : e = e' <;> by_cases h5 : f = f' <;> by_cases h6 : g = g' <;> simp [h3, h4, h5, h6]
theorem ret_neq (m m' : Ret) (W : World) : (binOp .neq 42 (.agg m.cs.toArray) (.agg m'.cs.toArray)).run Tryz.prog W = .ok (.bool (!decide (m = m'))) W := by
 rw [run_neq_struct, ret_eqs]; rfl
theorem ret_eql (m m' : Ret) (W : World) : (binOp .eql 42 (.agg m.cs.toArray) (.agg m'.cs.toArray)).run Tryz.prog W = .ok (.bool (decide (m = m'))) W := by
 rw [run_eql_struct, ret_eqs]; rfl
theorem ret_guard (op : BinOp) (x y : Operand) (xs ys : Array Value) (W : World) : (eqGuard op 42 x y (.agg xs) (.agg ys)).run Tryz.prog W = .ok () W := run_eqGuard_agg _ op 42 x y xs ys (by kernel_rfl)
def ddN (L : List Ret) : Nat → List Ret
 | 0 => []
 | j + 1 => if 0 < j ∧ L[j]?.getD zeroRet = L[j - 1]?.getD zeroRet then ddN L j else ddN L j ++ [L[j]?.getD zeroRet]
theorem ddN_one (L : List Ret) : ddN L 1 = [L[0]?.getD zeroRet] := by simp [ddN]
theorem ddN_eq {L : List Ret} {j : Nat} (h : L[j + 1]?.getD zeroRet = L[j]?.getD zeroRet) : ddN L (j + 2) = ddN L (j + 1) := by
 rw [ddN, if_pos ⟨Nat.succ_pos _, h⟩]
theorem ddN_ne {L : List Ret} {j : Nat} (h : L[j + 1]?.getD zeroRet ≠ L[j]?.getD zeroRet) : ddN L (j + 2) = ddN L (j + 1) ++ [L[j + 1]?.getD zeroRet] := by
 rw [ddN, if_neg (fun h2 => h h2.2)]
theorem grown_trans {a b c : World} {r : Option Nat} (h1 : a.grownBy b r) (h2 : b.grownBy c r) : a.grownBy c r :=
 ⟨h2.os.trans h1.os, h2.tape.trans h1.tape, h2.output.trans h1.output, Nat.le_trans h1.size h2.size, fun k hk hne => (h2.block k (Nat.lt_of_lt_of_le hk h1.size) hne).trans (h1.block k hk hne)⟩
theorem grown_below {a b : World} {r : Option Nat} (h : Below a.heap.size a b) : a.grownBy b r := ⟨h.os, h.tape, h.output, h.size, fun k hk _ => h.block k hk⟩
theorem index30o (W : World) (g o N cap k : Nat) (hk : k < N) : (Instr.indexAt 30 (.slice (some ⟨g, o, none⟩) N cap) (.int .i64 k)).run Tryz.prog W = .ok (.pointer (some ⟨g, o + k * 7, none⟩)) W := by
 simp [Instr.indexAt, go_sem, run_underlying Tryz.underlying30, hk]
theorem own_takeR {W : World} {base g n cap : Nat} {L : List Ret} (h : W.ownsRow base 42 7 (.slice (some ⟨g, 0, none⟩) n cap) n (retsV L)) {k : Nat} (hk : k ≤ n) :
  W.ownsRow base 42 7 (.slice (some ⟨g, 0, none⟩) k cap) k (retsV (L.take k)) := by
 have hn : n = L.length := by have := h.1; rw [retsV_len] at this; omega
 rcases h.2 with ⟨h1, _⟩ | ⟨g', cap', cur, hv, hbase, hheap, hncap, hcap, hcs, htake⟩
 ·cases h1
 injection hv with hv1 _ hv2
 injection hv1 with hv1; injection hv1 with hv1
 subst hv1 hv2
 refine ⟨by rw [retsV_len, List.length_take, Nat.min_eq_left (by omega)], .inr ⟨g, cap, cur, rfl, hbase, hheap, by omega, hcap, hcs, ?_⟩⟩
 rw [retsV_take, ← htake, List.take_take, Nat.min_eq_left (by omega)]
theorem wpList_storeAtM {P : Program} {ops : Array Oper} {rest : List Oper} {o : Oper} {a : Act} {w wz : World} {Q : Exit → Act → World → Prop} (hgd : o.guard = none) (ty : TypeId) (x y : Operand) (ho : o.op = .store ty x y) {g b : Nat} (hx : a.eval x = .pointer (some ⟨g, b, none⟩)) (cells : List Value) (cur : Array Value) (e : TypeId) (hy : a.eval y = .agg cells.toArray)
  (hq : HasO w g (.cells cur e (0, 0))) (hi : (P.info? ty).map (·.size) = some cells.length) (hl : b + cells.length ≤ cur.size) (h1 : ∀ u ∈ cells, u.oneCell' = true)
  (hwz : Hid (wz = w.setRow g (cur.toList.take b ++ cells ++ cur.toList.drop (b + cells.length)).toArray)) (h : wpList P ops Q rest (a.put o.dst undef) wz) : wpList P ops Q (o :: rest) a w :=
 wpList_plain hgd fun _ hK => by
  unfold Oper.wp execOp
  simp only [ho, hx, hy, Instr.storeAt, Instr.sureAddr, Sem.run_bind, Sem.run_pure, Result.andThen_ok, run_storeVar_at w g b e ty cur cells hq hi hl h1]
  rw [← hwz.out]
  exact hK _ _ h
theorem zero42 (W : World) : (zeroValue 42).run Tryz.prog W = .ok (.agg zeroRet.cs.toArray) W := by kernel_rfl
theorem clear30 {W : World} {base g n cap k : Nat} {M : List Ret} (h : W.ownsRow base 42 7 (.slice (some ⟨g, 0, none⟩) n cap) n (retsV M)) (hn : n = M.length) (hk : k < n) :
  ∃ cs : Array Value, (∀ ty, (Builtin.clear_ #[30] ty #[.slice (some ⟨g, k * 7, none⟩) (n - k) (cap - k)]).run Tryz.prog W = .ok (.tuple #[]) (W.setRow g cs)) ∧ (W.setRow g cs).ownsRow base 42 7 (.slice (some ⟨g, 0, none⟩) n cap) n (retsV (M.take k ++ List.replicate (n - k) zeroRet)) := by
 rcases h.2 with ⟨h1, _⟩ | ⟨g', cap', cur, hv, hbase, hheap, hncap, hcap, hcs, htake⟩
 ·cases h1
 injection hv with hv1 _ hv2
 injection hv1 with hv1; injection hv1 with hv1
 subst hv1 hv2
 obtain ⟨d, hd⟩ : ∃ d, n - k = d + 1 := ⟨n - k - 1, by omega⟩
 have hZ : (Builtin.zeroCells zeroRet.cs.toArray (n - k)).toList = retsV (List.replicate (n - k) zeroRet) := by
  apply List.ext_getElem?
  intro t
  by_cases ht : t < (n - k) * 7
  ·have h3 := retsV_get (List.replicate (n - k) zeroRet) (t / 7) (t % 7) (zeroRet.cs[t % 7]!) (by rw [List.length_replicate]; omega) (by
    rw [List.getElem?_replicate, if_pos (by omega)]
    have h7 : t % 7 < 7 := Nat.mod_lt _ (by omega)
    have hl : zeroRet.cs.length = 7 := rfl
    show zeroRet.cs[t % 7]? = _
    rw [List.getElem?_eq_getElem (by rw [hl]; exact h7), getElem!_pos _ _ (by rw [hl]; exact h7)])
   rw [show t / 7 * 7 + t % 7 = t by omega] at h3
   rw [h3]
   unfold Builtin.zeroCells
   rw [Array.getElem?_toList, Array.getElem?_map, Array.getElem?_range, if_pos (by simpa using ht)]
   show some (zeroRet.cs.toArray[t % 7]!) = some (zeroRet.cs[t % 7]!)
   rw [List.getElem!_toArray]
  ·rw [List.getElem?_eq_none (by unfold Builtin.zeroCells; simp; omega), List.getElem?_eq_none (by rw [retsV_len, List.length_replicate]; omega)]
 have hlen : (retsV (List.replicate (n - k) zeroRet)).length = (n - k) * 7 := by rw [retsV_len, List.length_replicate]
 have hsz : k * 7 + (n - k) * 7 ≤ cur.size := by rw [hcs]; omega
 have hst := run_storeCells_at (P := Tryz.prog) g (k * 7) 42 (retsV (List.replicate (n - k) zeroRet)) 0 cur W hheap (by rw [hlen]; omega) (retsV_one _)
 refine ⟨(cur.toList.take (k * 7 + 0) ++ retsV (List.replicate (n - k) zeroRet) ++ cur.toList.drop (k * 7 + 0 + (retsV (List.replicate (n - k) zeroRet)).length)).toArray, fun ty => ?_, ?_⟩
 ·have hu := run_underlying (P := Tryz.prog) Tryz.underlying30
  have hz := zero42
  generalize zeroRet.cs.toArray = zs at hZ hz
  rw [hd] at hZ hst ⊢
  simp only [Builtin.clear_]
  simp [hu, hz, hZ, hst, Value.cells, Result.andThen]
 ·refine ⟨by rw [retsV_len, List.length_append, List.length_take, List.length_replicate]; omega, .inr ⟨g, cap, _, rfl, hbase, setRow_hasO hheap, hncap, hcap, ?_, ?_⟩⟩
  ·simp [hlen]; omega
  ·rw [retsV_app, retsV_take, ← htake, List.take_take, Nat.min_eq_left (by omega)]
   show ((cur.toList.take (k * 7 + 0) ++ retsV (List.replicate (n - k) zeroRet)) ++ _).take (n * 7) = _
   rw [List.take_append_of_le_length (by rw [List.length_append, List.length_take, hlen, Array.length_toList]; omega), List.take_of_length_le (by rw [List.length_append, List.length_take, hlen, Array.length_toList]; omega)]
   rfl
set_option maxRecDepth 100000 in
theorem compactG_any (base g n cap : Nat) (L : List Ret) (hn : n = L.length) (hn2 : n ≤ 4000000) (w : World) (hown : w.ownsRow base 42 7 (.slice (some ⟨g, 0, none⟩) n cap) n (retsV L)) :
  Calls Tryz.prog 34 #[.slice (some ⟨g, 0, none⟩) n cap] w fun e w' => e = .returned (.slice (some ⟨g, 0, none⟩) (ddN L n).length cap) ∧ w'.ownsRow base 42 7 (.slice (some ⟨g, 0, none⟩) (ddN L n).length cap) (ddN L n).length (retsV (ddN L n)) ∧ w.grownBy w' (some g) := by
 have hncap : n ≤ cap := by
  rcases hown.2 with ⟨h1, _⟩ | ⟨g', cap', cur, hv, _, _, hncap, _⟩
  ·cases h1
  ·injection hv with _ _ hv2; omega
 by_cases h2 : n < 2
 ·have h2i : (n : Int) < 2 := by omega
  have hdd : ddN L n = L := by
   rcases L with _ | ⟨x, _ | ⟨y, L⟩⟩
   ·rw [hn]; rfl
   ·rw [hn]; simp [ddN]
   ·simp at hn; omega
  have hdl : (ddN L n).length = n := by rw [hdd, ← hn]
  go_enter Tryz.func34, Tryz.ntmps34
  go_wp2_with fail
  go_ret
  rw [hdl, hdd]
  exact ⟨rfl, hown, grown_below (Below.refl _ _)⟩
 ·have h2i : ¬ (n : Int) < 2 := by omega
  replace hn := Lib.hid hn
  go_enter Tryz.func34, Tryz.ntmps34
  go_wp2_with fail
  go_loopg [3] 4000001 (fun q kv wr => ∃ j : Nat, ∃ wz, wz = wr ∧ q + j = 4000001 ∧ j + 1 ≤ n ∧ kv = .int .i64 ((j + 1 : Nat) : Int) ∧ Hid (ddN L (j + 1) = L.take (j + 1)) ∧ Below w.heap.size w wr)
  case atStart => exact ⟨0, _, rfl, rfl, by omega, rfl, Lib.hid (by rw [ddN_one]; have h0 : 0 < L.length := by rw [← hn.out]; omega
                                                                    rw [List.take_one, List.head?_eq_getElem?, List.getElem?_eq_getElem h0]; rfl), Below.refl _ _⟩
  case round =>
   obtain ⟨j, w2, rfl, hq, hj, rfl, hdj, hB⟩ := hrel
   have hown2 := own_call hown hB
   by_cases hlt : j + 1 < n
   ·have hii : ((j + 1 : Nat) : Int) < n := by omega
    have hjL : j + 1 < L.length := by rw [← hn.out]; exact hlt
    obtain ⟨x, hx⟩ : ∃ x, x = L[j + 1]?.getD zeroRet := ⟨_, rfl⟩
    obtain ⟨y, hy⟩ : ∃ y, y = L[j]?.getD zeroRet := ⟨_, rfl⟩
    obtain ⟨b, hb⟩ : ∃ b, b = decide (x = y) := ⟨_, rfl⟩
    have hme := fun W => ret_eql x y W
    rw [← hb] at hme
    have hgl := (hown2.lt g rfl).2
    have hcx : ∀ i v, x.cs[i]? = some v → w2.cell? ⟨g, (j + 1) * 7 + i, none⟩ = some v := fun i v hv => own_atR hown2 (by omega) (by rw [← hx]; exact hv)
    have hcy : ∀ i v, y.cs[i]? = some v → w2.cell? ⟨g, j * 7 + i, none⟩ = some v := fun i v hv => own_atR hown2 (by omega) (by rw [← hy]; exact hv)
    have hj1 : IntKind.i64.wrap (((j + 1 : Nat) : Int) - 1) = (j : Nat) := by rw [IntWalk.i64_in _ (by omega)]; omega
    have hnx : Hid (decide (x = y) = false → ddN L (j + 2) = L.take (j + 2)) := Lib.hid (fun h => by
     rw [ddN_ne (by rw [← hx, ← hy]; exact of_decide_eq_false h), hdj.out, List.take_add_one (i := j + 1), List.getElem?_eq_getElem hjL]; rfl)
    have hex : Hid (decide (x = y) = true → ddN L (j + 2) = L.take (j + 1)) := Lib.hid (fun h => by
     rw [ddN_eq (by rw [← hx, ← hy]; exact of_decide_eq_true h), hdj.out])
    replace hx := Lib.hid hx
    replace hy := Lib.hid hy
    replace hb := Lib.hid hb
    clear hown2
    go_wp2_with fail
    refine wp_region_valsL (by kernel_rfl) (by kernel_rfl) [some 16, some 17, some 18, some 19, some 20, some 21, some 22, some 23, some 24, some 25] (by rfl) (by rfl) (fun i8 => match i8 with | 0 => .slice (some ⟨g, 0, none⟩) n cap | 1 => .int .i64 ((j + 1 : Nat) : Int) | 2 => .pointer (some ⟨g, (j + 1) * 7, none⟩) | 3 => .agg x.cs.toArray | 4 => .slice (some ⟨g, 0, none⟩) n cap | 5 => .int .i64 ((j + 1 : Nat) : Int) | 6 => .int .i64 (j : Nat) | 7 => .pointer (some ⟨g, j * 7, none⟩) | 8 => .agg y.cs.toArray | 9 => .bool b | _ => undef) (fun W => Below w2.heap.size w2 W) ((Below.refl _ _).drew) ?hstep ?hend
    case hstep =>
     intro i9 o9 f9 W ho hi hC hf K hK
     have hi : i9 < 10 := hi
     rcases i9 with _ | _ | _ | _ | _ | _ | _ | _ | _ | _ | i9
     ·exact st_move (og ho) (.tmp 0) (oo ho) (rd_out rfl rfl) (hK _ hC)
     ·exact st_move (og ho) (.tmp 3) (oo ho) (rd_out rfl rfl) (hK _ hC)
     ·exact st_index (og ho) 30 (.tmp 16) (.tmp 17) (oo ho) (ri 0 (da ho hf 0)) (ri 1 (da ho hf 1)) (index30 W g n cap (j + 1) hlt) (hK _ hC)
     ·exact st_loadA (og ho) 42 (.tmp 18) (oo ho) (ri 2 (da ho hf 2)) x.cs (by kernel_rfl) (fun i v hv => (hC.cell (p := ⟨g, (j + 1) * 7 + i, none⟩) hgl).trans (hcx i v hv)) (hK _ hC)
     ·exact st_move (og ho) (.tmp 0) (oo ho) (rd_out rfl rfl) (hK _ hC)
     ·exact st_move (og ho) (.tmp 3) (oo ho) (rd_out rfl rfl) (hK _ hC)
     ·exact st_bin (og ho) .sub 3 3 (.tmp 21) (.const (.int .i64 1)) (oo ho) (ri 5 (da ho hf 5)) rfl (gu_i _ _ _ _ _ _ _ _) (bin_subE hj1) (hK _ hC)
     ·exact st_index (og ho) 30 (.tmp 20) (.tmp 22) (oo ho) (ri 4 (da ho hf 4)) (ri 6 (da ho hf 6)) (index30 W g n cap j (by omega)) (hK _ hC)
     ·exact st_loadA (og ho) 42 (.tmp 23) (oo ho) (ri 7 (da ho hf 7)) y.cs (by kernel_rfl) (fun i v hv => (hC.cell (p := ⟨g, j * 7 + i, none⟩) hgl).trans (hcy i v hv)) (hK _ hC)
     ·exact st_bin (og ho) .eql 42 42 (.tmp 19) (.tmp 24) (oo ho) (ri 3 (da ho hf 3)) (ri 8 (da ho hf 8)) (ret_guard .eql _ _ _ _ _) (hme W) (hK _ hC)
     ·omega
    case hend =>
     intro W hC
     simp only [putL, Act.put, List.setIfInBounds_toArray, List.set_cons_succ, List.set_cons_zero]
     have hB5 := below_call hB hB.size hC
     clear hcx hcy hgl hme hB hC
     cases b
     ·go_wp2_with fail
      go_roundg (gk - 1)
      case measure => omega
      case rel => exact ⟨j + 1, _, rfl, by omega, by omega, by go_num, Lib.hid (hnx.out hb.out.symm), hB5⟩
     ·obtain ⟨i, hi⟩ : ∃ i, i = j + 1 := ⟨_, rfl⟩
      have hdi : Hid (ddN L (i + 1) = L.take i) := Lib.hid (by rw [hi]; exact hex.out hb.out.symm)
      rw [← hi] at hlt hii ⊢
      have hi1 : 1 ≤ i := by omega
      have hown5 := own_call hown hB5
      generalize W = w5 at *
      clear hnx hex hb hx hy hj1 hdj hj hi hjL hq
      generalize decide ((j : Int) + 1 < (n : Int)) = bd
      go_wp2_with fail
      go_loopg [3, 5] 4000001 (fun q kv k2v wr => ∃ (k k2 : Nat) (M : List Ret), q + k2 = 4000001 ∧ i + k2 + 1 ≤ n ∧ k ≤ i + k2 ∧ kv = .int .i64 (k : Nat) ∧ k2v = .int .i64 ((k2 + 1 : Nat) : Int) ∧ Hid (M.length = n) ∧ Hid (M.take k = ddN L (i + k2 + 1)) ∧ Hid (∀ t, i + k2 ≤ t → M[t]? = L[t]?) ∧ wr.ownsRow base 42 7 (.slice (some ⟨g, 0, none⟩) n cap) n (retsV M) ∧ w.grownBy wr (some g))
      case atStart => exact ⟨i, 0, L, rfl, by omega, by omega, rfl, rfl, Lib.hid hn.out.symm, Lib.hid hdi.out.symm, Lib.hid (fun _ _ => rfl), hown5, grown_below hB5⟩
      case round =>
       clear hown5 hB5 hdi
       obtain ⟨k, k2, M, hq, hk2, hkk, rfl, rfl, hML, hMk, hMt, hownM, hgM⟩ := hrel
       rename World => w2
       by_cases hlt2 : i + k2 + 1 < n
       ·have hii2 : ((k2 + 1 : Nat) : Int) < ((n - i : Nat) : Int) := by omega
        obtain ⟨x, hx⟩ : ∃ x, x = L[i + k2 + 1]?.getD zeroRet := ⟨_, rfl⟩
        obtain ⟨y, hy⟩ : ∃ y, y = L[i + k2]?.getD zeroRet := ⟨_, rfl⟩
        obtain ⟨b, hb⟩ : ∃ b, b = !decide (x = y) := ⟨_, rfl⟩
        have hme := fun W => ret_neq x y W
        rw [← hb] at hme
        have hgl := (hownM.lt g rfl).2
        have hcx : ∀ t v, x.cs[t]? = some v → w2.cell? ⟨g, i * 7 + (k2 + 1) * 7 + t, none⟩ = some v := fun t v hv => by
         rw [show i * 7 + (k2 + 1) * 7 + t = (i + k2 + 1) * 7 + t by omega]
         exact own_atR hownM hlt2 (by rw [hMt.out _ (by omega), ← hx]; exact hv)
        have hcy : ∀ t v, y.cs[t]? = some v → w2.cell? ⟨g, i * 7 + k2 * 7 + t, none⟩ = some v := fun t v hv => by
         rw [show i * 7 + k2 * 7 + t = (i + k2) * 7 + t by omega]
         exact own_atR hownM (by omega) (by rw [hMt.out _ (Nat.le_refl _), ← hy]; exact hv)
        have hk21 : IntKind.i64.wrap (((k2 + 1 : Nat) : Int) - 1) = (k2 : Nat) := by rw [IntWalk.i64_in _ (by omega)]; omega
        have hnx : Hid (x ≠ y → ddN L (i + k2 + 2) = ddN L (i + k2 + 1) ++ [x]) := Lib.hid (fun h => by rw [ddN_ne (by rw [← hx, ← hy]; exact h), ← hx])
        have hex : Hid (x = y → ddN L (i + k2 + 2) = ddN L (i + k2 + 1)) := Lib.hid (fun h => ddN_eq (by rw [← hx, ← hy]; exact h))
        replace hx := Lib.hid hx
        replace hy := Lib.hid hy
        replace hb := Lib.hid hb
        go_wp2_with fail
        refine wp_region_valsL (by kernel_rfl) (by kernel_rfl) [some 35, some 36, some 37, some 38, some 39, some 40, some 41, some 42, some 43, some 44] (by rfl) (by rfl) (fun i8 => match i8 with | 0 => .slice (some ⟨g, i * 7, none⟩) (n - i) (cap - i) | 1 => .int .i64 ((k2 + 1 : Nat) : Int) | 2 => .pointer (some ⟨g, i * 7 + (k2 + 1) * 7, none⟩) | 3 => .agg x.cs.toArray | 4 => .slice (some ⟨g, i * 7, none⟩) (n - i) (cap - i) | 5 => .int .i64 ((k2 + 1 : Nat) : Int) | 6 => .int .i64 (k2 : Nat) | 7 => .pointer (some ⟨g, i * 7 + k2 * 7, none⟩) | 8 => .agg y.cs.toArray | 9 => .bool b | _ => undef) (fun W => Below w2.heap.size w2 W) ((Below.refl _ _).drew) ?hstep ?hend
        case hstep =>
         intro i9 o9 f9 W ho hi hC hf K hK
         have hi : i9 < 10 := hi
         rcases i9 with _ | _ | _ | _ | _ | _ | _ | _ | _ | _ | i9
         ·exact st_move (og ho) (.tmp 4) (oo ho) (rd_out rfl rfl) (hK _ hC)
         ·exact st_move (og ho) (.tmp 5) (oo ho) (rd_out rfl rfl) (hK _ hC)
         ·exact st_index (og ho) 30 (.tmp 35) (.tmp 36) (oo ho) (ri 0 (da ho hf 0)) (ri 1 (da ho hf 1)) (index30o W g (i * 7) (n - i) (cap - i) (k2 + 1) (by omega)) (hK _ hC)
         ·exact st_loadA (og ho) 42 (.tmp 37) (oo ho) (ri 2 (da ho hf 2)) x.cs (by kernel_rfl) (fun t v hv => (hC.cell (p := ⟨g, i * 7 + (k2 + 1) * 7 + t, none⟩) hgl).trans (hcx t v hv)) (hK _ hC)
         ·exact st_move (og ho) (.tmp 4) (oo ho) (rd_out rfl rfl) (hK _ hC)
         ·exact st_move (og ho) (.tmp 5) (oo ho) (rd_out rfl rfl) (hK _ hC)
         ·exact st_bin (og ho) .sub 3 3 (.tmp 40) (.const (.int .i64 1)) (oo ho) (ri 5 (da ho hf 5)) rfl (gu_i _ _ _ _ _ _ _ _) (bin_subE hk21) (hK _ hC)
         ·exact st_index (og ho) 30 (.tmp 39) (.tmp 41) (oo ho) (ri 4 (da ho hf 4)) (ri 6 (da ho hf 6)) (index30o W g (i * 7) (n - i) (cap - i) k2 (by omega)) (hK _ hC)
         ·exact st_loadA (og ho) 42 (.tmp 42) (oo ho) (ri 7 (da ho hf 7)) y.cs (by kernel_rfl) (fun t v hv => (hC.cell (p := ⟨g, i * 7 + k2 * 7 + t, none⟩) hgl).trans (hcy t v hv)) (hK _ hC)
         ·exact st_bin (og ho) .neq 42 42 (.tmp 38) (.tmp 43) (oo ho) (ri 3 (da ho hf 3)) (ri 8 (da ho hf 8)) (ret_guard .neq _ _ _ _ _) (hme W) (hK _ hC)
         ·omega
        case hend =>
         intro W hC
         simp only [putL, Act.put, List.setIfInBounds_toArray, List.set_cons_succ, List.set_cons_zero]
         have hownW := own_call hownM hC
         have hgW := grown_trans hgM (grown_below hC)
         have hcxW : ∀ t v, x.cs[t]? = some v → W.cell? ⟨g, i * 7 + (k2 + 1) * 7 + t, none⟩ = some v := fun t v hv => (hC.cell (p := ⟨g, i * 7 + (k2 + 1) * 7 + t, none⟩) hgl).trans (hcx t v hv)
         clear hcx hcy hgl hme hgM hownM hC
         generalize W = w6 at *
         cases b
         ·have he : x = y := by have := hb.out; simpa using this
          have hdd := hex.out he
          replace hdd := Lib.hid hdd
          clear he hcxW
          go_wp2_with fail
          go_roundg (gk - 1)
          case measure => omega
          case rel => exact ⟨k, k2 + 1, M, by omega, by omega, by omega, rfl, by go_num, hML, Lib.hid (by rw [hMk.out]; exact hdd.out.symm), Lib.hid (fun t ht => hMt.out t (by omega)), hownW, hgW⟩
         ·have he : x ≠ y := by have := hb.out; simpa using this
          have hdd := hnx.out he
          replace hdd := Lib.hid hdd
          clear he
          have hkM : k < M.length := by rw [hML.out]; omega
          have hki : (k : Int) < n := by omega
          obtain ⟨cur, hOc, hlc, hown7⟩ := own_putR hownW hML.out.symm hkM x
          have hg7 := grown_trans hgW (setRow_grown w6 g (cur.toList.take (k * 7) ++ x.cs ++ cur.toList.drop (k * 7 + x.cs.length)).toArray)
          obtain ⟨w7, hw7⟩ : ∃ z, z = w6.setRow g (cur.toList.take (k * 7) ++ x.cs ++ cur.toList.drop (k * 7 + x.cs.length)).toArray := ⟨_, rfl⟩
          rw [← hw7] at hown7 hg7
          replace hw7 := Lib.hid hw7
          go_wp2_with (first | (refine wpList_loadA rfl 42 (.tmp 49) rfl rfl x.cs (by kernel_rfl) hcxW ?_) | (refine wpList_storeAtM rfl 42 (.tmp 51) (.tmp 50) rfl rfl x.cs cur 42 rfl hOc (by kernel_rfl) hlc (ret_one x) hw7 ?_) | fail)
          go_roundg (gk - 1)
          case measure => omega
          case rel =>
           refine ⟨k + 1, k2 + 1, M.set k x, by omega, by omega, by omega, by go_num, by go_num, Lib.hid (by rw [List.length_set]; exact hML.out), Lib.hid ?_, Lib.hid (fun t ht => by rw [List.getElem?_set_ne (by omega)]; exact hMt.out t (by omega)), hown7, hg7⟩
           show (M.set k x).take (k + 1) = ddN L (i + k2 + 2)
           rw [hdd.out, ← hMk.out, List.take_add_one, List.take_set_of_le (Nat.le_refl _), List.getElem?_set_self hkM]; rfl
       ·have hii2 : ¬ ((k2 + 1 : Nat) : Int) < ((n - i : Nat) : Int) := by omega
        have hkn : k < n := by omega
        have hki : (k : Int) ≤ n := by omega
        have hnc : (n : Int) ≤ cap := by omega
        have hfin : Hid (M.take k = ddN L n) := Lib.hid (by rw [hMk.out]; congr 1; omega)
        have hdl : Hid ((ddN L n).length = k) := Lib.hid (by rw [← hfin.out, List.length_take, hML.out]; omega)
        obtain ⟨cs, hcl, hownC⟩ := clear30 hownM hML.out.symm hkn
        have hgC := grown_trans hgM (setRow_grown w2 g cs)
        have hownT := own_takeR hownC (Nat.le_of_lt hkn)
        go_wp2_with fail
        refine bodyPost_ret (results_tmp rfl _ _ _) rfl ?_
        refine ⟨?_, ?_, hgC⟩
        ·show Ending.returned (.slice (some ⟨g, 0, none⟩) k cap) = _
         rw [hdl.out]
        ·rw [hdl.out, ← hfin.out]
         rw [List.take_append_of_le_length (by rw [List.length_take, hML.out]; omega), List.take_take, Nat.min_self] at hownT
         exact hownT
   ·have hii : ¬ ((j + 1 : Nat) : Int) < n := by omega
    have hfin : ddN L n = L := by
     have e : n = j + 1 := by omega
     rw [e, hdj.out]
     exact List.take_of_length_le (by rw [← hn.out]; omega)
    have hdl : Hid ((ddN L n).length = n) := Lib.hid (by rw [hfin]; exact hn.out.symm)
    replace hfin := Lib.hid hfin
    go_wp2_with fail
    refine bodyPost_ret (results_tmp rfl _ _ _) rfl ⟨?_, ?_, grown_below hB⟩
    ·show Ending.returned (.slice (some ⟨g, 0, none⟩) n cap) = _
     rw [hdl.out]
    ·rw [hdl.out, hfin.out]; exact hown2
set_option maxRecDepth 100000 in
theorem compact_nil (w : World) : Calls Tryz.prog 34 #[.slice none 0 0] w fun e w' => e = .returned (.slice none 0 0) ∧ w = w' := by
 go_enter Tryz.func34, Tryz.ntmps34
 go_wp2_with fail
 go_ret
 exact ⟨rfl, rfl⟩
theorem compactV_any (base n : Nat) (v : Value) (L : List Ret) (hn : n = L.length) (hn2 : n ≤ 4000000) (w : World) (hown : w.ownsRow base 42 7 v n (retsV L)) :
  Calls Tryz.prog 34 #[v] w fun e w' => ∃ v', e = .returned v' ∧ w'.ownsRow base 42 7 v' (ddN L n).length (retsV (ddN L n)) ∧ w.grownBy w' v.ownBlock := by
 rcases hown.2 with ⟨rfl, rfl⟩ | ⟨g, cap, cur, rfl, _⟩
 ·refine (compact_nil w).mono ?_
  rintro e w' ⟨rfl, rfl⟩
  obtain rfl : L = [] := List.length_eq_zero_iff.1 hn.symm
  exact ⟨_, rfl, hown, ⟨rfl, rfl, rfl, Nat.le_refl _, fun _ _ _ => rfl⟩⟩
 ·refine (compactG_any base g n cap L hn hn2 w hown).mono ?_
  rintro e w' ⟨rfl, h1, h2⟩
  exact ⟨_, rfl, h1, h2⟩
theorem ov {ops : Array Oper} {i : Nat} {o : Oper} (ho : ops[i]? = some o) {j : Nat} (h : ((ops[i]?).map fun o => o.after.toList.any fun x => Region.binds .any x && (x.on == j)) = some true := by rfl) : o.after.toList.any (fun x => Region.binds .any x && (x.on == j)) = true := by rw [ho] at h; injection h
def regC (n : Nat) : Code → Option Code
 | .region i ops d => if i = n then some (.region i ops d) else none
 | .seq a b => (regC n a).or (regC n b)
 | .cond _ a b => (regC n a).or (regC n b)
 | .block _ b => regC n b
 | .loop b => regC n b
 | .scope b => regC n b
 | _ => none
theorem Tryz.info42 : (Tryz.prog.info? 42).map (fun i => (i.zero, i.size, i.bytes)) = some (some (.agg #[.int .i64 0, .int .i64 0, .int .i8 0, .int .i8 0, .int .i64 0, .int .u8 0, .int .i64 0]), 7, 56) := by kernel_rfl
theorem wp_pushR {W : World} {o : Oper} {a : Act} {K : Act → World → Prop} {Q : Exit → Act → World → Prop} (s x : Operand) (ho : o.op = .call { callee := .builtin .append, args := #[s, x], argTypes := #[30, 30] })
  (base : Nat) (v : Value) (L : List Ret) (hs : a.eval s = v) (hown : W.ownsRow base 42 7 v L.length (L.flatMap Ret.cs)) (r : Ret) (q : Nat) (_ : q < W.heap.size) (hqv : HasO W q (.cells r.cs.toArray 42 (0, 0))) (hx : a.eval x = .slice (some ⟨q, 0, none⟩) 1 1)
  (hbytes : L.length ≤ 1000000000) (hbase : base ≤ W.heap.size)
  (h : ∀ v' w', w'.ownsRow base 42 7 v' (L ++ [r]).length ((L ++ [r]).flatMap Ret.cs) → W.grownBy w' v.ownBlock → Near W v v' → K (a.put o.dst v') w') :
  o.wp Tryz.prog a W K Q := by
 obtain ⟨i3, hi3, hz3, hs3, hy3⟩ := info_parts Tryz.info42
 obtain ⟨v', w', hr, h2, h3, h4, h5⟩ := run_append_own_at (P := Tryz.prog) W base 30 o.type 42 i3 _ 7 56 Tryz.underlying30 hi3 hz3 hs3 hy3 rfl (by decide) v L.length (L.flatMap Ret.cs) hown ⟨q, 0, none⟩ 1 1 r.cs rfl (by
  intro j u hu
  rw [Addr.add_lit, Nat.zero_add, hqv.cells j]
  simpa using hu) (by intro u hu; simp [Ret.cs, Mv.cs] at hu; rcases hu with rfl | rfl | rfl | rfl | rfl | rfl | rfl <;> rfl) (by unfold maxLen; omega) (by omega) hbase
 unfold Oper.wp execOp
 simp only [ho, resolve, invoke, builtin, Sem.run_bind, Sem.run_pure, Result.andThen_ok, List.map_toArray, List.map_cons, List.map_nil, hs, hx, hr]
 refine h v' w' (by simpa [List.flatMap_append] using h2) h3 (fun k hk => ?_)
 rcases h5 with e2 | e2
 ·rw [e2] at hk; exact .inl hk
 ·rw [e2] at hk
  injection hk with hk
  right; omega
end Go.Proofs.YtefmplccbkmalaaGreatDoor
