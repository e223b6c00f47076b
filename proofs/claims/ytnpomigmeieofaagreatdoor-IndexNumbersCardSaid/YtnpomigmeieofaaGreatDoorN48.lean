/- The law IndexNumbers returns true at every position that a start may hand it; the four listed variables hold what the program's own text lays in them. The arguments read behind the call as they read before. -/
import Derived.Test.YtnpomigmeieofaaGreatDoorN23
import Derived.Test.YtnpomigmeieofaaGreatDoorN34
import Derived.Test.YtnpomigmeieofaaGreatDoorN47
import Derived.Test.YtnpomigmeieofaaGreatDoorRows
import Derived.HandedShaped
import Derived.ProofKit
import Derived.Shelf.Vars
import Derived.LaidMore
import Derived.OpenShut
import Derived.Test.YtnpomigmeieofaaGreatDoorTie
import Derived.Test.YtnpomigmeieofaaGreatDoorCards
import Derived.SevenTiedAt
namespace Go.Proofs.YtnpomigmeieofaaGreatDoor
open Go.ChangeShapes Go.WideShapes Go.ChangeAt Go.RowKit

theorem Tryz.own : ownKnob Tryz.prog.godebug = none := by kernel_rfl
theorem Tryz.cells5 : Tryz.prog.cellsOf 5 = 1 := by kernel_rfl
theorem Tryz.cells81 : Tryz.prog.cellsOf 81 = 1 := by kernel_rfl
theorem Tryz.cells40 : Tryz.prog.cellsOf 40 = 8 := by kernel_rfl
theorem Tryz.cells233 : Tryz.prog.cellsOf 233 = 2 := by kernel_rfl
theorem Tryz.cells38 : Tryz.prog.cellsOf 38 = 1 := by kernel_rfl
theorem Tryz.cellTypes40 : Tryz.prog.cellTypes Tryz.prog.depth 40 = some [3, 3, 38, 4, 5, 3, 3, 3] := by kernel_rfl
theorem byte_of_wf {x : Int} (h : (Lit.int .u8 x).wf = true) : 0 ≤ x ∧ x < 256 := by
 have h1 : IntKind.u8.min = 0 := rfl
 have h2 : IntKind.u8.max = 255 := rfl
 simp only [Lit.wf, Bool.and_eq_true, decide_eq_true_eq] at h
 omega
theorem i8_of_wf {x : Int} (h : (Lit.int .i8 x).wf = true) : -128 ≤ x ∧ x ≤ 127 := by
 have h1 : IntKind.i8.min = -128 := rfl
 have h2 : IntKind.i8.max = 127 := rfl
 simp only [Lit.wf, Bool.and_eq_true, decide_eq_true_eq] at h
 omega
theorem cell_lt {w : World} {a : Addr} {v : Value} (h : w.cell? a = some v) : a.block < w.heap.size ∧ a.spot = none := by
 unfold World.cell? at h
 split at h
 ·rename_i e
  refine ⟨(Array.getElem?_eq_some_iff.1 e).1, ?_⟩
  split at h
  ·cases h
  ·rename_i e2; simpa using e2
 ·cases h
theorem arr_of {k : IntKind} {w : World} {a : Addr} {n : Nat} {zs : List Int} (hn : n ≤ zs.length) (hcell : ∀ i, i < zs.length → w.cell? (a.add i) = some (.int k (zs.getD i 0))) : Arr k w (some a) (zs.take n) := by
 by_cases h0 : n = 0
 ·subst h0; exact .inl (by simp)
 ·obtain ⟨b, o, s⟩ := a
  have h1 := hcell 0 (by omega)
  obtain ⟨h2, h3⟩ := cell_lt h1
  simp [Addr.add] at h2 h3
  subst h3
  refine .inr ⟨b, o, rfl, h2, fun j hj => ?_⟩
  rw [List.length_take] at hj
  have hj2 := hcell j (by omega)
  have e : (⟨b, o, none⟩ : Addr).add j = ⟨b, o + j, none⟩ := by
   unfold Addr.add
   split
   ·rename_i e; subst e; rfl
   ·rfl
  rw [e] at hj2
  rw [hj2, List.getElem?_take_of_lt (by omega)]
  simp [List.getD]
theorem max_of {w : World} (h : w.ShapedOpen Tryz.prog) : MaxOk w := by
 obtain ⟨m, hm⟩ := Go.Proofs.cell_of_shapedOpen_int (g := 0) (zero := #[.int .i64 0]) (t := 3) h (of_decide_eq_true (by kernel_rfl)) (by kernel_rfl) rfl (by kernel_rfl) (by kernel_rfl) Tryz.underlying3
 exact ⟨m, hm, (cell_lt hm).1⟩
set_option maxRecDepth 100000 in
theorem cell_int {W : World} {base : Nat} {c : Value} (h : Cell.okWide Tryz.prog W .any base 3 c) : ∃ n, c = .int .i64 n :=
 okWide_int Tryz.underlying3 (by simp only [Value.okWide, Tryz.underlying3]; exact h)
set_option maxRecDepth 100000 in
theorem cell_u8 {W : World} {base : Nat} {c : Value} (h : Cell.okWide Tryz.prog W .any base 5 c) : ∃ n, c = .int .u8 n :=
 okWide_int Tryz.underlying5 (by simp only [Value.okWide, Tryz.underlying5]; exact h)
set_option maxRecDepth 100000 in
theorem cell_bool {W : World} {base : Nat} {c : Value} (h : Cell.okWide Tryz.prog W .any base 4 c) : ∃ n, c = .bool n :=
 okWide_bool Tryz.underlying4 (by simp only [Value.okWide, Tryz.underlying4]; exact h)
set_option maxRecDepth 100000 in
theorem cell_slice {W : World} {base : Nat} {c : Value} (h : Cell.okWide Tryz.prog W .any base 38 c) : ∃ a n k, c = .slice a n k :=
 okWide_slice Tryz.underlying38 (by simp only [Value.okWide, Tryz.underlying38]; exact h)
set_option maxRecDepth 100000 in
theorem open_pos {W : World} {base : Nat} {v : Value} (h : Value.okWide Tryz.prog W .any base 40 v) : ∃ (f r : Int) (a : Option Addr) (n k : Nat) (bl : Bool) (ca pa ha fu : Int), v = .agg (posCs f r a n k bl ca pa ha fu).toArray := by
 simp only [Value.okWide, Tryz.underlying40] at h
 obtain ⟨cs, rfl, hsz, ts, hts, _, hall⟩ := h
 rw [Tryz.cellTypes40] at hts
 cases hts
 rw [Tryz.cells40] at hsz
 obtain ⟨l⟩ := cs
 match l, hsz with
 | [c0, c1, c2, c3, c4, c5, c6, c7], _ =>
  have g : ∀ (i : Nat) (c : Value), [c0, c1, c2, c3, c4, c5, c6, c7][i]? = some c → ∃ u, [3, 3, 38, 4, 5, 3, 3, 3][i % 8]? = some u ∧ Cell.okWide Tryz.prog W .any base u c := fun i c hc => hall i c (by rw [List.getElem?_toArray]; exact hc)
  obtain ⟨_, e0, h0⟩ := g 0 c0 rfl
  obtain ⟨_, e1, h1⟩ := g 1 c1 rfl
  obtain ⟨_, e2, h2⟩ := g 2 c2 rfl
  obtain ⟨_, e3, h3⟩ := g 3 c3 rfl
  obtain ⟨_, e4, h4⟩ := g 4 c4 rfl
  obtain ⟨_, e5, h5⟩ := g 5 c5 rfl
  obtain ⟨_, e6, h6⟩ := g 6 c6 rfl
  obtain ⟨_, e7, h7⟩ := g 7 c7 rfl
  cases e0; cases e1; cases e2; cases e3; cases e4; cases e5; cases e6; cases e7
  obtain ⟨n0, rfl⟩ := cell_int h0
  obtain ⟨n1, rfl⟩ := cell_int h1
  obtain ⟨a, n, k, rfl⟩ := cell_slice h2
  obtain ⟨n3, rfl⟩ := cell_bool h3
  obtain ⟨n4, rfl⟩ := cell_u8 h4
  obtain ⟨n5, rfl⟩ := cell_int h5
  obtain ⟨n6, rfl⟩ := cell_int h6
  obtain ⟨n7, rfl⟩ := cell_int h7
  exact ⟨n0, n1, a, n, k, n3, n4, n5, n6, n7, rfl⟩
theorem pos_fields {H : Type} {enc : TypeId × Value → H} {W : World} {base : Nat} {sp : Nat → Bool} {held : Bool} {fuel : Nat} {f r : Int} {a : Option Addr} {n k : Nat} {bl : Bool} {ca pa ha fu : Int} {x : DataW H × List MemPlace}
  (h : DataW.trod enc Tryz.prog W base sp held fuel 40 (posCs f r a n k bl ca pa ha fu) = some x) :
  (0 ≤ ca ∧ ca < 256) ∧ ∃ m y, DataW.trod enc Tryz.prog W base sp held m 38 [.slice a n k] = some y := by
 obtain ⟨xs, m, _, _, _, hlen, hf⟩ := DataW.trod_struct Tryz.underlying40 h
 have h1 : DataW.trod enc Tryz.prog W base sp held m 38 (((posCs f r a n k bl ca pa ha fu).drop 2).take (Tryz.prog.cellsOf 38)) = xs[1]? := hf 1 _ rfl
 have h3 : DataW.trod enc Tryz.prog W base sp held m 5 (((posCs f r a n k bl ca pa ha fu).drop 4).take (Tryz.prog.cellsOf 5)) = xs[3]? := hf 3 _ rfl
 have hl : xs.length = 7 := hlen
 rw [List.getElem?_eq_getElem (l := xs) (i := 1) (by omega), Tryz.cells38] at h1
 rw [List.getElem?_eq_getElem (l := xs) (i := 3) (by omega), Tryz.cells5] at h3
 refine ⟨?_, m, _, h1⟩
 obtain ⟨q, e1, _, hw⟩ := DataW.trod_int Tryz.underlying5 h3
 have e2 : [Value.int .u8 ca] = [Value.int .u8 q] := e1
 obtain rfl : ca = q := by simpa using e2
 exact byte_of_wf hw
theorem steps_of {H : Type} {enc : TypeId × Value → H} {W : World} {base : Nat} {sp : Nat → Bool} {held : Bool} {fuel n : Nat} {t : TypeId} {cs : List Value} {L : List (Int × Int)} {ps : List MemPlace}
  (ht : Tryz.prog.underlying t = some (.array n 233)) (hn : L.length = n) (h : DataW.trod enc Tryz.prog W base sp held fuel t cs = some (.agg (L.map fun s => .agg [.lit (.int .i64 s.1), .lit (.int .i64 s.2)]), ps)) :
  ∀ j, j < n → cs[j * 2]? = some (.int .i64 (L[j]?.getD (0, 0)).1) ∧ cs[j * 2 + 1]? = some (.int .i64 (L[j]?.getD (0, 0)).2) := by
 obtain ⟨xs, m, _, hx, _, hn3, hel⟩ := DataW.trod_array ht h
 intro j hj
 have hj2 := hel j hj
 rw [Tryz.cells233, List.getElem?_eq_getElem (l := xs) (i := j) (by omega)] at hj2
 have hx1 := congrArg Prod.fst hx
 injection hx1 with hx1
 have hxj := congrArg (fun l => l[j]?) hx1
 simp only [List.getElem?_map] at hxj
 rw [List.getElem?_eq_getElem (l := xs) (i := j) (by omega), List.getElem?_eq_getElem (l := L) (i := j) (by omega)] at hxj
 simp only [Option.map_some, Option.some.injEq] at hxj
 obtain ⟨y0, y1, m2, e, _, h0, h1⟩ := trod_struct2 Tryz.underlying233 hj2
 rw [e] at hxj
 simp only [DataW.agg.injEq, List.cons.injEq, and_true] at hxj
 have h0 : DataW.trod enc Tryz.prog W base sp held m2 3 (((((cs.drop (j * 2)).take 2).drop 0)).take (Tryz.prog.cellsOf 3)) = some y0 := h0
 have h1 : DataW.trod enc Tryz.prog W base sp held m2 3 (((((cs.drop (j * 2)).take 2).drop 1)).take (Tryz.prog.cellsOf 3)) = some y1 := h1
 rw [Tryz.cells3] at h0 h1
 obtain ⟨k0, e0, f0, _⟩ := DataW.trod_int Tryz.underlying3 h0
 obtain ⟨k1, e1, f1, _⟩ := DataW.trod_int Tryz.underlying3 h1
 rw [f0, f1] at hxj
 have g0 : k0 = L[j].1 := by have := hxj.1; simp at this; exact this.symm
 have g1 : k1 = L[j].2 := by have := hxj.2; simp at this; exact this.symm
 rw [List.getElem?_eq_getElem (l := L) (i := j) (by omega)]
 simp only [Option.getD_some]
 constructor
 ·have := congrArg (fun l => l[0]?) e0
  simp [List.getElem?_drop] at this
  rw [this, g0]
 ·have := congrArg (fun l => l[0]?) e1
  simp [List.getElem?_drop] at this
  rw [this, g1]
def laid4 : List (String × DataW Unit) := [("caissa/ray.straight", Rows.laid_caissa_ray_straight), ("caissa/ray.diagonal", Rows.laid_caissa_ray_diagonal), ("caissa/ray.leaps", Rows.laid_caissa_ray_leaps), ("caissa/position.full", Rows.laid_caissa_position_full)]
theorem door_met (os : Os) (args : Array Value) : laidMetH Tryz.prog laid4 ((World.doorLaid Tryz.prog 45 os).forCall (fun _ _ => 0) ⟨#[], args, []⟩).memory :=
 laidMetH_of_parts3 (fuel := 8) (laidMet_of_run' 8 (by kernel_rfl) (by kernel_rfl)) (by kernel_rfl) (by kernel_rfl)
theorem gl4 : Tryz.prog.globalNamed "caissa/ray.straight" = some 4 ∧ (Tryz.prog.globals[4]?).map (·.type) = some 238 := ⟨by kernel_rfl, by kernel_rfl⟩
theorem gl3 : Tryz.prog.globalNamed "caissa/ray.diagonal" = some 3 ∧ (Tryz.prog.globals[3]?).map (·.type) = some 238 := ⟨by kernel_rfl, by kernel_rfl⟩
theorem gl2 : Tryz.prog.globalNamed "caissa/ray.leaps" = some 2 ∧ (Tryz.prog.globals[2]?).map (·.type) = some 236 := ⟨by kernel_rfl, by kernel_rfl⟩
theorem gl0 : Tryz.prog.globalNamed "caissa/position.full" = some 1 ∧ (Tryz.prog.globals[1]?).map (·.type) = some 23 := ⟨by kernel_rfl, by kernel_rfl⟩
theorem glob_of {W : World} (h : laidMetH Tryz.prog laid4 W) : GlobOk W := by
 rw [MakeChecks.laidMetH_plain _ _ _ (by kernel_rfl)] at h
 obtain ⟨ps, ⟨g0, t0, cs0, f0, p0, q0, hg0, ht0, hv0, hd0, ⟨g1, t1, cs1, f1, p1, q1, hg1, ht1, hv1, hd1, ⟨g2, t2, cs2, f2, p2, q2, hg2, ht2, hv2, hd2, ⟨g3, t3, cs3, f3, p3, q3, hg3, ht3, hv3, hd3, _, _⟩, _⟩, _⟩, _⟩, _, _⟩ := h
 obtain rfl := Option.some.inj (gl4.1.symm.trans hg0)
 obtain rfl := Option.some.inj (gl3.1.symm.trans hg1)
 obtain rfl := Option.some.inj (gl2.1.symm.trans hg2)
 obtain rfl := Option.some.inj (gl0.1.symm.trans hg3)
 obtain rfl := Option.some.inj (gl4.2.symm.trans ht0)
 obtain rfl := Option.some.inj (gl3.2.symm.trans ht1)
 obtain rfl := Option.some.inj (gl2.2.symm.trans ht2)
 obtain rfl := Option.some.inj (gl0.2.symm.trans ht3)
 have s4 := steps_of (L := strL) Tryz.underlying238 rfl hd0
 have s3 := steps_of (L := diagL) Tryz.underlying238 rfl hd1
 have s2 := steps_of (L := leapsL) Tryz.underlying236 rfl hd2
 have v4 := World.var?_cell hg0 hv0
 have v3 := World.var?_cell hg1 hv1
 have v2 := World.var?_cell hg2 hv2
 have v0 := World.var?_cell hg3 hv3
 have mk : ∀ (g n : Nat) (cs : Array Value) (L : List (Int × Int)), 0 < n → L.length = n → (∀ j, W.cell? ⟨g, j, none⟩ = cs[j]?) → (∀ j, j < n → cs.toList[j * 2]? = some (.int .i64 (L[j]?.getD (0, 0)).1) ∧ cs.toList[j * 2 + 1]? = some (.int .i64 (L[j]?.getD (0, 0)).2)) → StepArr W g 0 L := by
  intro g n cs L hn hl hv hs
  have hc : ∀ j, W.cell? ⟨g, j, none⟩ = cs.toList[j]? := fun j => by rw [hv j]; simp
  refine ⟨(cell_lt ((hc 0).trans (hs 0 hn).1)).1, fun j hj => ?_⟩
  rw [Nat.zero_add, hc, hc]
  exact hs j (by omega)
 refine ⟨mk 2 8 cs2 leapsL (by decide) rfl v2 s2, mk 3 4 cs1 diagL (by decide) rfl v3 s3, mk 4 4 cs0 strL (by decide) rfl v4 s4, ?_, ?_⟩
 all_goals
  obtain ⟨y0, y1, m2, e, _, h0, h1⟩ := trod_struct2 Tryz.underlying23 hd3
  have e' := congrArg Prod.fst e
  simp only [Rows.laid_caissa_position_full, DataW.agg.injEq, List.cons.injEq, and_true] at e'
  have c3 := Tryz.cells3
  simp only [c3] at h0 h1
  obtain ⟨k0, e0, f0, _⟩ := DataW.trod_int Tryz.underlying3 h0
  obtain ⟨k1, e1, f1, _⟩ := DataW.trod_int Tryz.underlying3 h1
  rw [f0, f1] at e'
  have g0 : k0 = 8 := by have := e'.1; simp at this; exact this.symm
  have g1 : k1 = 8 := by have := e'.2; simp at this; exact this.symm
  have a0 := congrArg (fun l => l[0]?) e0
  have a1 := congrArg (fun l => l[0]?) e1
  simp at a0 a1
  rw [v0]
  first
   | (rw [a0, g0])
   | (rw [a1, g1])
set_option maxRecDepth 100000 in
theorem rih4 {H : Type} {enc : TypeId × Value → H} {os : Os} {f : FuncId} {fn : Func} {s : ChangeSpec} (started : os.Started) (noInit : Tryz.checked.prog.inits.idxOf? f = none) (hfn : Tryz.checked.prog.funcs[f]? = some fn)
  (witness : ∃ (w : World) (tape : Tape) (i : Input), w.os = os ∧ (w.forCall tape i).Shaped Tryz.checked.prog ∧ i.vars = [] ∧ Input.okWide Tryz.checked.prog (w.forCall tape i) .any w.heap.size f i ∧
   ((s.pre enc Tryz.checked.prog fn [] false (w.forCall tape i).memory i.args ∧ laidMetH Tryz.prog laid4 (w.forCall tape i).memory) ∧ sizedMet enc Tryz.checked.prog fn (OpenSpec.ofChange s) false (w.forCall tape i).memory i.args) ∧ ({} : Assume).holds Tryz.checked.prog (lone (Frame.enter Tryz.checked.prog f i.args .normal) [] (w.forCall tape i)))
  (contract : ∀ (W : World) (base : Nat) (args : Array Value) (ds gs : List (DataW H)) (before : List MemPlace),
   (∀ (j : Nat) t v, fn.params[j]? = some t → args[j]? = some v → Value.okWide Tryz.prog W .any base t v) →
   DataW.Whole enc Tryz.prog fn.params.toList s.vars false W args.toList ds gs before → GlobOk W → MaxOk W →
   Calls Tryz.prog f args W fun e W' => ∃ v, e = .returned v ∧ s.post enc Tryz.checked.prog fn false true false false W args v W') :
  ReturnsInHanded {} Tryz.checked os f .any (fun w args => (s.pre enc Tryz.prog fn [] false w args ∧ laidMetH Tryz.prog laid4 w) ∧ sizedMet enc Tryz.prog fn (OpenSpec.ofChange s) false w args) (s.post enc Tryz.prog fn false true false false) := by
 refine returnsInHanded_of_calls Tryz.own started noInit witness ?_
 intro w tape i _ hsh _ hok hpre _
 obtain ⟨_, _, _, fn', hfn', _, _, _, _, hval⟩ := hok
 obtain rfl : fn' = fn := Option.some.inj (hfn'.symm.trans hfn)
 obtain ⟨⟨⟨ds, gs, before, hw, _⟩, hx⟩, _⟩ := hpre
 have hw' := DataW.Whole.of_heap (w' := w.forCall tape i) (by rfl) hw
 have hx' : laidMetH Tryz.prog laid4 (w.forCall tape i) := hx.of_heap (by rfl)
 refine (contract (w.forCall tape i) w.heap.size i.args ds gs before hval hw' (glob_of hx') (max_of hsh)).mono ?_
 rintro e W' ⟨v, rfl, hp⟩
 exact ChangeSpec.post_blind hp
end Go.Proofs.YtnpomigmeieofaaGreatDoor
namespace Go.Proofs.YtnpomigmeieofaaGreatDoor
open Go.ChangeShapes Go.WideShapes Go.ChangeAt Go.RowKit

theorem Tryz.cells26 : Tryz.prog.cellsOf 26 = 12 := by kernel_rfl
theorem Tryz.cellTypes26 : Tryz.prog.cellTypes Tryz.prog.depth 26 = some [3, 3, 3, 3, 3, 3, 3, 3, 3, 3, 3, 3] := by kernel_rfl
set_option maxRecDepth 100000 in
theorem open_men {W : World} {base : Nat} {v : Value} (h : Value.okWide Tryz.prog W .any base 26 v) : ∃ m : Men, v = .agg m.cs.toArray := by
 simp only [Value.okWide, Tryz.underlying26] at h
 obtain ⟨cs, rfl, hsz, ts, hts, _, hall⟩ := h
 rw [Tryz.cellTypes26] at hts
 cases hts
 rw [Tryz.cells26] at hsz
 obtain ⟨l⟩ := cs
 match l, hsz with
 | [c0, c1, c2, c3, c4, c5, c6, c7, c8, c9, c10, c11], _ =>
  have g : ∀ (i : Nat) (c : Value), i < 12 → [c0, c1, c2, c3, c4, c5, c6, c7, c8, c9, c10, c11][i]? = some c → ∃ n, c = .int .i64 n := by
   intro i c hi hc
   obtain ⟨u, h1, h2⟩ := hall i c (by rw [List.getElem?_toArray]; exact hc)
   have e : u = 3 := by
    rcases (by omega : i = 0 ∨ i = 1 ∨ i = 2 ∨ i = 3 ∨ i = 4 ∨ i = 5 ∨ i = 6 ∨ i = 7 ∨ i = 8 ∨ i = 9 ∨ i = 10 ∨ i = 11) with rfl | rfl | rfl | rfl | rfl | rfl | rfl | rfl | rfl | rfl | rfl | rfl <;> exact (Option.some.inj (show some 3 = some u from h1)).symm
   subst e
   exact cell_int h2
  obtain ⟨n0, rfl⟩ := g 0 _ (by omega) rfl
  obtain ⟨n1, rfl⟩ := g 1 _ (by omega) rfl
  obtain ⟨n2, rfl⟩ := g 2 _ (by omega) rfl
  obtain ⟨n3, rfl⟩ := g 3 _ (by omega) rfl
  obtain ⟨n4, rfl⟩ := g 4 _ (by omega) rfl
  obtain ⟨n5, rfl⟩ := g 5 _ (by omega) rfl
  obtain ⟨n6, rfl⟩ := g 6 _ (by omega) rfl
  obtain ⟨n7, rfl⟩ := g 7 _ (by omega) rfl
  obtain ⟨n8, rfl⟩ := g 8 _ (by omega) rfl
  obtain ⟨n9, rfl⟩ := g 9 _ (by omega) rfl
  obtain ⟨n10, rfl⟩ := g 10 _ (by omega) rfl
  obtain ⟨n11, rfl⟩ := g 11 _ (by omega) rfl
  exact ⟨⟨n0, n1, n2, n3, n4, n5, n6, n7, n8, n9, n10, n11⟩, rfl⟩
set_option maxRecDepth 100000 in
theorem open_str {H : Type} {enc : TypeId × Value → H} {W : World} {base : Nat} {d : DataW H} {p : List MemPlace} {v : Value} (hv : Value.okWide Tryz.prog W .any base 9 v) (h : DataW.Trod enc Tryz.prog W 0 (fun _ => true) true 9 v d p) : ∃ s : List UInt8, v = .string (str s) ∧ s.length ≤ 9223372036854775807 := by
 obtain ⟨fuel, hf⟩ := h
 have hmax : maxLen ≤ 9223372036854775807 := by decide
 obtain ⟨b0, rfl⟩ := okWide_string Tryz.underlying9 hv
 obtain ⟨b, hcs, _, hl⟩ := DataW.trod_string Tryz.underlying9 hf
 simp [Value.cells] at hcs
 subst hcs
 obtain ⟨a⟩ := b0
 refine ⟨a.toList, rfl, ?_⟩
 have h1 : (ByteArray.mk a).size = a.size := rfl
 rw [Array.length_toList]
 omega
set_option maxHeartbeats 1600000 in
set_option maxRecDepth 100000 in
theorem texts_lifted (os : Os) (started : os.Started) (H : Type) (enc : TypeId × Value → H) :
  ReturnsInHanded {} Tryz.checked os 3 .any (fun w args => (Rows.indexTextsSpec.pre enc Tryz.prog Tryz.f3 [] false w args ∧ laidMetH Tryz.prog laid4 w) ∧ sizedMet enc Tryz.prog Tryz.f3 (OpenSpec.ofChange Rows.indexTextsSpec) false w args)
   (Rows.indexTextsSpec.post enc Tryz.prog Tryz.f3 false true false false) := by
 refine rih4 started (by kernel_rfl) Tryz.func3
  (ChangeSpec.witness_shaped (enc := enc) (C := Tryz.checked) (os := os) (X := fun w _ => laidMetH Tryz.prog laid4 w) false (World.doorLaid Tryz.prog 45 os) #[.agg zeroMen.cs.toArray, .string (str [])] 8 rfl (World.shaped_of_RefB (by kernel_rfl) (by kernel_rfl)) (by kernel_rfl) (by kernel_rfl) (by kernel_rfl) (door_met os _)) ?_
 intro W base args ds gs before hval0 hW hg hm
 have hval : ∀ (j : Nat) t v, Tryz.f3.params[j]? = some t → args[j]? = some v → Value.okWide Tryz.prog W .any base t v := hval0
 have hW' := hW
 obtain ⟨p, q, hA0, hV, rfl, _, _⟩ := hW
 have hA : DataW.TrodAll enc Tryz.prog W 0 (fun _ => true) true Tryz.f3.params.toList args.toList ds p := hA0
 rw [Tryz.params3] at hA hval
 obtain ⟨v0, v1, d0, d1, p0, p1, rfl, rfl, rfl, h0, h1⟩ := trodAll_two hA
 obtain ⟨rfl, rfl⟩ := trodVars_none hV
 obtain ⟨m, rfl⟩ := open_men (hval 0 26 v0 rfl rfl)
 obtain ⟨s, rfl, hs⟩ := open_str (hval 1 9 v1 rfl rfl) h1
 clear hA0 hval0
 simp only [List.append_nil] at hW'
 have hlt : ∀ x ∈ p0 ++ p1, x.block < W.heap.size := fun x hx => by simpa using hW'.lt x hx
 have hargs : ∀ {t : TypeId} {v : Value} {d : DataW H} {q : List MemPlace}, DataW.Trod enc Tryz.prog W 0 (fun _ => true) true t v d q → (∀ x ∈ q, x.block < W.heap.size) → Tryz.prog.readableRec t = true → t < Tryz.prog.types.size → ∀ W', Below W.heap.size W W' → DataW.Trod enc Tryz.prog W' 0 (fun b => decide (b < W.heap.size)) true t v d q :=
  fun h hq hr ht W' hn => Below.trod Tryz.laidOut hr ht h hn hq
 refine (IndexTexts_any m s hs W hg hm).mono fun e W' ⟨he, hnx⟩ => ?_
 subst he
 have k0 := hargs h0 (fun x hx => hlt x (by simp [hx])) (by kernel_rfl) (of_decide_eq_true (by kernel_rfl)) W' hnx
 have k1 := hargs h1 (fun x hx => hlt x (by simp [hx])) (by kernel_rfl) (of_decide_eq_true (by kernel_rfl)) W' hnx
 refine ⟨_, rfl, _, _, _, [], p0 ++ p1, [], hW', trodAll_mk1 (shut_bool Tryz.underlying4 _), trodAll_mk2 k0 k1, rfl, ?_, fun h => by cases h⟩
 exact hnx.frame _
theorem indexTexts_row : Rows.IndexTextsSaid :=
 OpenClaim.holds_of_wide 3 Tryz.f3 rfl rfl rfl rfl rfl rfl rfl ⟨rfl, rfl, rfl, rfl, rfl⟩ rfl rfl rfl rfl rfl (by kernel_rfl) Tryz.func3 (by kernel_rfl)
  (of_decide_eq_true (by kernel_rfl)) (by unfold Func.isWrapper; first | (rw [if_pos (by decide +kernel)]; kernel_rfl) | (rw [if_neg (by decide +kernel)]; exact ⟨rfl, rfl⟩))
  (fun os started H enc _ => texts_lifted os started H enc)
theorem indexTexts_holds : Rows.IndexTextsCardSaid :=
 Claim7.holds_tied_plain_at .later [] [.widerDeep, .widerDeep, .widerDeep, .data] true (true, "3693be62ccb70268aa164561f281e984fe337b1a92e53ef4e47b14ab8b53f904") false
  indexTexts_row (fun _ h => by cases h) (by kernel_rfl) (fun _ h => by cases h) indexTexts_row_tie rfl ⟨rfl, rfl⟩ (by kernel_rfl) rfl
  (fun f fn hf hfn => by
   obtain rfl : f = 3 := Option.some.inj ((show Tryz.prog.funcNamed "caissa/caissalaw20.IndexTexts" = some 3 by kernel_rfl).symm.trans hf) |>.symm
   obtain rfl : fn = Tryz.f3 := (Option.some.inj (Tryz.func3.symm.trans hfn)).symm
   exact ⟨by kernel_rfl, fun j t ht => by
    rw [Tryz.params3] at ht
    have hm : t ∈ [26, 9] := by simpa using Array.mem_of_getElem? ht
    have hall : ([26, 9].all fun u => !Tryz.prog.wantsStandIn u) = true := by kernel_rfl
    exact (show Tryz.prog.wantsStandIn t = false by simpa using List.all_eq_true.1 hall t hm)⟩)
  (by kernel_rfl)
#print axioms indexTexts_holds
end Go.Proofs.YtnpomigmeieofaaGreatDoor
namespace Go.Proofs.YtnpomigmeieofaaGreatDoor
open Go.ChangeShapes Go.WideShapes Go.ChangeAt Go.RowKit

set_option maxRecDepth 100000 in
theorem open_position {H : Type} {enc : TypeId × Value → H} {W : World} {base : Nat} {d : DataW H} {p : List MemPlace} {v : Value} (hv : Value.okWide Tryz.prog W .any base 40 v) (h : DataW.Trod enc Tryz.prog W 0 (fun _ => true) true 40 v d p) :
  ∃ (f r : Int) (a : Option Addr) (c : Nat) (xs : List Int) (bl : Bool) (ca pa ha fu : Int), v = .agg (posCs f r a xs.length c bl ca pa ha fu).toArray ∧ (0 ≤ ca ∧ ca < 256) ∧ xs.length ≤ 9223372036854775807 ∧ xs.length ≤ c ∧ (∀ x ∈ xs, -128 ≤ x ∧ x ≤ 127) ∧ Arr .i8 W a xs ∧ (a = none → c = 0) := by
 obtain ⟨f, r, a0, len, cap, bl, ca, pa, ha, fu, rfl⟩ := open_pos hv
 obtain ⟨fuel, hf⟩ := h
 have hmax : maxLen ≤ 9223372036854775807 := by decide
 obtain ⟨hca, m, y, h1⟩ := pos_fields hf
 rcases open_ints Tryz.underlying38 Tryz.underlying81 Tryz.cells81 h1 with ⟨hcs, _⟩ | ⟨a, len', cap', zs, hcs, _, hl, hmx, hz, _, hcell, hwz⟩
 ·simp only [List.cons.injEq, Value.slice.injEq, and_true] at hcs
  obtain ⟨rfl, rfl, rfl⟩ := hcs
  exact ⟨f, r, none, 0, [], bl, ca, pa, ha, fu, rfl, hca, by decide, by decide, fun x hx => (by cases hx), .inl rfl, fun _ => rfl⟩
 ·simp only [List.cons.injEq, Value.slice.injEq, and_true] at hcs
  obtain ⟨rfl, rfl, rfl⟩ := hcs
  simp only [if_true] at hz
  have hlen : (zs.take len).length = len := by simp; omega
  exact ⟨f, r, some a, cap, zs.take len, bl, ca, pa, ha, fu, by rw [hlen], hca, by omega, by omega, fun x hx' => i8_of_wf (hwz x (List.mem_of_mem_take hx')), arr_of (n := len) (by omega) hcell, fun h => by cases h⟩
set_option maxHeartbeats 1600000 in
set_option maxRecDepth 100000 in
theorem numbers_lifted (os : Os) (started : os.Started) (H : Type) (enc : TypeId × Value → H) :
  ReturnsInHanded {} Tryz.checked os 4 .any (fun w args => (Rows.indexNumbersSpec.pre enc Tryz.prog Tryz.f4 [] false w args ∧ laidMetH Tryz.prog laid4 w) ∧ sizedMet enc Tryz.prog Tryz.f4 (OpenSpec.ofChange Rows.indexNumbersSpec) false w args)
   (Rows.indexNumbersSpec.post enc Tryz.prog Tryz.f4 false true false false) := by
 refine rih4 started (by kernel_rfl) Tryz.func4
  (ChangeSpec.witness_shaped (enc := enc) (C := Tryz.checked) (os := os) (X := fun w _ => laidMetH Tryz.prog laid4 w) false (World.doorLaid Tryz.prog 45 os) #[.agg (posCs 0 0 none 0 0 false 0 0 0 0).toArray] 8 rfl (World.shaped_of_RefB (by kernel_rfl) (by kernel_rfl)) (by kernel_rfl) (by kernel_rfl) (by kernel_rfl) (door_met os _)) ?_
 intro W base args ds gs before hval0 hW hg hm
 have hval : ∀ (j : Nat) t v, Tryz.f4.params[j]? = some t → args[j]? = some v → Value.okWide Tryz.prog W .any base t v := hval0
 have hW' := hW
 obtain ⟨p, q, hA0, hV, rfl, _, _⟩ := hW
 have hA : DataW.TrodAll enc Tryz.prog W 0 (fun _ => true) true Tryz.f4.params.toList args.toList ds p := hA0
 rw [Tryz.params4] at hA hval
 obtain ⟨v0, d0, rfl, rfl, h0⟩ := trodAll_one hA
 obtain ⟨rfl, rfl⟩ := trodVars_none hV
 obtain ⟨f, r, a, c, xs, bl, ca, pa, ha, fu, rfl, hca, hl, hcap, h8, hAx, hac⟩ := open_position (hval 0 40 v0 rfl rfl) h0
 clear hA0 hval0
 simp only [List.append_nil] at hW'
 have hlt : ∀ x ∈ p, x.block < W.heap.size := fun x hx => by simpa using hW'.lt x hx
 have hargs : ∀ {t : TypeId} {v : Value} {d : DataW H} {q : List MemPlace}, DataW.Trod enc Tryz.prog W 0 (fun _ => true) true t v d q → (∀ x ∈ q, x.block < W.heap.size) → Tryz.prog.readableRec t = true → t < Tryz.prog.types.size → ∀ W', Below W.heap.size W W' → DataW.Trod enc Tryz.prog W' 0 (fun b => decide (b < W.heap.size)) true t v d q :=
  fun h hq hr ht W' hn => Below.trod Tryz.laidOut hr ht h hn hq
 refine (IndexNumbers_any f r ca pa ha fu bl a c xs hca hac h8 W hg hm hAx).mono fun e W' ⟨he, hnx⟩ => ?_
 subst he
 have k0 := hargs h0 (fun x hx => hlt x (by simp [hx])) (by kernel_rfl) (of_decide_eq_true (by kernel_rfl)) W' hnx
 refine ⟨_, rfl, _, _, _, [], p, [], hW', trodAll_mk1 (shut_bool Tryz.underlying4 _), trodAll_mk1 k0, rfl, ?_, fun h => by cases h⟩
 exact hnx.frame _
theorem indexNumbers_row : Rows.IndexNumbersSaid :=
 OpenClaim.holds_of_wide 4 Tryz.f4 rfl rfl rfl rfl rfl rfl rfl ⟨rfl, rfl, rfl, rfl, rfl⟩ rfl rfl rfl rfl rfl (by kernel_rfl) Tryz.func4 (by kernel_rfl)
  (of_decide_eq_true (by kernel_rfl)) (by unfold Func.isWrapper; first | (rw [if_pos (by decide +kernel)]; kernel_rfl) | (rw [if_neg (by decide +kernel)]; exact ⟨rfl, rfl⟩))
  (fun os started H enc _ => numbers_lifted os started H enc)
theorem indexNumbers_holds : Rows.IndexNumbersCardSaid :=
 Claim7.holds_tied_plain_at .later [] [.widerDeep, .widerDeep, .widerDeep, .data] true (true, "3693be62ccb70268aa164561f281e984fe337b1a92e53ef4e47b14ab8b53f904") false
  indexNumbers_row (fun _ h => by cases h) (by kernel_rfl) (fun _ h => by cases h) indexNumbers_row_tie rfl ⟨rfl, rfl⟩ (by kernel_rfl) rfl
  (fun f fn hf hfn => by
   obtain rfl : f = 4 := Option.some.inj ((show Tryz.prog.funcNamed "caissa/caissalaw20.IndexNumbers" = some 4 by kernel_rfl).symm.trans hf) |>.symm
   obtain rfl : fn = Tryz.f4 := (Option.some.inj (Tryz.func4.symm.trans hfn)).symm
   exact ⟨by kernel_rfl, fun j t ht => by
    rw [Tryz.params4] at ht
    have hm : t ∈ [40] := by simpa using Array.mem_of_getElem? ht
    have hall : ([40].all fun u => !Tryz.prog.wantsStandIn u) = true := by kernel_rfl
    exact (show Tryz.prog.wantsStandIn t = false by simpa using List.all_eq_true.1 hall t hm)⟩)
  (by kernel_rfl)
#print axioms indexNumbers_holds
end Go.Proofs.YtnpomigmeieofaaGreatDoor
