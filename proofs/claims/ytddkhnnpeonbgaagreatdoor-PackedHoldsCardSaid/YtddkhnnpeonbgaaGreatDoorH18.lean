import Derived.Test.YtddkhnnpeonbgaaGreatDoorH17
import Derived.Recover
import Derived.Defers
namespace Go.Proofs.YtddkhnnpeonbgaaGreatDoor
open Go.RowKit

abbrev outCs (m : Men) (n : Int) (v : Value) : List Value := m.cs ++ [.int .i64 n, v]
def zeroOut : Array Value := #[.int .i64 0, .int .i64 0, .int .i64 0, .int .i64 0, .int .i64 0, .int .i64 0, .int .i64 0, .int .i64 0, .int .i64 0, .int .i64 0, .int .i64 0, .int .i64 0, .int .i64 0, .slice none 0 0]
theorem ta_err (x : Int) (w : World) : (Instr.typeAssert (.iface 31 (.int .i64 x)) 20 31 true).run Tryz.prog w = .ok (.tuple #[.int .i64 x, .bool true]) w := by kernel_rfl
theorem ta_nil (w : World) : (Instr.typeAssert .nilIface 20 31 true).run Tryz.prog w = .ok (.tuple #[.int .i64 0, .bool false]) w := by kernel_rfl
set_option maxRecDepth 100000 in
theorem catch_panicking (q1 q2 : Nat) (old : Array Value) (x : Value) (older : List PanicEntry) (w : World) (h1 : HasO w q1 (.cells old 65 (0, 0))) (ho : old.size = 14) (h2 : HasO w q2 (.cells #[x] 31 (0, 0))) (hne : q2 ≠ q1) :
  CallsD Tryz.prog 49 #[.pointer (some ⟨q1, 0, none⟩), .pointer (some ⟨q2, 0, none⟩)] (.panicking ({ v := .iface 31 (.int .i64 6), recovered := false } :: older)) w fun e u' w' =>
   e = .returned (.tuple #[]) ∧ u' = .panicking ({ v := .iface 31 (.int .i64 6), recovered := true } :: older) ∧ w' = (w.setRow q1 zeroOut).setCell ⟨q2, 0, none⟩ (.int .i64 6) := by
 refine callsD_of_wpS Tryz.func49 rfl fun c₀ cs hu => ?_
 simp only [Tryz.ntmps49, List.size_toArray, List.length_cons, List.length_nil, Nat.reduceAdd, Nat.reduceSub, Array.replicate_succ, Array.replicate_zero, List.push_toArray, List.append_toArray, List.nil_append, List.cons_append]
 apply wpS_seq
 apply wpS_region
 simp [wpOpsS, go_sem, recoverD, hu, Exit.thenS, ta_err]
 refine wpS_of_wp ?_
 have hq := (h2.setRow_far (cells := zeroOut) hne)
 have hc := hq.cells 0
 have hf := hq.frozen
 have hl := hq.lt
 go_wp2_with (with_reducible refine wpList_storeAgg rfl 65 (.tmp 0) (.tmp 10) rfl q1 zeroOut ?_ ?_ 65 _ h1 ?_ ?_ ?_ ?_)
 ·rfl
 ·rfl
 ·kernel_rfl
 ·exact ho
 ·kernel_rfl
 simp [bodyPostS, results, Tryz.results49]
set_option maxRecDepth 100000 in
theorem catch_idle (q1 q2 : Nat) (w : World) :
  CallsD Tryz.prog 49 #[.pointer (some ⟨q1, 0, none⟩), .pointer (some ⟨q2, 0, none⟩)] .returning w fun e u' w' => e = .returned (.tuple #[]) ∧ u' = .returning ∧ w' = w := by
 refine callsD_of_wpS Tryz.func49 rfl fun c₀ cs hu => ?_
 simp only [Tryz.ntmps49, List.size_toArray, List.length_cons, List.length_nil, Nat.reduceAdd, Nat.reduceSub, Array.replicate_succ, Array.replicate_zero, List.push_toArray, List.append_toArray, List.nil_append, List.cons_append]
 apply wpS_seq
 apply wpS_region
 simp [wpOpsS, go_sem, recoverD, hu, Exit.thenS, ta_nil]
 refine wpS_of_wp ?_
 go_wp2_with fail
 cases c₀
 simp_all [bodyPostS, results, Tryz.results49]

theorem take_empty (p : Option Addr) (q l c n : Nat) (w : World) (h : HasO w q (.cells #[.slice p l c] 22 (0, 0))) (hn : ¬ n ≤ l) :
  Calls Tryz.prog 91 #[.pointer (some ⟨q, 0, none⟩), .int .i64 n] w fun e w' => e = .panicked badP ∧ w = w' := by
 have h0 := h.cells 0
 have hf := h.frozen
 have hlt := h.lt
 have h1 : ¬ (n : Int) ≤ l := by omega
 go_enter Tryz.func91, Tryz.ntmps91
 go_wp2_with fail
 refine (must_bad _).mono ?_
 rintro e w1 ⟨rfl, rfl⟩
 exact ⟨rfl, rfl, rfl⟩
theorem read_empty (p : Option Addr) (c : Nat) (w : World) : Calls Tryz.prog 50 #[.slice p 0 c] w fun e w' => e = .panicked badP ∧ Below w.heap.size w w' := by
 have hq : HasO ((w.alloc (.cells #[.slice p 0 c] 22)).alloc (.cells zeroMen.cs.toArray 41)) w.heap.size (.cells #[.slice p 0 c] 22 (0, 0)) := (HasO.new _ _).alloc _
 have hb := (below_box w (.cells #[.slice p 0 c] 22)).alloc (by simp) (.cells zeroMen.cs.toArray 41)
 go_enter Tryz.func50, Tryz.ntmps50
 go_wp2_with fail
 refine (take_empty p _ 0 c 1 _ hq (by omega)).mono ?_
 rintro e w1 ⟨rfl, rfl⟩
 exact ⟨rfl, rfl, hb⟩

theorem results_cc {P : Program} {fn : Func} {p u : Tmp} {ty ty2 : TypeId} (h : fn.results = #[.cell p ty, .cell u ty2]) {tmps : Array Value} {w : World} {g g2 : Nat} {t : TypeId} {cs : Array Value} {x : Value}
  (hp : tmps.getD p undef = .pointer (some ⟨g, 0, none⟩)) (hg : HasO w g (.cells cs t (0, 0))) (hr : isRow P ty cs.size = true)
  (hu : tmps.getD u undef = .pointer (some ⟨g2, 0, none⟩)) (hg2 : w.cell? ⟨g2, 0, none⟩ = some x) (hr2 : isScal P ty2 = true) {v : Value} (hv : v = .tuple #[.agg cs, x]) :
  (results fn tmps).run P w = .ok v w := by
 subst hv
 have e1 : (loadVar ty ⟨g, 0, none⟩).run P w = .ok (.agg cs) w := by
  have := run_loadA (P := P) (w := w) (ty := ty) (g := g) (b := 0) cs.toList (by simpa using hr) (fun j v hv => by rw [Nat.zero_add, hg.cells j]; simpa using hv)
  simpa using this
 have e2 := run_loadS (P := P) (w := w) (ty := ty2) (p := ⟨g2, 0, none⟩) hr2 hg2
 have hp' : tmps[p]?.getD undef = .pointer (some ⟨g, 0, none⟩) := by simpa using hp
 have hu' : tmps[u]?.getD undef = .pointer (some ⟨g2, 0, none⟩) := by simpa using hu
 simp [results, h, hp', hu', asAddr, e1, e2]

def OfR (w : World) (bs : List Int) (p : Option Addr) (c : Nat) (e : Ending) (w' : World) : Prop :=
 Below w.heap.size w w' ∧ ((outM bs = none ∧ e = .returned (.tuple #[.agg zeroOut, .int .i64 6])) ∨ ∃ m g o v, outM bs = some m ∧ p = some ⟨g, o, none⟩ ∧ e = .returned (.tuple #[.agg (outCs m (countN m) v).toArray, .int .i64 0]) ∧
  w'.ownsRow w.heap.size 70 4 v (nBlk (countN m)) (blkCells bs g o c (countN m) (nBlk (countN m))))
theorem outM_none {bs : List Int} (h : headM bs = none) : outM bs = none := by unfold outM; rw [h]
theorem headM_nil {bs : List Int} (h : bs.length = 0) : headM bs = none := by unfold headM; rw [if_pos h]

def Good1 (w : World) (q : Nat) (m : Men) (N : Nat) (cells : List Value) (W : World) : Prop := ∃ v, HasO W q (.cells (outCs m (countN m) v).toArray 65 (0, 0)) ∧ W.ownsRow w.heap.size 70 4 v N cells
def Good2 (q : Nat) (W : World) : Prop := HasO W q (.cells #[.int .i64 0] 31 (0, 0))
def ofW (w : World) (bs : List Int) (m : Men) (qa qe q1 q2 N : Nat) (cells : List Value) : Nat → Value → World → Prop
 | 0, v, _ => v = .agg m.cs.toArray
 | 1, v, _ => v = .int .i64 (countN m)
 | 2, v, _ => v = .func (.func 94) #[] #[.pointer (some ⟨q1, 0, none⟩), .pointer (some ⟨q2, 0, none⟩)]
 | 3, v, W => bodyOk bs (countN m) = true ∧ W.ownsRow w.heap.size 70 4 v N cells
 | 4, v, W => ∃ v3, v = .agg (outCs m (countN m) v3).toArray ∧ bodyOk bs (countN m) = true ∧ W.ownsRow w.heap.size 70 4 v3 N cells
 | 5, _, W => Good1 w qa m N cells W
 | 6, _, W => Good2 qe W
 | _, _, _ => True
def ofLe (w : World) (m : Men) (qa qe N : Nat) (cells : List Value) (W W' : World) : Prop :=
 (∀ v, W.ownsRow w.heap.size 70 4 v N cells → W'.ownsRow w.heap.size 70 4 v N cells) ∧ (Good1 w qa m N cells W → Good1 w qa m N cells W') ∧ (Good2 qe W → Good2 qe W')
def ofC (w : World) (bs : List Int) (m : Men) (q1 q2 g o a c qa qe q4 : Nat) (W : World) : Prop :=
 Below w.heap.size w W ∧ BlkRd q1 q2 g o a c (countN m) bs W ∧ HasO W q4 (.cells m.cs.toArray 41 (0, 0)) ∧ (∃ old, HasO W qa (.cells old 65 (0, 0)) ∧ old.size = 14) ∧ ∃ x, HasO W qe (.cells #[x] 31 (0, 0))
theorem ofLe_refl (w : World) (m : Men) (qa qe N : Nat) (cells : List Value) (W : World) : ofLe w m qa qe N cells W W := ⟨fun _ h => h, fun h => h, fun h => h⟩
theorem outCs_one (m : Men) (n : Int) {v : Value} (h : v.oneCell' = true) : (outCs m n v).toArray.all (·.oneCell') = true := by
 cases v <;> simp_all [Value.oneCell']
theorem built71 (m : Men) (n : Int) (p : Option Addr) (l c : Nat) : Tryz.prog.built 65 [(0, .agg m.cs.toArray), (1, .int .i64 n), (2, .slice p l c)] = some (outCs m n (.slice p l c)).toArray := by kernel_rfl
theorem BlkRd.alt {q1 q2 g o a c n k : Nat} {bs : List Int} {W W' : World} (h : BlkRd q1 q2 g o a c n bs W) (hA : Alt k (k + 1) W W') (h1 : q1 ≠ k) (h2 : q2 ≠ k) (h3 : g ≠ k) : BlkRd q1 q2 g o a c n bs W' := by
 obtain ⟨e1, e2, e3, e4⟩ := h
 refine ⟨?_, ?_, Nat.lt_of_lt_of_le e3 hA.size, fun j hj => ?_⟩
 ·rw [World.cell?_of_block (w := W) (hA.block q1 (block_lt_of_cell e1) (by omega))]; exact e1
 ·rw [World.cell?_of_block (w := W) (hA.block q2 (block_lt_of_cell e2) (by omega))]; exact e2
 ·rw [World.cell?_of_block (w := W) (hA.block g e3 (by omega))]; exact e4 j hj

set_option maxHeartbeats 1000000 in
set_option maxRecDepth 100000 in
theorem pof_any (p : Option Addr) (c : Nat) (bs : List Int) (w : World) (hx : Arr .u8 w p bs) (hbs : isBytes bs) (hl : bs.length ≤ 2000000) (hc : bs.length ≤ c) (hm : MaxOk w) :
  Calls Tryz.prog 22 #[.slice p bs.length c] w (OfR w bs p c) := by
 have hmf : ∀ (fn : Fn) (first cap : Array Value) (w : World), (Instr.makeFunc fn first cap).run Tryz.prog w = .ok (.func fn first cap) w := fun _ _ _ _ => rfl
 have hms : 1 < w.heap.size := by obtain ⟨_, _, h⟩ := hm; exact h
 have hA : HasO ((w.alloc (.cells zeroOut 65)).alloc (.cells #[.int .i64 0] 31)) w.heap.size (.cells zeroOut 65 (0, 0)) := (HasO.new _ _).alloc _
 have hE : HasO ((w.alloc (.cells zeroOut 65)).alloc (.cells #[.int .i64 0] 31)) (w.heap.size + 1) (.cells #[.int .i64 0] 31 (0, 0)) := HasO.new' _ _ (by simp)
 have hb := (below_box w (.cells zeroOut 65)).alloc (by simp) (.cells #[.int .i64 0] 31)
 have hm2 : MaxOk ((w.alloc (.cells zeroOut 65)).alloc (.cells #[.int .i64 0] 31)) := MaxOk.call (MaxOk.call hm (below_box _ _) hms) (below_box _ _) (by simp; omega)
 have hz2 : ((w.alloc (.cells zeroOut 65)).alloc (.cells #[.int .i64 0] 31)).heap.size = w.heap.size + 2 := by simp
 go_enter_defers Tryz.func22, Tryz.ntmps22
 go_wp2_with fail
 show Calls Tryz.prog 50 _ ((w.alloc (.cells zeroOut 65)).alloc (.cells #[.int .i64 0] 31)) _
 generalize (w.alloc (.cells zeroOut 65)).alloc (.cells #[.int .i64 0] 31) = wA at *
 replace hz2 := Lib.hid hz2
 by_cases h0 : bs.length = 0
 ·rw [h0]
  refine (read_empty p c _).mono ?_
  rintro e w1 ⟨rfl, hb1⟩
  refine leaves_cons (f := 49) (args := #[.pointer (some ⟨w.heap.size, 0, none⟩), .pointer (some ⟨w.heap.size + 1, 0, none⟩)]) (by simp) (by simp [go_sem]) ?_
  have hA1 := hA.call hb1
  have hE1 := hE.call hb1
  refine (catch_panicking _ _ _ _ [] _ hA1 rfl hE1 (by omega)).mono ?_
  rintro e u' w'' ⟨rfl, rfl, rfl⟩
  have hA2 := (setRow_hasO (cells := zeroOut) hA1).far (p := ⟨w.heap.size + 1, 0, none⟩) (by simp) (.int .i64 6)
  have hE2 := (hE1.setRow_far (g := w.heap.size) (cells := zeroOut) (by omega)).set_ 0 (.int .i64 6)
  refine ⟨_, results_cc (fn := Tryz.f22) Tryz.results22 rfl hA2 (by kernel_rfl) rfl (hE2.cells 0) (by kernel_rfl) rfl, ?_, .inl ⟨outM_none (headM_nil h0), rfl⟩⟩
  exact (setRow_below (cells := zeroOut) (below_call hb (by have := hz2.out; omega) hb1) (Nat.le_refl _) (below_call hb (by have := hz2.out; omega) hb1).size).setCell (by simp) _
 ·obtain ⟨g, o, rfl, hgl, _⟩ := hx.at (i := 0) (by omega)
  have hA0 := hb.size
  refine (read_any g o c bs wA (hx.call hb) hbs (by omega) hl hc hm2).mono ?_
  rintro e w1 ⟨hb1, ⟨hnone, rfl⟩ | ⟨m, q1, q2, a, hM, hPl, rfl, hq1, ha, hq2, hl1, hl2, hne⟩⟩
  ·refine leaves_cons (f := 49) (args := #[.pointer (some ⟨w.heap.size, 0, none⟩), .pointer (some ⟨w.heap.size + 1, 0, none⟩)]) (by simp) (by simp [go_sem]) ?_
   have hA1 := hA.call hb1
   have hE1 := hE.call hb1
   refine (catch_panicking _ _ _ _ [] _ hA1 rfl hE1 (by omega)).mono ?_
   rintro e u' w'' ⟨rfl, rfl, rfl⟩
   have hA2 := (setRow_hasO (cells := zeroOut) hA1).far (p := ⟨w.heap.size + 1, 0, none⟩) (by simp) (.int .i64 6)
   have hE2 := (hE1.setRow_far (g := w.heap.size) (cells := zeroOut) (by omega)).set_ 0 (.int .i64 6)
   refine ⟨_, results_cc (fn := Tryz.f22) Tryz.results22 rfl hA2 (by kernel_rfl) rfl (hE2.cells 0) (by kernel_rfl) rfl, ?_, .inl ⟨outM_none hnone, rfl⟩⟩
   exact (setRow_below (cells := zeroOut) (below_call hb (by have := hz2.out; omega) hb1) (Nat.le_refl _) (below_call hb (by have := hz2.out; omega) hb1).size).setCell (by simp) _
  ·have hA1 := hA.call hb1
   have hE1 := hE.call hb1
   have hb2 := below_call hb hA0 hb1
   have hbR : BytesAt w1 g o bs 0 bs.length := by
    intro j hj
    obtain ⟨g', o', ea, _, hcc⟩ := (hx.call hb2).at (i := 0) (by omega)
    injection ea with ea
    injection ea with ea1 ea2
    subst ea1; subst ea2
    rw [Nat.zero_add]; exact hcc j hj
   have hRd : BlkRd q1 q2 g o a c (countN m) bs w1 := ⟨hq1.cells 0, hq2.cells 0, Nat.lt_of_lt_of_le hgl hb2.size, hbR⟩
   have hnle : countN m ≤ 262144 := by
    unfold headM at hM
    split at hM
    ·cases hM
    ·split at hM
     ·cases hM
     ·split at hM
      ·cases hM
      ·split at hM
       ·injection hM with hM; subst hM; assumption
       ·cases hM
   have houtM : outM bs = if bodyOk bs (countN m) = true then some m else none := by unfold outM; rw [hM]
   have hM4 := HasO.new w1 (.cells m.cs.toArray 41)
   have hzq : w1.heap.size ≥ w.heap.size + 2 := by have := hb1.size; have := hz2.out; omega
   have hC0 : ofC w bs m q1 q2 g o a c w.heap.size (w.heap.size + 1) w1.heap.size (w1.alloc (.cells m.cs.toArray 41)).drew :=
    ⟨(hb2.alloc hb2.size _).drew, hRd.below (below_box _ _).drew, hM4, ⟨_, hA1.alloc _, rfl⟩, ⟨_, hE1.alloc _⟩⟩
   have hzz := hz2.out
   have hl1' : w.heap.size + 2 ≤ q1 := by omega
   have hl2' : w.heap.size + 2 ≤ q2 := by omega
   clear hbR hM4 hb1 hq1 hq2 hA1 hE1 hb hA hE hm2
   replace houtM := Lib.hid houtM
   go_wp2_with fail
   refine wp_region_agL (by kernel_rfl) (by kernel_rfl) [some 14, some 15, some 16, some 17, some 18, none, none] (by rfl) (by rfl)
    (ofC w bs m q1 q2 g o a c w.heap.size (w.heap.size + 1) w1.heap.size) (ofLe w m w.heap.size (w.heap.size + 1) (nBlk (countN m)) (blkCells bs g o c (countN m) (nBlk (countN m))))
    (ofW w bs m w.heap.size (w.heap.size + 1) q1 q2 (nBlk (countN m)) (blkCells bs g o c (countN m) (nBlk (countN m)))) ?hstab hC0 ?hstep ?hend
   case hstab =>
    intro i v W W' hC hL hW
    rcases (by omega : i = 0 ∨ i = 1 ∨ i = 2 ∨ i = 3 ∨ i = 4 ∨ i = 5 ∨ i = 6 ∨ 7 ≤ i) with rfl | rfl | rfl | rfl | rfl | rfl | rfl | h
    iterate 3 exact hW
    ·exact ⟨hW.1, hL.1 _ hW.2⟩
    ·obtain ⟨v3, h1, h2, h3⟩ := hW; exact ⟨v3, h1, h2, hL.1 _ h3⟩
    ·exact hL.2.1 hW
    ·exact hL.2.2 hW
    ·obtain ⟨j, rfl⟩ : ∃ j, i = j + 7 := ⟨i - 7, by omega⟩
     trivial
   case hstep =>
    intro i op f W ho hi hC hf K hK
    have hi : i < 7 := hi
    obtain ⟨c1, c2, c3, ⟨old, c4, c5⟩, x, c6⟩ := hC
    rcases (by omega : i = 0 ∨ i = 1 ∨ i = 2 ∨ i = 3 ∨ i = 4 ∨ i = 5 ∨ i = 6) with rfl | rfl | rfl | rfl | rfl | rfl | rfl
    ·exact st_loadA (og ho rfl) 41 (.tmp 4) (oo ho rfl) (rd_out rfl rfl) m.cs (by kernel_rfl) (fun j v hv => by rw [Nat.zero_add, c3.cells j]; simpa using hv) (hK _ _ ⟨c1, c2, c3, ⟨old, c4, c5⟩, x, c6⟩ (ofLe_refl _ _ _ _ _ _ _) rfl)
    ·exact st_move (og ho rfl) (.tmp 5) (oo ho rfl) (rd_out rfl rfl) (hK _ _ ⟨c1, c2, c3, ⟨old, c4, c5⟩, x, c6⟩ (ofLe_refl _ _ _ _ _ _ _) rfl)
    ·exact st_move (og ho rfl) (.tmp 6) (oo ho rfl) (rd_out rfl rfl) (hK _ _ ⟨c1, c2, c3, ⟨old, c4, c5⟩, x, c6⟩ (ofLe_refl _ _ _ _ _ _ _) rfl)
    ·refine st_call1 (og ho rfl) 51 (.tmp 16) #[110] (oo ho rfl) (ri 2 (hf ⟨2, .data⟩ (oa ho rfl) rfl)) (enters_of Tryz.func51 (by kernel_rfl) rfl)
      (collect_any q1 q2 g o a c (countN m) bs W c2 hbs hl hc ha hPl hnle) ?_ ?_ ?_
     ·rintro u W' ⟨hb', ⟨_, e⟩ | ⟨hok, v, e, hown⟩⟩
      ·cases e
      ·injection e with e
       subst e
       exact hK _ _ ⟨below_call c1 c1.size hb', c2.below hb', c3.call hb', ⟨old, c4.call hb', c5⟩, x, c6.call hb'⟩
        ⟨fun v h => own_call h hb', fun ⟨v, h1, h2⟩ => ⟨v, h1.call hb', own_call h2 hb'⟩, fun h => HasO.call h hb'⟩ ⟨hok, own_mono hown c1.size⟩
     ·rintro ch W' ⟨hb', ⟨hbad, e⟩ | ⟨_, v, e, _⟩⟩
      ·injection e with e
       subst e
       show Leaves Tryz.prog Tryz.f22 (putL _ f 0 _).tmps (OfR w bs (some ⟨g, o, none⟩) c) (putL _ f 0 _).defers (.panicking badP) W'
       rw [putL_defers]
       refine leaves_cons (f := 49) (args := #[.pointer (some ⟨w.heap.size, 0, none⟩), .pointer (some ⟨w.heap.size + 1, 0, none⟩)]) (by simp) (by simp [go_sem]) ?_
       have hA1 := c4.call hb'
       have hE1 := c6.call hb'
       have hbW := below_call c1 c1.size hb'
       refine (catch_panicking _ _ _ _ [] _ hA1 c5 hE1 (by omega)).mono ?_
       rintro e u' w'' ⟨rfl, rfl, rfl⟩
       have hA2 := (setRow_hasO (cells := zeroOut) hA1).far (p := ⟨w.heap.size + 1, 0, none⟩) (by simp) (.int .i64 6)
       have hE2 := (hE1.setRow_far (g := w.heap.size) (cells := zeroOut) (by omega)).set_ 0 (.int .i64 6)
       refine ⟨_, results_cc (fn := Tryz.f22) Tryz.results22 (by rw [putL_out _ _ _ _ rfl]; rfl) hA2 (by kernel_rfl) (by rw [putL_out _ _ _ _ rfl]; rfl) (hE2.cells 0) (by kernel_rfl) rfl, ?_, .inl ⟨by rw [houtM.out, hbad]; rfl, rfl⟩⟩
       exact (setRow_below (cells := zeroOut) hbW (Nat.le_refl _) hbW.size).setCell (by simp) _
      ·cases e
     ·rintro W' ⟨_, ⟨_, e⟩ | ⟨_, v, e, _⟩⟩ <;> cases e
    ·obtain ⟨hok, hown⟩ := hf ⟨3, .data⟩ (oa ho rfl) rfl
     obtain ⟨vp, vn, vc, hv⟩ := own_slice hown
     exact st_build3 (og ho rfl) 65 0 1 2 (.tmp 14) (.tmp 15) (.tmp 17) (oo ho rfl) (ri 0 (hf ⟨0, .data⟩ (oa ho rfl) rfl))
      (ri 1 (hf ⟨1, .data⟩ (oa ho rfl) rfl)) (ri 3 hv) (built71 m _ vp vn vc)
      (hK _ _ ⟨c1, c2, c3, ⟨old, c4, c5⟩, x, c6⟩ (ofLe_refl _ _ _ _ _ _ _) ⟨_, rfl, hok, by rw [← hv]; exact hown⟩)
    ·obtain ⟨v3, e3, hok, hown⟩ := hf ⟨4, .data⟩ (oa ho rfl) rfl
     obtain ⟨vp, vn, vc, rfl⟩ := own_slice hown
     have hA := setRow_alt W w.heap.size (outCs m (countN m) (.slice vp vn vc)).toArray
     have hne2 := own_ne hown c4 (by simp)
     refine st_storeO (og ho rfl) 65 (.tmp 2) (.tmp 18) (oo ho rfl) (rd_out rfl rfl) _ old 65 (ri 4 e3) c4 (by kernel_rfl) c5 (outCs_one _ _ rfl) ?_
     have hown' := hA.own hown (fun k e => by rcases Nat.lt_trichotomy k w.heap.size with h | h | h; exact .inl h; exact absurd (by rw [e, h]) hne2; exact .inr h)
     have hg1 : Good1 w w.heap.size m (nBlk (countN m)) (blkCells bs g o c (countN m) (nBlk (countN m))) (W.setRow w.heap.size (outCs m (countN m) (.slice vp vn vc)).toArray) := ⟨_, setRow_hasO c4, hown'⟩
     refine hK _ _ ⟨hA.below c1 (Nat.le_refl _) c1.size, c2.alt hA (by omega) (by omega) (by omega), hA.hasO c3 (by omega), ⟨_, setRow_hasO c4, rfl⟩, x, hA.hasO c6 (by omega)⟩ ⟨fun v h => ?_, fun _ => hg1, fun h => hA.hasO h (by omega)⟩ hg1
     have hne3 := own_ne h c4 (by simp)
     exact hA.own h (fun k e => by rcases Nat.lt_trichotomy k w.heap.size with h | h | h; exact .inl h; exact absurd (by rw [e, h]) hne3; exact .inr h)
    ·have hA : Alt (w.heap.size + 1) (w.heap.size + 1 + 1) W (W.setCell ⟨w.heap.size + 1, 0, none⟩ (.int .i64 0)) := Alt.setCell (by simp)
     have hg2 : Good2 (w.heap.size + 1) (W.setCell ⟨w.heap.size + 1, 0, none⟩ (.int .i64 0)) := c6.set_ 0 _
     have hkeep : ∀ v, W.ownsRow w.heap.size 70 4 v (nBlk (countN m)) (blkCells bs g o c (countN m) (nBlk (countN m))) → (W.setCell ⟨w.heap.size + 1, 0, none⟩ (.int .i64 0)).ownsRow w.heap.size 70 4 v (nBlk (countN m)) (blkCells bs g o c (countN m) (nBlk (countN m))) := by
      intro v h
      have hne3 := own_ne h c6 (by simp)
      exact hA.own h (fun k e => by rcases Nat.lt_trichotomy k (w.heap.size + 1) with h | h | h; exact .inl h; exact absurd (by rw [e, h]) hne3; exact .inr h)
     refine st_storeS (og ho rfl) 31 (.tmp 3) (.const (.int .i64 0)) (oo ho rfl) (rd_out rfl rfl) rfl (by kernel_rfl) rfl (c6.cells 0) (c6.frozen 0) ?_
     exact hK _ _ ⟨hA.below c1 (by omega) c1.size, c2.alt hA (by omega) (by omega) (by omega), hA.hasO c3 (by omega), ⟨old, hA.hasO c4 (by omega), c5⟩, _, hg2⟩ ⟨hkeep, fun ⟨v, h1, h2⟩ => ⟨v, hA.hasO h1 (by omega), hkeep v h2⟩, fun _ => hg2⟩ hg2
   case hend =>
    intro f W hC hW
    obtain ⟨hok, _⟩ := hW 3 (by decide)
    obtain ⟨v3, hg1, hown⟩ := hW 5 (by decide)
    have hg2 := hW 6 (by decide)
    clear hW
    replace hok := Lib.hid hok
    have hbW := hC.1
    clear hC hC0 hRd
    go_wp2_with fail
    show Leaves Tryz.prog Tryz.f22 (putL _ f 0 _).tmps (OfR w bs (some ⟨g, o, none⟩) c) (putL _ f 0 _).defers .returning W
    rw [putL_defers]
    refine leaves_cons (f := 49) (args := #[.pointer (some ⟨w.heap.size, 0, none⟩), .pointer (some ⟨w.heap.size + 1, 0, none⟩)]) (by simp) (by simp [go_sem]) ?_
    refine (catch_idle _ _ _).mono ?_
    rintro e u' w'' ⟨rfl, rfl, rfl⟩
    exact ⟨_, results_cc (fn := Tryz.f22) Tryz.results22 (by rw [putL_out _ _ _ _ rfl]; rfl) hg1 (by kernel_rfl) (by rw [putL_out _ _ _ _ rfl]; rfl) (HasO.cells hg2 0) (by kernel_rfl) rfl,
     hbW, .inr ⟨m, g, o, v3, by rw [houtM.out, hok.out]; rfl, rfl, rfl, hown⟩⟩
end Go.Proofs.YtddkhnnpeonbgaaGreatDoor
namespace Go.Proofs.YtddkhnnpeonbgaaGreatDoor
open Go.RowKit

theorem toU_inj {xs ys : List Int} (hx : isBytes xs) (hy : isBytes ys) (h : toU xs = toU ys) : xs = ys := by
 induction xs generalizing ys with
 | nil => cases ys with
  | nil => rfl
  | cons y ys => simp [toU] at h
 | cons x xs ih =>
  cases ys with
  | nil => simp [toU] at h
  | cons y ys =>
   simp only [toU, List.map_cons, List.cons.injEq] at h
   have h1 := hx x List.mem_cons_self
   have h2 := hy y List.mem_cons_self
   have e : x = y := by
    have := congrArg UInt8.toNat h.1
    simp only [UInt8.toNat_ofNat'] at this
    omega
   rw [e, ih (fun z hz => hx z (List.mem_cons_of_mem _ hz)) (fun z hz => hy z (List.mem_cons_of_mem _ hz)) h.2]
theorem bytesIn_arr {w : World} {p : Option Addr} {xs : List Int} (h : Arr .u8 w p xs) : Lib.BytesIn w p xs.length xs := by
 intro hn
 obtain ⟨b, o, rfl, _, hc⟩ := h.at hn
 exact ⟨b, o, rfl, fun i hi => by rw [hc i hi]; simp [List.getD]⟩
theorem equal_any (p1 p2 : Option Addr) (c1 c2 : Nat) (xs ys : List Int) (w : World) (hx : Arr .u8 w p1 xs) (hy : Arr .u8 w p2 ys) (bx : isBytes xs) (by' : isBytes ys) :
  Calls Tryz.prog 33 #[.slice p1 xs.length c1, .slice p2 ys.length c2] w fun e w' => e = .returned (.bool (decide (xs = ys))) ∧ w = w' := by
 refine (Tryz.bytes_Equal_all p1 p2 xs.length c1 ys.length c2 xs ys w rfl rfl (bytesIn_arr hx) (bytesIn_arr hy)).mono ?_
 rintro e w' ⟨rfl, rfl⟩
 refine ⟨ret_bool ?_, rfl⟩
 show (toU xs == toU ys) = decide (xs = ys)
 by_cases h : xs = ys
 ·subst h; simp
 ·have : toU xs ≠ toU ys := fun e => h (toU_inj bx by' e)
  simp [h, this]

def outV (bs : List Int) : Men × Int × Int := match outM bs with | none => (zeroMen, 0, 6) | some m => (m, countN m, 0)
def OfS (w : World) (bs : List Int) (p : Option Addr) (c : Nat) (e : Ending) (w' : World) : Prop :=
 Below w.heap.size w w' ∧ ∃ vp vn vc, e = .returned (.tuple #[.agg (outCs (outV bs).1 (outV bs).2.1 (.slice vp vn vc)).toArray, .int .i64 (outV bs).2.2]) ∧
  (outM bs = none → vn = 0) ∧ ∀ m, outM bs = some m → ∃ g o, p = some ⟨g, o, none⟩ ∧ w'.ownsRow w.heap.size 70 4 (.slice vp vn vc) (nBlk (countN m)) (blkCells bs g o c (countN m) (nBlk (countN m)))
theorem pof_S (p : Option Addr) (c : Nat) (bs : List Int) (w : World) (hx : Arr .u8 w p bs) (hbs : isBytes bs) (hl : bs.length ≤ 2000000) (hc : bs.length ≤ c) (hm : MaxOk w) :
  Calls Tryz.prog 22 #[.slice p bs.length c] w (OfS w bs p c) := by
 refine (pof_any p c bs w hx hbs hl hc hm).mono ?_
 rintro e w' ⟨hb, ⟨h1, rfl⟩ | ⟨m, g, o, v, h1, hp, rfl, hown⟩⟩
 ·refine ⟨hb, none, 0, 0, ?_, fun _ => rfl, fun m h => by rw [h1] at h; cases h⟩
  unfold outV
  rw [h1]; rfl
 ·obtain ⟨vp, vn, vc, rfl⟩ := own_slice hown
  refine ⟨hb, vp, vn, vc, ?_, (fun h => by rw [h1] at h; cases h), fun m' h => ?_⟩
  ·unfold outV
   rw [h1]
  ·rw [h1] at h; injection h with h; subst h
   exact ⟨g, o, hp, hown⟩

theorem blkCells_len (bs : List Int) (g o c n k : Nat) : (blkCells bs g o c n k).length = 4 * k := by
 induction k with
 | zero => rfl
 | succ k ih => simp only [blkCells, List.length_append, ih, List.length_cons, List.length_nil]; omega
theorem blkCells_get (bs : List Int) (g o c n : Nat) {i k j : Nat} (hi : i < k) (hj : j < 4) : (blkCells bs g o c n k)[i * 4 + j]? = (blkCs (widB bs n i) (lowB bs n i) (some ⟨g, blkOff bs o c n i, none⟩) (nbB bs n i) (c - posB bs n i - 3) (manyB n i))[j]? := by
 induction k with
 | zero => omega
 | succ k ih =>
  simp only [blkCells]
  by_cases e : i < k
  ·rw [List.getElem?_append_left (by rw [blkCells_len]; omega)]; exact ih e
  ·obtain rfl : i = k := by omega
   rw [List.getElem?_append_right (by rw [blkCells_len]; omega), blkCells_len]
   congr 1; omega
theorem blk_slice {w : World} {base : Nat} {v : Value} {bs : List Int} {g o c n N : Nat} (h : w.ownsRow base 70 4 v N (blkCells bs g o c n N)) (hN : 0 < N) :
  ∃ gb cap, v = .slice (some ⟨gb, 0, none⟩) N cap ∧ base ≤ gb ∧ gb < w.heap.size ∧ N ≤ cap ∧ ∀ i, i < N →
   w.cell? ⟨gb, i * 4, none⟩ = some (.int .i64 (widB bs n i)) ∧ w.cell? ⟨gb, i * 4 + 1, none⟩ = some (.int .u16 (lowB bs n i)) ∧ w.cell? ⟨gb, i * 4 + 2, none⟩ = some (.slice (some ⟨g, blkOff bs o c n i, none⟩) (nbB bs n i) (c - posB bs n i - 3)) ∧ w.cell? ⟨gb, i * 4 + 3, none⟩ = some (.int .i64 (manyB n i)) := by
 have h' := h
 rcases h.2 with ⟨_, h2⟩ | ⟨gb, cap, cur, rfl, hg, hh, hcap, _⟩
 ·omega
 ·refine ⟨gb, cap, rfl, hg, (h'.lt gb rfl).2, hcap, fun i hi => ?_⟩
  have h0 := blkCells_get bs g o c n hi (j := 0) (by omega)
  have h1 := blkCells_get bs g o c n hi (j := 1) (by omega)
  have h2 := blkCells_get bs g o c n hi (j := 2) (by omega)
  have h3 := blkCells_get bs g o c n hi (j := 3) (by omega)
  rw [h'.cellAt _ (by omega), h'.cellAt _ (by omega), h'.cellAt _ (by omega), h'.cellAt _ (by omega)]
  exact ⟨h0, h1, h2, h3⟩
end Go.Proofs.YtddkhnnpeonbgaaGreatDoor
namespace Go.Proofs.YtddkhnnpeonbgaaGreatDoor
open Go.RowKit

set_option maxHeartbeats 1000000 in
set_option maxRecDepth 100000 in
theorem Men_any (p : Option Addr) (c : Nat) (bs : List Int) (w : World) (hx : Arr .u8 w p bs) (hbs : isBytes bs) (hl : bs.length ≤ 2000000) (hc : bs.length ≤ c) (hm : MaxOk w) :
  Calls Tryz.prog 14 #[.slice p bs.length c] w fun e w' => e = .returned (.tuple #[.agg (outV bs).1.cs.toArray, .int .i64 (outV bs).2.1, .int .i64 (outV bs).2.2]) ∧ Below w.heap.size w w' := by
 have hms : 1 < w.heap.size := by obtain ⟨_, _, h⟩ := hm; exact h
 have hA : HasO (w.alloc (.cells zeroMen.cs.toArray 41)) w.heap.size (.cells zeroMen.cs.toArray 41 (0, 0)) := HasO.new _ _
 have hb := below_box w (.cells zeroMen.cs.toArray 41)
 have hm2 : MaxOk (w.alloc (.cells zeroMen.cs.toArray 41)) := MaxOk.call hm (below_box _ _) hms
 have hx2 := hx.call hb
 go_enter Tryz.func14, Tryz.ntmps14
 go_wp2_with fail
 show Calls Tryz.prog 22 _ (w.alloc (.cells zeroMen.cs.toArray 41)) _
 refine (pof_S p c bs _ hx2 hbs hl hc hm2).mono ?_
 rintro e w1 ⟨hb1, vp, vn, vc, rfl, _, _⟩
 generalize hV : outV bs = V at *
 obtain ⟨m, n, er⟩ := V
 have hA1 := hA.call hb1
 have hb2 := below_call hb (by simp) hb1
 have hlt := hA1.lt
 clear hA hb hb1 hm2 hx2
 simp only [] at *
 have hT := HasO.new w1 (.cells (outCs m n (.slice vp vn vc)).toArray 65)
 have hA2 := hA1.alloc (.cells (outCs m n (.slice vp vn vc)).toArray 65)
 have hb3 := hb2.alloc hb2.size (.cells (outCs m n (.slice vp vn vc)).toArray 65)
 replace hV := Lib.hid hV
 go_wp2_with fail
 show Code.wp _ _ _ _ (w1.alloc (.cells (outCs m n (.slice vp vn vc)).toArray 65))
 generalize w1.alloc (.cells (outCs m n (.slice vp vn vc)).toArray 65) = w2 at *
 refine wp_region_chain (by kernel_rfl) (by kernel_rfl) [some 12, some 13, some 14, some 15, some 16, none, some 3, some 4] (by rfl) (by rfl) [5] (by kernel_rfl) (by decide) (by decide)
  [.pointer (some ⟨w1.heap.size, 0, none⟩), .agg m.cs.toArray, .pointer (some ⟨w1.heap.size, 12, none⟩), .int .i64 n, .int .i64 er, undef, .int .i64 n, .int .i64 er]
  (fun k => if k = 0 then w2.drew else w2.drew.setRow w.heap.size m.cs.toArray) rfl ?hstep ?hturn ?hend
 case hstep =>
  intro i op f k ho hi hmem _ hf K hK
  have hi : i < 8 := hi
  have hW : ∃ W, W = (if k = 0 then w2.drew else w2.drew.setRow w.heap.size m.cs.toArray) ∧ HasO W w1.heap.size (.cells (outCs m n (.slice vp vn vc)).toArray 65 (0, 0)) := by
   by_cases e : k = 0
   ·exact ⟨_, rfl, by rw [if_pos e]; exact hT.drew⟩
   ·exact ⟨_, rfl, by rw [if_neg e]; exact hT.drew.setRow_far (by omega)⟩
  obtain ⟨W, hW, hT'⟩ := hW
  rw [← hW] at hK ⊢
  clear hW
  rcases (by simp at hmem; omega : i = 0 ∨ i = 1 ∨ i = 2 ∨ i = 3 ∨ i = 4 ∨ i = 6 ∨ i = 7) with rfl | rfl | rfl | rfl | rfl | rfl | rfl
  ·exact st_field (og ho rfl) 65 (.tmp 5) 0 (oo ho rfl) (rd_out rfl rfl) (n := 0) (by kernel_rfl) hK
  ·exact st_loadA (og ho rfl) 41 (.tmp 12) (oo ho rfl) (ri 0 (hf ⟨0, .data⟩ (oa ho rfl) rfl)) m.cs (by kernel_rfl) (fun j v hv => by
    rw [Nat.zero_add, hT'.cells j]
    have hj : j < m.cs.length := (List.getElem?_eq_some_iff.1 hv).1
    simp only [List.getElem?_toArray]
    rw [List.getElem?_append_left hj]; exact hv) hK
  ·exact st_field (og ho rfl) 65 (.tmp 5) 1 (oo ho rfl) (rd_out rfl rfl) (n := 12) (by kernel_rfl) hK
  ·exact st_loadS (og ho rfl) 3 (.tmp 14) (oo ho rfl) (ri 2 (hf ⟨2, .data⟩ (oa ho rfl) rfl)) (by kernel_rfl) (hT'.cells 12) hK
  ·exact st_move (og ho rfl) (.tmp 6) (oo ho rfl) (rd_out rfl rfl) hK
  ·exact st_assign (og ho rfl) (.tmp 15) (oo ho rfl) (ri 3 (hf ⟨3, .data⟩ (oa ho rfl) rfl)) hK
  ·exact st_assign (og ho rfl) (.tmp 16) (oo ho rfl) (ri 4 (hf ⟨4, .data⟩ (oa ho rfl) rfl)) hK
 case hturn =>
  intro i op f k ho hst hf K hK
  obtain rfl : k = 0 := by have := (List.getElem?_eq_some_iff.1 hst).1; simp at this; exact this
  obtain rfl : i = 5 := by simp at hst; exact hst.symm
  exact st_storeO (og ho rfl) 41 (.tmp 2) (.tmp 13) (oo ho rfl) (rd_out rfl rfl) m.cs.toArray zeroMen.cs.toArray 41
   (ri 1 (hf ⟨1, .data⟩ (oa ho rfl) rfl)) hA2.drew (by kernel_rfl) rfl (men_one m) hK
 case hend =>
  have eW : (if ([5] : List Nat).length = 0 then w2.drew else w2.drew.setRow w.heap.size m.cs.toArray) = w2.drew.setRow w.heap.size m.cs.toArray := rfl
  rw [eW]
  have hrE := setRow_hasO (cells := m.cs.toArray) hA2.drew
  have hbE := setRow_below (g := w.heap.size) (cells := m.cs.toArray) hb3.drew (Nat.le_refl _) hb3.size
  generalize w2.drew.setRow w.heap.size m.cs.toArray = wE at *
  go_wp2_with fail
  refine bodyPost_ret (results_ctt2 (fn := Tryz.f14) Tryz.results14 (slot_out rfl rfl) hrE (by kernel_rfl) (slot_in rfl 6 rfl (by simp) rfl) (slot_in rfl 7 rfl (by simp) rfl)) (by rw [putL_defers]) ?_
  exact ⟨by first | rfl | (rw [hV.out]; rfl), hbE⟩
end Go.Proofs.YtddkhnnpeonbgaaGreatDoor
