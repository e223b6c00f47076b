import Derived.Test.YtefmplccbkmalaaGreatDoorF23
import Derived.Recover
import Derived.Defers
set_option maxHeartbeats 12800000
namespace Go.Proofs.YtefmplccbkmalaaGreatDoor
open Go.RowKit Go.Sort Go.BigFrame

theorem ta_no (x : Int) (w : World) : (Instr.typeAssert (.iface 31 (.int .i64 x)) 20 31 true).run Tryz.prog w = .ok (.tuple #[.int .i64 x, .bool true]) w := by kernel_rfl
theorem eq_nilI (x : Int) (w : World) : (binOp .eql 20 (.iface 31 (.int .i64 x)) .nilIface).run Tryz.prog w = .ok (.bool false) w := by kernel_rfl
theorem eq_nil2 (w : World) : (binOp .eql 20 .nilIface .nilIface).run Tryz.prog w = .ok (.bool true) w := by kernel_rfl
set_option maxRecDepth 100000 in
theorem ref_yes (q : Nat) (x : Value) (n : Int) (older : List PanicEntry) (w : World) (h : HasO w q (.cells #[x] 31 (0, 0))) :
  CallsD Tryz.prog 59 #[.pointer (some ⟨q, 0, none⟩)] (.panicking ({ v := .iface 31 (.int .i64 n), recovered := false } :: older)) w fun e u' w' =>
   e = .returned (.tuple #[]) ∧ u' = .panicking ({ v := .iface 31 (.int .i64 n), recovered := true } :: older) ∧ w' = w.setCell ⟨q, 0, none⟩ (.int .i64 n) := by
 refine callsD_of_wpS Tryz.func59 rfl fun c₀ cs hu => ?_
 simp only [Tryz.ntmps59, List.size_toArray, List.length_cons, List.length_nil, Nat.reduceAdd, Nat.reduceSub, Array.replicate_succ, Array.replicate_zero, List.push_toArray, List.append_toArray, List.nil_append, List.cons_append]
 apply wpS_seq
 apply wpS_region
 simp [wpOpsS, go_sem, recoverD, hu, Exit.thenS]
 refine wpS_of_wp ?_
 have hc := h.cells 0
 have hf := h.frozen
 have hl := h.lt
 have e1 := eq_nilI n
 have e2 := ta_no n
 go_wp2_with fail
 cases c₀
 simp_all [bodyPostS, results, Tryz.results59]
set_option maxRecDepth 100000 in
theorem ref_idle (q : Nat) (w : World) :
  CallsD Tryz.prog 59 #[.pointer (some ⟨q, 0, none⟩)] .returning w fun e u' w' => e = .returned (.tuple #[]) ∧ u' = .returning ∧ w' = w := by
 refine callsD_of_wpS Tryz.func59 rfl fun c₀ cs hu => ?_
 simp only [Tryz.ntmps59, List.size_toArray, List.length_cons, List.length_nil, Nat.reduceAdd, Nat.reduceSub, Array.replicate_succ, Array.replicate_zero, List.push_toArray, List.append_toArray, List.nil_append, List.cons_append]
 apply wpS_seq
 apply wpS_region
 simp [wpOpsS, go_sem, recoverD, hu, Exit.thenS]
 refine wpS_of_wp ?_
 have e1 := eq_nil2
 go_wp2_with fail
 cases c₀
 simp_all [bodyPostS, results, Tryz.results59]
abbrev zeroPos : List Value := posCs 0 0 none 0 0 false 0 0 0 0
abbrev zeroUnd : List Value := [.int .i64 0, .int .i64 0, .int .i8 0, .int .i8 0, .int .i64 0, .int .u8 0, .int .i64 0, .int .i64 0, .int .i64 0]
set_option maxRecDepth 100000 in
theorem last_no (qe qo qu : Nat) (n : Int) (hn : n ≠ 0) (oo ou : Array Value) (w : World) (he : HasO w qe (.cells #[.int .i64 n] 31 (0, 0))) (ho : HasO w qo (.cells oo 26 (0, 0))) (hos : oo.size = 8) (hu : HasO w qu (.cells ou 54 (0, 0))) (hus : ou.size = 9) (hne : qo ≠ qu) :
  CallsD Tryz.prog 58 #[.pointer (some ⟨qe, 0, none⟩), .pointer (some ⟨qo, 0, none⟩), .pointer (some ⟨qu, 0, none⟩)] .returning w fun e u' w' => e = .returned (.tuple #[]) ∧ u' = .returning ∧ w' = (w.setRow qo zeroPos.toArray).setRow qu zeroUnd.toArray := by
 refine callsD_of_wpS Tryz.func58 rfl fun c₀ cs hm => ?_
 simp only [Tryz.ntmps58, List.size_toArray, List.length_cons, List.length_nil, Nat.reduceAdd, Nat.reduceSub, Array.replicate_succ, Array.replicate_zero, List.push_toArray, List.append_toArray, List.nil_append, List.cons_append]
 refine wpS_of_wp ?_
 have hc := he.cells 0
 have hl := he.lt
 have hz : ((n : Int) != 0) = true := by simp [hn]
 have hu1 := hu.setRow_far (g := qo) (cells := zeroPos.toArray) (fun h => hne h.symm)
 have hi1 : Hid ((Tryz.prog.info? 26).map (·.size) = some zeroPos.toArray.size) := Lib.hid (by kernel_rfl)
 have hi2 : Hid ((Tryz.prog.info? 54).map (·.size) = some zeroUnd.toArray.size) := Lib.hid (by kernel_rfl)
 have h11 : Hid (zeroPos.toArray.all (·.oneCell') = true) := Lib.hid (by simp [Value.oneCell'])
 have h12 : Hid (zeroUnd.toArray.all (·.oneCell') = true) := Lib.hid (by simp [Value.oneCell'])
 have hos : Hid (oo.size = zeroPos.toArray.size) := Lib.hid hos
 have hus : Hid (ou.size = zeroUnd.toArray.size) := Lib.hid hus
 go_wp2_with (first | ((refine wpList_storeAgg rfl 26 (.tmp 1) (.tmp 5) rfl qo zeroPos.toArray rfl rfl 26 _ ho hi1.out hos.out h11.out ?_); rintro w3 rfl) | ((refine wpList_storeAgg rfl 54 (.tmp 2) (.tmp 6) rfl qu zeroUnd.toArray rfl rfl 54 _ hu1 hi2.out hus.out h12.out ?_); rintro w3 rfl) | fail)
 cases c₀
 simp_all [bodyPostS, results, Tryz.results58]
set_option maxRecDepth 100000 in
theorem last_ok (qe qo qu : Nat) (w : World) (he : HasO w qe (.cells #[.int .i64 0] 31 (0, 0))) :
  CallsD Tryz.prog 58 #[.pointer (some ⟨qe, 0, none⟩), .pointer (some ⟨qo, 0, none⟩), .pointer (some ⟨qu, 0, none⟩)] .returning w fun e u' w' => e = .returned (.tuple #[]) ∧ u' = .returning ∧ w' = w := by
 refine callsD_of_wpS Tryz.func58 rfl fun c₀ cs hm => ?_
 simp only [Tryz.ntmps58, List.size_toArray, List.length_cons, List.length_nil, Nat.reduceAdd, Nat.reduceSub, Array.replicate_succ, Array.replicate_zero, List.push_toArray, List.append_toArray, List.nil_append, List.cons_append]
 refine wpS_of_wp ?_
 have hc := he.cells 0
 have hl := he.lt
 go_wp2_with fail
 cases c₀
 simp_all [bodyPostS, results, Tryz.results58]
theorem results_ccc {P : Program} {fn : Func} {p u x : Tmp} {ty ty2 ty3 : TypeId} (h : fn.results = #[.cell p ty, .cell u ty2, .cell x ty3]) {tmps : Array Value} {w : World} {g g2 g3 : Nat} {t t2 : TypeId} {cs cs2 : Array Value} {n : Value}
  (hp : tmps.getD p undef = .pointer (some ⟨g, 0, none⟩)) (hg : HasO w g (.cells cs t (0, 0))) (hr : isRow P ty cs.size = true)
  (hu : tmps.getD u undef = .pointer (some ⟨g2, 0, none⟩)) (hg2 : HasO w g2 (.cells cs2 t2 (0, 0))) (hr2 : isRow P ty2 cs2.size = true)
  (hx : tmps.getD x undef = .pointer (some ⟨g3, 0, none⟩)) (hg3 : w.cell? ⟨g3, 0, none⟩ = some n) (hr3 : isScal P ty3 = true) {v : Value} (hv : v = .tuple #[.agg cs, .agg cs2, n]) :
  (results fn tmps).run P w = .ok v w := by
 subst hv
 have e1 : (loadVar ty ⟨g, 0, none⟩).run P w = .ok (.agg cs) w := by
  have := run_loadA (P := P) (w := w) (ty := ty) (g := g) (b := 0) cs.toList (by simpa using hr) (fun j v hv => by rw [Nat.zero_add, hg.cells j]; simpa using hv)
  simpa using this
 have e2 : (loadVar ty2 ⟨g2, 0, none⟩).run P w = .ok (.agg cs2) w := by
  have := run_loadA (P := P) (w := w) (ty := ty2) (g := g2) (b := 0) cs2.toList (by simpa using hr2) (fun j v hv => by rw [Nat.zero_add, hg2.cells j]; simpa using hv)
  simpa using this
 have e3 := run_loadS (P := P) (w := w) (ty := ty3) (p := ⟨g3, 0, none⟩) hr3 hg3
 have hp' : tmps[p]?.getD undef = .pointer (some ⟨g, 0, none⟩) := by simpa using hp
 have hu' : tmps[u]?.getD undef = .pointer (some ⟨g2, 0, none⟩) := by simpa using hu
 have hx' : tmps[x]?.getD undef = .pointer (some ⟨g3, 0, none⟩) := by simpa using hx
 simp [results, h, hp', hu', hx', asAddr, e1, e2, e3]
abbrev mkDs (qe qo qu : Nat) : List Deferred := [{ target := .fn (.func 59) #[], args := #[.pointer (some ⟨qe, 0, none⟩)] }, { target := .fn (.func 58) #[.pointer (some ⟨qe, 0, none⟩), .pointer (some ⟨qo, 0, none⟩), .pointer (some ⟨qu, 0, none⟩)], args := #[] }]
theorem mk_no {tmps : Array Value} {R : Ending → World → Prop} (qe qo qu : Nat) (n z : Int) (hn : n ≠ 0) (oo ou : Array Value) (w w0 : World) (h4 : tmps.getD 4 undef = .pointer (some ⟨qo, 0, none⟩)) (h5 : tmps.getD 5 undef = .pointer (some ⟨qu, 0, none⟩)) (h6 : tmps.getD 6 undef = .pointer (some ⟨qe, 0, none⟩))
  (he : HasO w qe (.cells #[.int .i64 z] 31 (0, 0))) (ho : HasO w qo (.cells oo 26 (0, 0))) (hos : oo.size = 8) (hu : HasO w qu (.cells ou 54 (0, 0))) (hus : ou.size = 9) (hB : RowKit.Below w0.heap.size w0 w) (h1 : w0.heap.size ≤ qe) (h2 : w0.heap.size ≤ qo) (h3 : w0.heap.size ≤ qu)
  (hR : ∀ w', RowKit.Below w0.heap.size w0 w' → R (.returned (.tuple #[.agg zeroPos.toArray, .agg zeroUnd.toArray, .int .i64 n])) w') : Leaves Tryz.prog Tryz.f23 tmps R (mkDs qe qo qu) (.panicking (noP n)) w := by
 have hoe : qe ≠ qo := he.ne_ ho (by intro h; injection h with h; rw [← h] at hos; cases hos)
 have hue : qe ≠ qu := he.ne_ hu (by intro h; injection h with h; rw [← h] at hus; cases hus)
 have hou : qo ≠ qu := ho.ne_ hu (by intro h; injection h with h; rw [h] at hos; omega)
 refine leaves_cons (f := 59) (args := #[.pointer (some ⟨qe, 0, none⟩)]) (by simp) (by simp [go_sem]) ?_
 refine (ref_yes qe _ n [] w he).mono ?_
 rintro e u' w1 ⟨rfl, rfl, rfl⟩
 have he1 := he.set_ 0 (.int .i64 n)
 have ho1 := ho.far (p := ⟨qe, 0, none⟩) (fun h => hoe h.symm) (.int .i64 n)
 have hu1 := hu.far (p := ⟨qe, 0, none⟩) (fun h => hue h.symm) (.int .i64 n)
 show Leaves _ _ _ _ _ .returning _
 refine leaves_cons (f := 58) (args := #[.pointer (some ⟨qe, 0, none⟩), .pointer (some ⟨qo, 0, none⟩), .pointer (some ⟨qu, 0, none⟩)]) (by simp) (by simp [go_sem]) ?_
 refine (last_no qe qo qu n hn oo ou _ he1 ho1 hos hu1 hus hou).mono ?_
 rintro e u' w2 ⟨rfl, rfl, rfl⟩
 have ho2 := (setRow_hasO (cells := zeroPos.toArray) ho1).setRow_far (g := qu) (cells := zeroUnd.toArray) hou
 have hu2 := setRow_hasO (cells := zeroUnd.toArray) (hu1.setRow_far (g := qo) (cells := zeroPos.toArray) (fun h => hou h.symm))
 have he2 := (he1.setRow_far (g := qo) (cells := zeroPos.toArray) hoe).setRow_far (g := qu) (cells := zeroUnd.toArray) hue
 refine ⟨_, results_ccc (fn := Tryz.f23) Tryz.results23 h4 ho2 (by kernel_rfl) h5 hu2 (by kernel_rfl) h6 (he2.cells 0) (by kernel_rfl) rfl, hR _ ?_⟩
 have hB1 : RowKit.Below w0.heap.size w0 (w.setCell ⟨qe, 0, none⟩ (.int .i64 n)) := hB.setCell h1 _
 exact setRow_below (setRow_below hB1 h2 hB1.size) h3 (by rw [setRow_size]; exact hB1.size)
theorem mk_ok {tmps : Array Value} {R : Ending → World → Prop} (qe qo qu : Nat) (oo ou : Array Value) (w : World) (h4 : tmps.getD 4 undef = .pointer (some ⟨qo, 0, none⟩)) (h5 : tmps.getD 5 undef = .pointer (some ⟨qu, 0, none⟩)) (h6 : tmps.getD 6 undef = .pointer (some ⟨qe, 0, none⟩))
  (he : HasO w qe (.cells #[.int .i64 0] 31 (0, 0))) (ho : HasO w qo (.cells oo 26 (0, 0))) (hos : isRow Tryz.prog 26 oo.size = true) (hu : HasO w qu (.cells ou 54 (0, 0))) (hus : isRow Tryz.prog 54 ou.size = true)
  (hR : R (.returned (.tuple #[.agg oo, .agg ou, .int .i64 0])) w) : Leaves Tryz.prog Tryz.f23 tmps R (mkDs qe qo qu) .returning w := by
 refine leaves_cons (f := 59) (args := #[.pointer (some ⟨qe, 0, none⟩)]) (by simp) (by simp [go_sem]) ?_
 refine (ref_idle qe w).mono ?_
 rintro e u' w1 ⟨rfl, rfl, rfl⟩
 refine leaves_cons (f := 58) (args := #[.pointer (some ⟨qe, 0, none⟩), .pointer (some ⟨qo, 0, none⟩), .pointer (some ⟨qu, 0, none⟩)]) (by simp [settle]) (by simp [go_sem]) ?_
 refine (last_ok qe qo qu _ he).mono ?_
 rintro e u' w2 ⟨rfl, rfl, rfl⟩
 exact ⟨_, results_ccc (fn := Tryz.f23) Tryz.results23 h4 ho hos h5 hu hus h6 (he.cells 0) (by kernel_rfl) rfl, hR⟩
def sufC : Nat → Code → Code
 | 0, c => c
 | n + 1, .seq _ b => sufC n b
 | _ + 1, c => c
def ofA (T : Array Value) (i : Nat) : Value := T.getD i undef
theorem list_lit (l : List Value) : l = (List.range l.length).map (fun i => l.getD i undef) := by
 apply List.ext_getElem
 ·simp
 ·intro i h1 h2
  simp [h1]
theorem arr_lit (T : Array Value) : T = ((List.range T.size).map (ofA T)).toArray := by
 have h := list_lit T.toList
 apply Array.ext'
 simp only [Array.length_toList] at h
 conv => lhs; rw [h]
 simp only
 apply List.map_congr_left
 intro i _
 simp [ofA, Array.getD_eq_getD_getElem?]
set_option maxRecDepth 100000 in
theorem litM (T : Array Value) (h : T.size = 305) : T = #[ofA T 0, ofA T 1, ofA T 2, ofA T 3, ofA T 4, ofA T 5, ofA T 6, ofA T 7, ofA T 8, ofA T 9, ofA T 10, ofA T 11, ofA T 12, ofA T 13, ofA T 14, ofA T 15, ofA T 16, ofA T 17, ofA T 18, ofA T 19, ofA T 20, ofA T 21, ofA T 22, ofA T 23, ofA T 24, ofA T 25, ofA T 26, ofA T 27, ofA T 28, ofA T 29, ofA T 30, ofA T 31, ofA T 32, ofA T 33, ofA T 34, ofA T 35, ofA T 36, ofA T 37, ofA T 38, ofA T 39, ofA T 40, ofA T 41, ofA T 42, ofA T 43, ofA T 44, ofA T 45, ofA T 46, ofA T 47, ofA T 48, ofA T 49, ofA T 50, ofA T 51, ofA T 52, ofA T 53, ofA T 54, ofA T 55, ofA T 56, ofA T 57, ofA T 58, ofA T 59, ofA T 60, ofA T 61, ofA T 62, ofA T 63, ofA T 64, ofA T 65, ofA T 66, ofA T 67, ofA T 68, ofA T 69, ofA T 70, ofA T 71, ofA T 72, ofA T 73, ofA T 74, ofA T 75, ofA T 76, ofA T 77, ofA T 78, ofA T 79, ofA T 80, ofA T 81, ofA T 82, ofA T 83, ofA T 84, ofA T 85, ofA T 86, ofA T 87, ofA T 88, ofA T 89, ofA T 90, ofA T 91, ofA T 92, ofA T 93, ofA T 94, ofA T 95, ofA T 96, ofA T 97, ofA T 98, ofA T 99, ofA T 100, ofA T 101, ofA T 102, ofA T 103, ofA T 104, ofA T 105, ofA T 106, ofA T 107, ofA T 108, ofA T 109, ofA T 110, ofA T 111, ofA T 112, ofA T 113, ofA T 114, ofA T 115, ofA T 116, ofA T 117, ofA T 118, ofA T 119, ofA T 120, ofA T 121, ofA T 122, ofA T 123, ofA T 124, ofA T 125, ofA T 126, ofA T 127, ofA T 128, ofA T 129, ofA T 130, ofA T 131, ofA T 132, ofA T 133, ofA T 134, ofA T 135, ofA T 136, ofA T 137, ofA T 138, ofA T 139, ofA T 140, ofA T 141, ofA T 142, ofA T 143, ofA T 144, ofA T 145, ofA T 146, ofA T 147, ofA T 148, ofA T 149, ofA T 150, ofA T 151, ofA T 152, ofA T 153, ofA T 154, ofA T 155, ofA T 156, ofA T 157, ofA T 158, ofA T 159, ofA T 160, ofA T 161, ofA T 162, ofA T 163, ofA T 164, ofA T 165, ofA T 166, ofA T 167, ofA T 168, ofA T 169, ofA T 170, ofA T 171, ofA T 172, ofA T 173, ofA T 174, ofA T 175, ofA T 176, ofA T 177, ofA T 178, ofA T 179, ofA T 180, ofA T 181, ofA T 182, ofA T 183, ofA T 184, ofA T 185, ofA T 186, ofA T 187, ofA T 188, ofA T 189, ofA T 190, ofA T 191, ofA T 192, ofA T 193, ofA T 194, ofA T 195, ofA T 196, ofA T 197, ofA T 198, ofA T 199, ofA T 200, ofA T 201, ofA T 202, ofA T 203, ofA T 204, ofA T 205, ofA T 206, ofA T 207, ofA T 208, ofA T 209, ofA T 210, ofA T 211, ofA T 212, ofA T 213, ofA T 214, ofA T 215, ofA T 216, ofA T 217, ofA T 218, ofA T 219, ofA T 220, ofA T 221, ofA T 222, ofA T 223, ofA T 224, ofA T 225, ofA T 226, ofA T 227, ofA T 228, ofA T 229, ofA T 230, ofA T 231, ofA T 232, ofA T 233, ofA T 234, ofA T 235, ofA T 236, ofA T 237, ofA T 238, ofA T 239, ofA T 240, ofA T 241, ofA T 242, ofA T 243, ofA T 244, ofA T 245, ofA T 246, ofA T 247, ofA T 248, ofA T 249, ofA T 250, ofA T 251, ofA T 252, ofA T 253, ofA T 254, ofA T 255, ofA T 256, ofA T 257, ofA T 258, ofA T 259, ofA T 260, ofA T 261, ofA T 262, ofA T 263, ofA T 264, ofA T 265, ofA T 266, ofA T 267, ofA T 268, ofA T 269, ofA T 270, ofA T 271, ofA T 272, ofA T 273, ofA T 274, ofA T 275, ofA T 276, ofA T 277, ofA T 278, ofA T 279, ofA T 280, ofA T 281, ofA T 282, ofA T 283, ofA T 284, ofA T 285, ofA T 286, ofA T 287, ofA T 288, ofA T 289, ofA T 290, ofA T 291, ofA T 292, ofA T 293, ofA T 294, ofA T 295, ofA T 296, ofA T 297, ofA T 298, ofA T 299, ofA T 300, ofA T 301, ofA T 302, ofA T 303, ofA T 304] := by
 have := arr_lit T
 rw [h] at this
 exact this
def mkF (q0 q1 q2 q3 q4 : Nat) (x : Int) (qw : Nat) (cb : Bool) (X : Nat → Value) : Array Value := #[X 0, X 1, .pointer (some ⟨q0, 0, none⟩), .pointer (some ⟨q1, 0, none⟩), .pointer (some ⟨q2, 0, none⟩), .pointer (some ⟨q3, 0, none⟩), .pointer (some ⟨q4, 0, none⟩), .int .i8 x, .pointer (some ⟨qw, 0, none⟩), .bool cb, X 10, X 11, X 12, X 13, X 14, X 15, X 16, X 17, X 18, X 19, X 20, X 21, X 22, X 23, X 24, X 25, X 26, X 27, X 28, X 29, X 30, X 31, X 32, X 33, X 34, X 35, X 36, X 37, X 38, X 39, X 40, X 41, X 42, X 43, X 44, X 45, X 46, X 47, X 48, X 49, X 50, X 51, X 52, X 53, X 54, X 55, X 56, X 57, X 58, X 59, X 60, X 61, X 62, X 63, X 64, X 65, X 66, X 67, X 68, X 69, X 70, X 71, X 72, X 73, X 74, X 75, X 76, X 77, X 78, X 79, X 80, X 81, X 82, X 83, X 84, X 85, X 86, X 87, X 88, X 89, X 90, X 91, X 92, X 93, X 94, X 95, X 96, X 97, X 98, X 99, X 100, X 101, X 102, X 103, X 104, X 105, X 106, X 107, X 108, X 109, X 110, X 111, X 112, X 113, X 114, X 115, X 116, X 117, X 118, X 119, X 120, X 121, X 122, X 123, X 124, X 125, X 126, X 127, X 128, X 129, X 130, X 131, X 132, X 133, X 134, X 135, X 136, X 137, X 138, X 139, X 140, X 141, X 142, X 143, X 144, X 145, X 146, X 147, X 148, X 149, X 150, X 151, X 152, X 153, X 154, X 155, X 156, X 157, X 158, X 159, X 160, X 161, X 162, X 163, X 164, X 165, X 166, X 167, X 168, X 169, X 170, X 171, X 172, X 173, X 174, X 175, X 176, X 177, X 178, X 179, X 180, X 181, X 182, X 183, X 184, X 185, X 186, X 187, X 188, X 189, X 190, X 191, X 192, X 193, X 194, X 195, X 196, X 197, X 198, X 199, X 200, X 201, X 202, X 203, X 204, X 205, X 206, X 207, X 208, X 209, X 210, X 211, X 212, X 213, X 214, X 215, X 216, X 217, X 218, X 219, X 220, X 221, X 222, X 223, X 224, X 225, X 226, X 227, X 228, X 229, X 230, X 231, X 232, X 233, X 234, X 235, X 236, X 237, X 238, X 239, X 240, X 241, X 242, X 243, X 244, X 245, X 246, X 247, X 248, X 249, X 250, X 251, X 252, X 253, X 254, X 255, X 256, X 257, X 258, X 259, X 260, X 261, X 262, X 263, X 264, X 265, X 266, X 267, X 268, X 269, X 270, X 271, X 272, X 273, X 274, X 275, X 276, X 277, X 278, X 279, X 280, X 281, X 282, X 283, X 284, X 285, X 286, X 287, X 288, X 289, X 290, X 291, X 292, X 293, X 294, X 295, X 296, X 297, X 298, X 299, X 300, X 301, X 302, X 303, X 304]
set_option maxRecDepth 100000 in
theorem mkF_of (T : Array Value) (q0 q1 q2 q3 q4 : Nat) (x : Int) (qw : Nat) (cb : Bool) (hs : T.size = 305) (h2 : ofA T 2 = .pointer (some ⟨q0, 0, none⟩)) (h3 : ofA T 3 = .pointer (some ⟨q1, 0, none⟩)) (h4 : ofA T 4 = .pointer (some ⟨q2, 0, none⟩)) (h5 : ofA T 5 = .pointer (some ⟨q3, 0, none⟩)) (h6 : ofA T 6 = .pointer (some ⟨q4, 0, none⟩))
  (h7 : ofA T 7 = .int .i8 x) (h8 : ofA T 8 = .pointer (some ⟨qw, 0, none⟩)) (h9 : ofA T 9 = .bool cb) : T = mkF q0 q1 q2 q3 q4 x qw cb (ofA T) := by
 have h := litM T hs
 rw [h2, h3, h4, h5, h6, h7, h8, h9] at h
 exact h
def MkT (T : Array Value) (q0 q1 q2 q3 q4 : Nat) (x : Int) (qw : Nat) (cb : Bool) : Prop := T.size = 305 ∧ ofA T 2 = .pointer (some ⟨q0, 0, none⟩) ∧ ofA T 3 = .pointer (some ⟨q1, 0, none⟩) ∧ ofA T 4 = .pointer (some ⟨q2, 0, none⟩) ∧ ofA T 5 = .pointer (some ⟨q3, 0, none⟩) ∧ ofA T 6 = .pointer (some ⟨q4, 0, none⟩) ∧
  ofA T 7 = .int .i8 x ∧ ofA T 8 = .pointer (some ⟨qw, 0, none⟩) ∧ ofA T 9 = .bool cb
theorem MkT.fr {T : Array Value} {q0 q1 q2 q3 q4 qw : Nat} {x : Int} {cb : Bool} (h : MkT T q0 q1 q2 q3 q4 x qw cb) : ∃ X, T = mkF q0 q1 q2 q3 q4 x qw cb X := by
 obtain ⟨hs, h2, h3, h4, h5, h6, h7, h8, h9⟩ := h
 exact ⟨_, mkF_of T q0 q1 q2 q3 q4 x qw cb hs h2 h3 h4 h5 h6 h7 h8 h9⟩
def MkC (w : World) (P : Pos) (pp : Option Addr) (cc : Nat) (m : Mv) (q0 q1 q4 : Nat) (W : World) : Prop :=
 RowKit.Below w.heap.size w W ∧ HasO W q0 (.cells (posCs P.F P.R pp P.xs.length cc P.bl P.ca P.pa P.ha P.fu).toArray 26 (0, 0)) ∧ HasO W q1 (.cells m.cs.toArray 40 (0, 0)) ∧ HasO W q4 (.cells #[.int .i64 0] 31 (0, 0)) ∧ GlobU W ∧ Arr .i8 W pp P.xs
theorem MkC.call {w : World} {P : Pos} {pp : Option Addr} {cc : Nat} {m : Mv} {q0 q1 q4 : Nat} {W W' : World} (h : MkC w P pp cc m q0 q1 q4 W) (hb : RowKit.Below W.heap.size W W') : MkC w P pp cc m q0 q1 q4 W' := by
 obtain ⟨h1, h2, h3, h4, h5, h6⟩ := h
 exact ⟨below_call h1 h1.size hb, h2.call hb, h3.call hb, h4.call hb, h5.call hb, h6.call hb⟩
def MkQ (w : World) (q0 q1 q2 q3 q4 qw : Nat) : Prop := w.heap.size ≤ q0 ∧ q0 < q1 ∧ q1 < q2 ∧ q2 < q3 ∧ q3 < q4 ∧ q4 < qw
set_option maxRecDepth 100000 in
theorem attackersX_any (F R a : Nat) (bl : Bool) (p : Option Addr) (c : Nat) (xs : List Int) (hF : 3 ≤ F ∧ F ≤ 8) (hR : 3 ≤ R ∧ R ≤ 8) (hlen : xs.length = F * R) (ha : a < F * R) (hor : orthB F R xs = true) (w : World) (hg : GlobOk w) (hx : Arr .i8 w p xs) :
  Calls Tryz.prog 67 #[.agg (bdCs F R p xs.length c).toArray, .int .i64 a, .bool bl] w fun e w' => e = .returned (.tuple #[.int .u64 (atrW F R (setW gNon xs xs.length) xs a bl xs.length : Nat), .int .i64 0]) ∧ RowKit.Below w.heap.size w w' := by
 have hA := HasO.new w (.cells (bdCs F R p xs.length c).toArray 68)
 have hB := below_box w (.cells (bdCs F R p xs.length c).toArray 68)
 have hof := fun W h => orthodox_any F R p c xs W h
 rw [hor] at hof
 have hsv := fun W => sqValid_any F R a W
 rw [sqB_nat hF hR ha] at hsv
 have hat := fun W hg hx => attackers_any F R a bl p c xs hF hR hlen ha hor W hg hx
 generalize atrW F R (setW gNon xs xs.length) xs a bl xs.length = S at *
 have hg1 := hg.call hB
 have hx1 := hx.call hB
 have h1 := hA.cells
 have l1 := hA.lt
 replace hlen := Lib.hid hlen
 replace hor := Lib.hid hor
 go_enter Tryz.func67, Tryz.ntmps67
 go_wp2_with fail
 refine (hof _ hx1).mono ?_
 rintro e w2 ⟨rfl, hb2⟩
 have hA2 := hA.call hb2
 have hB2 := below_call hB hB.size hb2
 have hg2 := hg1.call hb2
 have hx2 := hx1.call hb2
 clear h1 l1 hA hB hb2 hof hg1 hx1
 have h1 := hA2.cells
 have l1 := hA2.lt
 go_wp2_with fail
 refine (hsv _).mono ?_
 rintro e w3 ⟨rfl, hb3⟩
 have hA3 := hA2.call hb3
 have hB3 := below_call hB2 hB2.size hb3
 have hg3 := hg2.call hb3
 have hx3 := hx2.call hb3
 clear h1 l1 hA2 hB2 hb3 hsv hg2 hx2
 have h1 := hA3.cells
 have l1 := hA3.lt
 go_wp2_with fail
 refine (hat _ hg3 hx3).mono ?_
 rintro e w4 ⟨rfl, hb4⟩
 go_wp2_with fail
 go_ret2
 exact ⟨rfl, below_call hB3 hB3.size hb4⟩
abbrev mkE (n : Int) : Ending := .returned (.tuple #[.agg zeroPos.toArray, .agg zeroUnd.toArray, .int .i64 n])
set_option maxRecDepth 100000 in
theorem mkS6 (w : World) (q0 q1 q2 q3 q4 qw qa cap : Nat) (x : Int) (cb : Bool) (T : Array Value) (hT : MkT T q0 q1 q2 q3 q4 x qw cb) (F R : Nat) (ys : List Int) (bo : Bool) (cao pao hao fuo : Int) (u : Und) (Rs : Ending → World → Prop)
  (W : World) (hq : MkQ w q0 q1 q2 q3 q4 qw) (hqa : q4 < qa) (hB : RowKit.Below w.heap.size w W) (hE : HasO W q4 (.cells #[.int .i64 0] 31 (0, 0)))
  (hO : HasO W q2 (.cells (posCs F R (some ⟨qa, 0, none⟩) ys.length cap bo cao pao hao fuo).toArray 26 (0, 0))) (hY : OArr W qa cap ys) (hU : HasO W q3 (.cells u.cs.toArray 54 (0, 0)))
  (h7 : (10000 < hao ∨ 10000 < fuo) → ∀ w', RowKit.Below w.heap.size w w' → Rs (mkE 7) w')
  (hok : ¬ (10000 < hao ∨ 10000 < fuo) → ∀ w', RowKit.Below w.heap.size w w' → OArr w' qa cap ys → Rs (.returned (.tuple #[.agg (posCs F R (some ⟨qa, 0, none⟩) ys.length cap bo cao pao hao fuo).toArray, .agg u.cs.toArray, .int .i64 0])) w')
  (cd : Code) (hcd : Tryz.f23.body.map (sufC 25) = some cd) : cd.wp Tryz.prog (bodyPostD Tryz.prog Tryz.f23 Rs) { tmps := T, defers := mkDs q4 q2 q3 } W := by
 obtain rfl := Option.some.inj ((show Tryz.f23.body.map (sufC 25) = some _ from rfl).symm.trans hcd)
 clear hcd
 simp only [sufC]
 obtain ⟨X, rfl⟩ := hT.fr
 clear hT
 unfold mkF
 unfold MkQ at hq
 have p2 := hO.cells
 have l2 := hO.lt
 rcases z1 : decide (hao > 10000) with _ | _
 ·rcases z2 : decide (fuo > 10000) with _ | _
  ·have hok := hok (by simp at z1 z2; omega)
   go_wp2_with fail
   refine (refuse_no _ _).mono ?_
   rintro e W5 ⟨rfl, rfl⟩
   go_wp2_with fail
   obtain ⟨OR, hOR⟩ : ∃ r, r = (posCs F R (some ⟨qa, 0, none⟩) ys.length cap bo cao pao hao fuo).toArray := ⟨_, rfl⟩
   have hos : OR.size = 8 := by rw [hOR]; rfl
   have hone : OR.all (·.oneCell') = true := by rw [hOR]; simp [Value.oneCell']
   obtain ⟨UR, hUR⟩ : ∃ r, r = u.cs.toArray := ⟨_, rfl⟩
   have hus : UR.size = 9 := by rw [hUR]; rfl
   have hune : UR.all (·.oneCell') = true := by rw [hUR]; simp [Value.oneCell']
   obtain ⟨Wk, hWk⟩ : ∃ Wk : Nat → World, Wk = fun k => match k with | 0 => W | 1 => W.setRow q2 OR | 2 => (W.setRow q2 OR).setRow q3 UR | _ => ((W.setRow q2 OR).setRow q3 UR).setCell ⟨q4, 0, none⟩ (.int .i64 0) := ⟨_, rfl⟩
   have hW0 : Wk 0 = W := by subst hWk; rfl
   have hW1 : Wk (0 + 1) = (Wk 0).setRow q2 OR := by subst hWk; rfl
   have hW2 : Wk (1 + 1) = (Wk 1).setRow q3 UR := by subst hWk; rfl
   have hW3 : Wk (2 + 1) = (Wk 2).setCell ⟨q4, 0, none⟩ (.int .i64 0) := by subst hWk; rfl
   have hW4 : Wk [2, 3, 4].length = ((W.setRow q2 OR).setRow q3 UR).setCell ⟨q4, 0, none⟩ (.int .i64 0) := by subst hWk; rfl
   rw [← hOR] at hO
   rw [← hUR] at hU
   have e23 : q2 ≠ q3 := by omega
   have e24 : q2 ≠ q4 := by omega
   have e34 : q3 ≠ q4 := by omega
   have kO : ∀ k, HasO (Wk k) q2 (.cells OR 26 (0, 0)) := fun k => by
    have h1 := setRow_hasO (cells := OR) hO
    have h2 := h1.setRow_far (g := q3) (cells := UR) e23
    subst hWk
    rcases k with _ | _ | _ | k
    ·exact hO
    ·exact h1
    ·exact h2
    ·exact h2.far (p := ⟨q4, 0, none⟩) e24 _
   have kU : ∀ k, HasO (Wk k) q3 (.cells UR 54 (0, 0)) := fun k => by
    have h1 := hU.setRow_far (g := q2) (cells := OR) (fun h => e23 h.symm)
    have h2 := setRow_hasO (cells := UR) h1
    subst hWk
    rcases k with _ | _ | _ | k
    ·exact hU
    ·exact h1
    ·exact h2
    ·exact h2.far (p := ⟨q4, 0, none⟩) e34 _
   have kE : ∀ k, HasO (Wk k) q4 (.cells #[.int .i64 0] 31 (0, 0)) := fun k => by
    have h1 := hE.setRow_far (g := q2) (cells := OR) (fun h => e24 h.symm)
    have h2 := h1.setRow_far (g := q3) (cells := UR) (fun h => e34 h.symm)
    subst hWk
    rcases k with _ | _ | _ | k
    ·exact hE
    ·exact h1
    ·exact h2
    ·exact h2.set_ 0 (.int .i64 0)
   have hBk : RowKit.Below w.heap.size w (Wk [2, 3, 4].length) := by
    have h1 : RowKit.Below w.heap.size w (W.setRow q2 OR) := setRow_below hB (by omega) hB.size
    have h2 : RowKit.Below w.heap.size w ((W.setRow q2 OR).setRow q3 UR) := setRow_below h1 (by omega) h1.size
    rw [hW4]
    exact h2.setCell (by show w.heap.size ≤ q4; omega) _
   have hYk : OArr (Wk [2, 3, 4].length) qa cap ys := by
    rw [hW4]
    exact ((hY.farR (by omega) OR).farR (by omega) UR).far (p := ⟨q4, 0, none⟩) (by show qa ≠ q4; omega) _
   have o1 := row_grk kO
   have u1 := row_grk kU
   have ro : OR = #[.int .i64 (F : Int), .int .i64 (R : Int), .slice (some ⟨qa, 0, none⟩) ys.length cap, .bool bo, .int .u8 cao, .int .i64 pao, .int .i64 hao, .int .i64 fuo] := hOR
   have ru : UR = #[.int .i64 u.mv.fr, .int .i64 u.mv.tg, .int .i8 u.mv.pr, .int .i8 u.cp, .int .i64 u.at_, .int .u8 u.ca, .int .i64 u.pa, .int .i64 u.ha, .int .i64 u.fu] := hUR
   rw [ro] at o1
   rw [ru] at u1
   clear hWk p2 l2
   replace hW1 := Lib.hid hW1
   replace hW2 := Lib.hid hW2
   replace hW3 := Lib.hid hW3
   replace hW4 := Lib.hid hW4
   replace hos := Lib.hid hos
   replace hus := Lib.hid hus
   replace hone := Lib.hid hone
   replace hune := Lib.hid hune
   replace hOR := Lib.hid hOR
   replace hUR := Lib.hid hUR
   replace ro := Lib.hid ro
   replace ru := Lib.hid ru
   refine wp_region_turn [2, 3, 4] [(0, 0), (0, 1)] Wk (by kernel_rfl) (by kernel_rfl) hW0 ?_
   replace hW0 := Lib.hid hW0
   refine wpT_q 0 rfl rfl ?_
   go_big_quiet_step (fail)
   refine wpQuiet_nil ?_
   refine wpT_f rfl rfl ?_
   go_big_quiet_step (fail)
   refine wpQuiet_nil ?_
   refine wpT_r 0 rfl rfl 26 (.tmp 4) (.tmp 303) rfl (cells := OR) rfl (by rw [ro.out]; rfl) (kO 0) (by rw [hos.out]; kernel_rfl) rfl hone.out hW1.out rfl ?_
   refine wpT_r 1 rfl rfl 54 (.tmp 5) (.tmp 304) rfl (cells := UR) rfl (by rw [ru.out]; rfl) (kU 1) (by rw [hus.out]; kernel_rfl) rfl hune.out hW2.out rfl ?_
   refine wpT_s 2 rfl rfl 31 (.tmp 6) (.const (.int .i64 0)) rfl rfl rfl (by kernel_rfl) rfl ((kE 2).cells 0) ((kE 2).frozen 0) hW3.out rfl ?_
   refine wpT_nil ?_
   intro W6 hb6
   have hO6 := (kO _).call hb6
   have hU6 := (kU _).call hb6
   have hE6 := (kE _).call hb6
   have hB6 := below_call hBk hBk.size hb6
   have hY6 := hYk.call hb6
   clear o1 u1
   go_wp2_with fail
   refine mk_ok q4 q2 q3 OR UR W6 rfl rfl rfl hE6 hO6 (by rw [ro.out]; kernel_rfl) hU6 (by rw [ru.out]; kernel_rfl) ?_
   rw [hOR.out, hUR.out]
   exact hok W6 hB6 hY6
  ·go_wp2_with fail
   refine (refuse_yes _ _).mono ?_
   rintro e W5 ⟨rfl, rfl⟩
   refine mk_no q4 q2 q3 7 0 (by decide) _ _ W w rfl rfl rfl hE hO rfl hU rfl hB (by omega) (by omega) (by omega) (h7 (by simp at z2; omega))
 ·go_wp2_with fail
  refine (refuse_yes _ _).mono ?_
  rintro e W5 ⟨rfl, rfl⟩
  refine mk_no q4 q2 q3 7 0 (by decide) _ _ W w rfl rfl rfl hE hO rfl hU rfl hB (by omega) (by omega) (by omega) (h7 (by simp at z1; omega))
set_option maxRecDepth 100000 in
theorem mkS5 (w : World) (F R : Nat) (xs : List Int) (bl : Bool) (ca pa ha fu : Int) (pp : Option Addr) (cc : Nat) (m : Mv) (q0 q1 q2 q3 q4 qw qa cap : Nat) (x : Int) (cb : Bool) (wy : Option Cas) (T : Array Value) (hT : MkT T q0 q1 q2 q3 q4 x qw cb) (ys : List Int) (bo : Bool) (cao pao hao fuo : Int) (u : Und) (Rs : Ending → World → Prop)
  (hF : 3 ≤ F ∧ F ≤ 8) (hR : 3 ≤ R ∧ R ≤ 8) (hlen : xs.length = F * R) (hly : ys.length = xs.length) (hor : orthB F R xs = true) (hcc : xs.length ≤ cc) (hcap : ys.length ≤ cap) (cr : Nat) (hcr : casCs wy = (casCs wy).set 5 (.int .i64 cr)) (hcrl : cr < F * R)
  (W : World) (hQ : MkQ w q0 q1 q2 q3 q4 qw) (hqa : q4 < qa) (hC : MkC w ⟨F, R, xs, bl, ca, pa, ha, fu⟩ pp cc m q0 q1 q4 W) (hW : HasO W qw (.cells (casCs wy).toArray 104 (0, 0)))
  (hO : HasO W q2 (.cells (posCs F R (some ⟨qa, 0, none⟩) ys.length cap bo cao pao hao fuo).toArray 26 (0, 0))) (hY : OArr W qa cap ys) (hU : HasO W q3 (.cells u.cs.toArray 54 (0, 0)))
  (C : Bool) (hCd : C = (decide (chkS F R ys bl ≠ 0) || (cb && (decide (chkS F R xs bl ≠ 0) || decide (atrW F R (setW gNon xs xs.length) xs cr (!bl) xs.length ≠ 0)))))
  (h90 : C = true → ∀ w', RowKit.Below w.heap.size w w' → Rs (mkE 90) w')
  (h7 : C = false → (10000 < hao ∨ 10000 < fuo) → ∀ w', RowKit.Below w.heap.size w w' → Rs (mkE 7) w')
  (hok : C = false → ¬ (10000 < hao ∨ 10000 < fuo) → ∀ w', RowKit.Below w.heap.size w w' → OArr w' qa cap ys → Rs (.returned (.tuple #[.agg (posCs F R (some ⟨qa, 0, none⟩) ys.length cap bo cao pao hao fuo).toArray, .agg u.cs.toArray, .int .i64 0])) w')
  (cd : Code) (hcd : Tryz.f23.body.map (sufC 23) = some cd) : cd.wp Tryz.prog (bodyPostD Tryz.prog Tryz.f23 Rs) { tmps := T, defers := mkDs q4 q2 q3 } W := by
 obtain rfl := Option.some.inj ((show Tryz.f23.body.map (sufC 23) = some _ from rfl).symm.trans hcd)
 clear hcd
 simp only [sufC]
 obtain ⟨X, rfl⟩ := hT.fr
 clear hT
 unfold mkF
 have hll : xs.length ≤ 1000 := by rw [hlen]; exact Nat.le_trans (Nat.mul_le_mul hF.2 hR.2) (by decide)
 have hat := fun W hg hx => attackersX_any F R cr (!bl) pp cc xs hF hR hlen hcrl hor W hg hx
 have hk1 := fun W hg hx => checked_any F R cao pao hao fuo bo bl (some ⟨qa, 0, none⟩) cap ys W hg hx (by omega) hcap
 have hk2 := fun W hg hx => checked_any F R ca pa ha fu bl bl pp cc xs W hg hx hll hcc
 generalize atrW F R (setW gNon xs xs.length) xs cr (!bl) xs.length = AT at *
 generalize chkS F R ys bl = C1 at *
 generalize chkS F R xs bl = C2 at *
 obtain ⟨hB, hP, hM, hE, hG, hX⟩ := hC
 have hwc : (casCs wy).toArray[5]? = some (.int .i64 (cr : Int)) := by
  rw [hcr]
  have : (casCs wy).length = 6 := by cases wy <;> rfl
  simp [this]
 have p1 := hP.cells
 have l1 := hP.lt
 have w5 := hW.cells 5
 rw [hwc] at w5
 have l2 := hW.lt
 clear hcr hwc
 replace hlen := Lib.hid hlen
 replace hly := Lib.hid hly
 replace hor := Lib.hid hor
 replace hCd := Lib.hid hCd
 go_wp2_with fail
 refine (hat W hG.1 hX).mono ?_
 rintro e W2 ⟨rfl, hb2⟩
 have hB2 := below_call hB hB.size hb2
 have hP2 := hP.call hb2
 have hE2 := hE.call hb2
 have hG2 := hG.call hb2
 have hX2 := hX.call hb2
 have hO2 := hO.call hb2
 have hY2 := hY.call hb2
 have hU2 := hU.call hb2
 clear p1 l1 w5 l2 hat hB hP hM hE hG hX hO hY hU hW hb2
 have p1 := hP2.cells
 have l1 := hP2.lt
 have p2 := hO2.cells
 have l2 := hO2.lt
 go_upto_region 37 with fail
 rename_i hk38
 replace hk38 := Lib.hid hk38
 go_wp2_with fail
 refine (hk1 W2 hG2.1 hY2.arr).mono ?_
 rintro e W3 ⟨rfl, hb2⟩
 have hB3 := below_call hB2 hB2.size hb2
 have hP3 := hP2.call hb2
 have hE3 := hE2.call hb2
 have hG3 := hG2.call hb2
 have hX3 := hX2.call hb2
 have hO3 := hO2.call hb2
 have hY3 := hY2.call hb2
 have hU3 := hU2.call hb2
 clear p1 l1 p2 l2 hB2 hP2 hE2 hG2 hX2 hO2 hY2 hU2 hb2 hk1
 have hq : MkQ w q0 q1 q2 q3 q4 qw := hQ
 unfold MkQ at hq
 have p1 := hP3.cells
 have l1 := hP3.lt
 rcases z1 : decide (C1 ≠ 0) with _ | _
 ·rcases cb with _ | _
  ·have hC : C = false := by rw [hCd.out, z1]; rfl
   go_wp2_with fail
   refine (refuse_no _ _).mono ?_
   rintro e W5 ⟨rfl, rfl⟩
   go_wp2_with fail
   refine hk38.out _ _ ?_
   refine mkS6 w q0 q1 q2 q3 q4 qw qa cap x false _ ?_ F R ys bo cao pao hao fuo u Rs W3 hQ hqa hB3 hE3 hO3 hY3 hU3 (h7 hC) (hok hC) _ ?_
   ·exact ⟨rfl, rfl, rfl, rfl, rfl, rfl, rfl, rfl, rfl⟩
   ·exact rfl
  ·go_wp2_with fail
   refine (hk2 W3 hG3.1 hX3).mono ?_
   rintro e W4 ⟨rfl, hb2⟩
   have hB4 := below_call hB3 hB3.size hb2
   have hE4 := hE3.call hb2
   have hO4 := hO3.call hb2
   have hY4 := hY3.call hb2
   have hU4 := hU3.call hb2
   clear p1 l1
   rcases z2 : decide (C2 ≠ 0) with _ | _
   ·rcases z3 : ((AT : Int) != 0) with _ | _
    ·have hC : C = false := by rw [hCd.out, z1, z2]; simp at z3; simp [z3]
     go_wp2_with fail
     refine (refuse_no _ _).mono ?_
     rintro e W5 ⟨rfl, rfl⟩
     go_wp2_with fail
     refine hk38.out _ _ ?_
     refine mkS6 w q0 q1 q2 q3 q4 qw qa cap x true _ ?_ F R ys bo cao pao hao fuo u Rs W4 hQ hqa hB4 hE4 hO4 hY4 hU4 (h7 hC) (hok hC) _ ?_
     ·exact ⟨rfl, rfl, rfl, rfl, rfl, rfl, rfl, rfl, rfl⟩
     ·exact rfl
    ·go_wp2_with fail
     refine (refuse_yes _ _).mono ?_
     rintro e W5 ⟨rfl, rfl⟩
     refine mk_no q4 q2 q3 90 0 (by decide) _ _ W4 w rfl rfl rfl hE4 hO4 rfl hU4 rfl hB4 (by omega) (by omega) (by omega) (h90 (by rw [hCd.out, z1, z2]; simp at z3; simp [z3]))
   ·go_wp2_with fail
    refine (refuse_yes _ _).mono ?_
    rintro e W5 ⟨rfl, rfl⟩
    refine mk_no q4 q2 q3 90 0 (by decide) _ _ W4 w rfl rfl rfl hE4 hO4 rfl hU4 rfl hB4 (by omega) (by omega) (by omega) (h90 (by rw [hCd.out, z1, z2]; rfl))
 ·go_wp2_with fail
  refine (refuse_yes _ _).mono ?_
  rintro e W5 ⟨rfl, rfl⟩
  refine mk_no q4 q2 q3 90 0 (by decide) _ _ W3 w rfl rfl rfl hE3 hO3 rfl hU3 rfl hB3 (by omega) (by omega) (by omega) (h90 (by rw [hCd.out, z1]; rfl))
end Go.Proofs.YtefmplccbkmalaaGreatDoor
