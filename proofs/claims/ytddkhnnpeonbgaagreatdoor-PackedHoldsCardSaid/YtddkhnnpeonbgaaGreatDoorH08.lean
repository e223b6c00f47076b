import Derived.Test.YtddkhnnpeonbgaaGreatDoorH07
namespace Go.Proofs.YtddkhnnpeonbgaaGreatDoor
open Go.RowKit
attribute [local go_sem] Oper.semAt_some

theorem Bld.alt {base b lo hi : Nat} {v : Value} {l : List UInt8} {w w' : World} (h : Bld base b v l w) (ha : Alt lo hi w w') (hb : b < lo ∨ hi ≤ b) (hr : ∀ g, v.ownBlock = some g → g < lo ∨ hi ≤ g) : Bld base b v l w' := by
 obtain ⟨p, hp, ho⟩ := h.hd
 exact ⟨⟨p, hp, ha.hasO ho hb⟩, ha.own h.own hr, h.ne⟩

theorem Tryz.cellsByte5 : Tryz.prog.cellsOf 5 = 1 := by kernel_rfl

theorem freeze_grow (w : World) (b g n : Nat) : Grow2 b (some g) w (w.drew.freeze ⟨g, 0, none⟩ n) := by
 unfold World.freeze
 by_cases h : n = 0
 ·rw [if_pos h]; exact ⟨rfl, rfl, rfl, Nat.le_refl _, fun _ _ _ _ => rfl⟩
 ·rw [if_neg h]
  refine ⟨rfl, rfl, rfl, by show w.heap.size ≤ (w.heap.modify g _).size; rw [Array.size_modify]; exact Nat.le_refl _, fun k _ _ hk => ?_⟩
  simp only [Array.getElem?_modify]
  rw [if_neg (fun e => hk (by rw [e]))]; rfl

set_option maxHeartbeats 2000000 in
set_option maxRecDepth 100000 in
theorem string_any (base b : Nat) (v : Value) (l : List UInt8) (w : World) (h : Bld base b v l w) (h0 : l ≠ []) :
  Calls Tryz.prog 132 #[.pointer (some ⟨b, 0, none⟩)] w fun e w' => e = .returned (.string (str l)) ∧ Grow2 b v.ownBlock w w' := by
 obtain ⟨p, _, ho⟩ := h.hd
 have hown := h.own
 have hl0 : l.length ≠ 0 := by simpa using h0
 obtain ⟨g, cap, cur, rfl, hbg, hg, hnc, hcm, hcs, htake⟩ : ∃ g cap cur, v = .slice (some ⟨g, 0, none⟩) l.length cap ∧ base ≤ g ∧ w.heap[g]? = some (.cells cur 5 (0, 0)) ∧ l.length ≤ cap ∧ cap ≤ maxLen ∧ cur.size = cap * 1 ∧ cur.toList.take (l.length * 1) = Lib.byteCells l := by
  rcases hown.2 with ⟨_, hz⟩ | ⟨g, cap, cur, hv, r⟩
  ·exact absurd hz hl0
  ·exact ⟨g, cap, cur, hv, r⟩
 have c1 : w.drew.cell? ⟨b, 1, none⟩ = some (.slice (some ⟨g, 0, none⟩) l.length cap) := ho.drew.cells 1
 have hSD : (Builtin.unsafeSliceData_ #[22] 216 #[.slice (some ⟨g, 0, none⟩) l.length cap]).run Tryz.prog w.drew = .ok (.pointer (some ⟨g, 0, none⟩)) w.drew :=
  Lib.run_unsafeSliceData_row _ _ _ _ _ _ (by omega)
 have hUS : (Builtin.unsafeString_ #[216, 3] 9 #[.pointer (some ⟨g, 0, none⟩), .int .i64 l.length]).run Tryz.prog w.drew = .ok (.string (str l)) (w.drew.freeze ⟨g, 0, none⟩ l.length) := by
  refine Lib.run_unsafeString_row w.drew 216 3 9 5 Tryz.underlying216 Tryz.cellsByte5 g cur.size (by have hg' : w.drew.heap[g]? = some (.cells cur 5 (0, 0)) := hg; simp [World.shape?, hg']) l h0 (by omega) (by unfold maxLen at hcm; omega) ?_
  intro j x hx
  have := hown.cells (g := g) rfl j (.int .u8 x.toNat) (by simp [Lib.byteCells, hx])
  exact this
 go_enter Tryz.func132, Tryz.ntmps132
 go_wp2_with fail
 go_region
 all_goals (go_wp2_with fail; go_ret; exact ⟨rfl, freeze_grow _ _ _ _⟩)

theorem below_putObj {B q : Nat} {w W : World} {o : Obj} (h : Below B w W) (hq : B ≤ q) (hB : B ≤ W.heap.size) : Below B w (W.putObj q o) :=
 (Alt.putObj (lo := q) (hi := q + 1) ⟨Nat.le_refl _, Nat.lt_succ_self _⟩).below h hq hB

def hd4 (m : Men) : List UInt8 := [UInt8.ofNat (48 + m.f.toNat), 120, UInt8.ofNat (48 + m.r.toNat), 32]
theorem repeat_str (c : UInt8) (n : Nat) : Value.string ⟨(Lib.repeatL (str [c]).data.toList n).toArray⟩ = .string (str (List.replicate n c)) := by
 have h : ∀ n, Lib.repeatL [c] n = List.replicate n c := fun n => by
  induction n with
  | zero => rfl
  | succ n ih => simp [Lib.repeatL, ih, List.replicate_succ]
 have e : (str [c]).data.toList = [c] := rfl
 rw [e, h]; rfl
def TextI (w : World) (m : Men) (g : Nat → Int) (hd : List UInt8) (D X Y : Nat) (L : List (Nat × Obj)) (c k : Nat) (W : World) : Prop :=
 Below w.heap.size w W ∧ HasO W w.heap.size (.cells m.cs.toArray 41 (0, 0)) ∧ (∃ v, Bld (w.heap.size + 1) (w.heap.size + 1) v (hd ++ sideN g k) W ∧ ∀ q, v.ownBlock = some q → q < D ∨ c ≤ q) ∧
 HasO W X (.cells (five5 g).toArray 39 (0, 0)) ∧ HasO W Y (.cells #[.slice (some ⟨X, 0, none⟩) 5 5] 53 (0, 0)) ∧ c ≤ W.heap.size ∧ ∀ p ∈ L, HasO W p.1 p.2

set_option maxHeartbeats 2000000 in
set_option maxRecDepth 100000 in
theorem text_any (m : Men) (w : World) (hm : Hid (validB m = true)) : Calls Tryz.prog 112 #[.agg m.cs.toArray] w fun e w' => e = .returned (.string (str (textL m))) ∧ Below w.heap.size w w' := by
 have hs := validB_size hm.out
 have e1 : IntKind.u8.wrap m.f = m.f := u8_in (by omega) (by omega)
 have e2 : IntKind.u8.wrap m.r = m.r := u8_in (by omega) (by omega)
 have e3 : IntKind.u8.wrap (48 + m.f) = 48 + m.f := u8_in (by omega) (by omega)
 have e4 : IntKind.u8.wrap (48 + m.r) = 48 + m.r := u8_in (by omega) (by omega)
 have hgba : Hid (∀ j, j < 5 → 0 ≤ m.sw j ∧ m.sw j ≤ 4) := fun j hj => by have := menOk_at (validB_ok hm.out) hj; omega
 have hgbb : Hid (∀ j, j < 5 → 0 ≤ m.sb j ∧ m.sb j ≤ 4) := fun j hj => by have := menOk_at (validB_ok hm.out) hj; omega
 refine (callsIn_wide (n := 3)).1 ?_
 refine callsIn_of_wp_marks Tryz.func112 rfl trivial ?_ rfl
 simp only [Tryz.ntmps112, List.size_toArray, List.length_cons, List.length_nil, Nat.reduceAdd, Nat.reduceSub, Array.replicate_succ, Array.replicate_zero, List.push_toArray, List.append_toArray, List.nil_append, List.cons_append]
 gi_wp2_with fail
 have hM0 : HasO (((w.alloc (.cells m.cs.toArray 41)).alloc (.cells #[.pointer none, .slice none 0 0] 190)).alloc (.cells #[.int .u8 (48 + m.f), .int .u8 120, .int .u8 (48 + m.r), .int .u8 32] 5)) w.heap.size (.cells m.cs.toArray 41 (0, 0)) := ((HasO.new _ _).alloc _).alloc _
 have hB0 : Bld (w.heap.size + 1) (w.heap.size + 1) (.slice none 0 0) [] (((w.alloc (.cells m.cs.toArray 41)).alloc (.cells #[.pointer none, .slice none 0 0] 190)).alloc (.cells #[.int .u8 (48 + m.f), .int .u8 120, .int .u8 (48 + m.r), .int .u8 32] 5)) :=
  ⟨⟨_, .inl rfl, (HasO.new' _ _ (by simp)).alloc _⟩, World.ownsRow_nil _ _ _ _, by simp [Value.ownBlock]⟩
 have hb0 : Below w.heap.size w (((w.alloc (.cells m.cs.toArray 41)).alloc (.cells #[.pointer none, .slice none 0 0] 190)).alloc (.cells #[.int .u8 (48 + m.f), .int .u8 120, .int .u8 (48 + m.r), .int .u8 32] 5)) := ((below_box _ _).alloc (by simp) _).alloc (by simp; omega) _
 have hC0 : HasO (((w.alloc (.cells m.cs.toArray 41)).alloc (.cells #[.pointer none, .slice none 0 0] 190)).alloc (.cells #[.int .u8 (48 + m.f), .int .u8 120, .int .u8 (48 + m.r), .int .u8 32] 5)) (w.heap.size + 1 + 1) (.cells #[.int .u8 (48 + m.f), .int .u8 120, .int .u8 (48 + m.r), .int .u8 32] 5 (0, 0)) := HasO.new' _ _ (by simp)
 generalize (((w.alloc (.cells m.cs.toArray 41)).alloc (.cells #[.pointer none, .slice none 0 0] 190)).alloc (.cells #[.int .u8 (48 + m.f), .int .u8 120, .int .u8 (48 + m.r), .int .u8 32] 5)) = W0 at *
 refine ⟨trivial, (callsIn_wide.2 (write_any (w.heap.size + 1) (w.heap.size + 1) _ [] (hd4 m) (w.heap.size + 1 + 1) 0 4 W0 hB0 (by simp) (by simp [hd4]) (by have := hC0.lt; omega) hC0.lt (by omega) ?hc)).mono ?_⟩
 case hc =>
  intro j u hu
  rw [Nat.zero_add, hC0.cells]
  rw [← hu]
  show _ = (Lib.byteCells _)[j]?
  rw [show (Lib.byteCells (hd4 m)) = [.int .u8 (48 + m.f), .int .u8 120, .int .u8 (48 + m.r), .int .u8 32] from by simp [Lib.byteCells, hd4]; omega]
  simp
 rintro e w1 ⟨rfl, v1, hB1, hg1⟩
 rw [List.nil_append] at hB1
 have hM1 := hM0.grow2 hg1 (by omega) (by simp [Value.ownBlock])
 have hb1 := hg1.below hb0 hb0.size (by omega) (by simp [Value.ownBlock])
 clear hM0 hb0 hB0 hC0 hg1 e1 e2 e3 e4
 have hc1 := hM1.cells
 gi_wp2_with fail
 have i0 : ∀ w, (Instr.index 195 (.agg #[.int .i64 m.w0, .int .i64 m.w1, .int .i64 m.w2, .int .i64 m.w3, .int .i64 m.w4, .int .i64 m.b0, .int .i64 m.b1, .int .i64 m.b2, .int .i64 m.b3, .int .i64 m.b4]) (.int .i64 0)).run Tryz.prog w = .ok (.agg #[.int .i64 m.w0, .int .i64 m.w1, .int .i64 m.w2, .int .i64 m.w3, .int .i64 m.w4]) w := fun _ => by kernel_rfl
 have i1 : ∀ w, (Instr.index 195 (.agg #[.int .i64 m.w0, .int .i64 m.w1, .int .i64 m.w2, .int .i64 m.w3, .int .i64 m.w4, .int .i64 m.b0, .int .i64 m.b1, .int .i64 m.b2, .int .i64 m.b3, .int .i64 m.b4]) (.int .i64 1)).run Tryz.prog w = .ok (.agg #[.int .i64 m.b0, .int .i64 m.b1, .int .i64 m.b2, .int .i64 m.b3, .int .i64 m.b4]) w := fun _ => by kernel_rfl
 refine wpIn_loop_rounds 3 ?_
 rw [roundsIn_succ]
 gi_wp2_with fail
 refine ⟨trivial, (callsIn_wide.2 (writeByte_any (w.heap.size + 1) (w.heap.size + 1) v1 _ 75 _ (hB1.call (below_box _ _)) ?hlena (by have := hM1.lt; simp; omega))).mono ?_⟩
 case hlena => simp [hd4]
 rintro e wa2 ⟨rfl, va2, hBa2, hga2⟩
 have hla1 := hM1.lt
 have hlB : w.heap.size + 1 < w1.heap.size := by obtain ⟨p, _, h⟩ := hB1.hd; exact h.lt
 have hXa2 : HasO wa2 w1.heap.size (.cells (five5 m.sw).toArray 39 (0, 0)) := (HasO.new w1 _).grow2 hga2 (by have := (hB1.hd); obtain ⟨p, _, h⟩ := this; have := h.lt; omega) (fun e => by have := (hB1.own.lt _ e).2; omega)
 have hMa2 := (hM1.alloc (.cells (five5 m.sw).toArray 39)).grow2 hga2 (by omega) (fun e => by have := (hB1.own.lt _ e).1; omega)
 have hba2 := hga2.below (hb1.alloc hb1.size (.cells (five5 m.sw).toArray 39)) (by simp; omega) (by omega) (fun k e => by have := (hB1.own.lt _ e).1; omega)
 have hEa2 : ∀ p ∈ ([] : List (Nat × Obj)), HasO wa2 p.1 p.2 := fun p hp => by simp at hp
 have hLa : ∀ p ∈ ([] : List (Nat × Obj)), p.1 < wa2.heap.size + 1 ∧ p.1 ≠ w.heap.size + 1 ∧ ∀ cs, p.2 ≠ Obj.cells cs 5 (0, 0) := fun p hp => by simp at hp
 clear hM1 hb1 hB1 hga2 hc1
 gi_wp2_with fail
 refine ⟨trivial, (callsIn_wide.2 (backward_any _ _ _ _)).mono ?_⟩
 rintro e wa3 ⟨rfl, rfl⟩
 gi_wp2_with fail
 refine rangeFunc_law (gf := 149) (lb := #[.pointer (some ⟨wa2.heap.size, 0, none⟩)]) rfl (enters_of Tryz.func149 (by kernel_rfl) rfl) (back_seq wa2.heap.size w1.heap.size 0 5 [m.w0, m.w1, m.w2, m.w3, m.w4] (by simp)) (fun _ _ => rfl)
  (fun c k W => TextI w m m.sw (hd4 m) (wa2.heap.size + 1) w1.heap.size wa2.heap.size ([] : List (Nat × Obj)) c k W) (fun _ _ _ _ => False) ?hsta ?hstxa ?hRda ?hsza ?hszxa ?h0a ?hbodya ?hdonea ?hstopa ?hpanica
 case hstxa => intro _ _ _ _ _ _ h; exact h.elim
 case hszxa => intro _ _ _ _ _ h; exact h.elim
 case hstopa => intro _ _ _ _ _ _ h; exact h.elim
 case hpanica => intro _ _ _ _ _ h; exact h.elim
 case hsza => intro c k W _ h; exact h.2.2.2.2.2.1
 case hsta =>
  rintro c k W W' hc ⟨h1, h2, ⟨v, h3, h4⟩, h5, h6, h7, h8⟩ ha
  simp only [World.size_alloc] at ha hc
  have hlX := hXa2.lt
  refine ⟨ha.below h1 (by omega) h1.size, ha.hasO h2 (by omega), ⟨v, h3.alt ha (by omega) h4, h4⟩, ha.hasO h5 (by omega), ha.hasO h6 (by omega), Nat.le_trans h7 ha.size, fun p hp => ha.hasO (h8 p hp) (by have := (hLa p hp).1; omega)⟩
 case hRda =>
  rintro c k W hc ⟨_, _, _, h5, h6, _, _⟩
  refine ⟨h6.cells 0, fun i x hx => ?_⟩
  rw [Nat.zero_add, h5.cells]
  have hi : i < 5 := (List.getElem?_eq_some_iff.1 hx).1
  rcases five hi with rfl | rfl | rfl | rfl | rfl <;> (simp at hx; subst hx; rfl)
 case h0a =>
  intro c W hb hc hz
  simp only [World.size_alloc] at hb hc
  have hlX := hXa2.lt
  have hbb : Below wa2.heap.size wa2 W := (below_box _ _).trans (hb.mono (by omega))
  refine ⟨below_call hba2 hba2.size hbb, hMa2.call hbb, ⟨va2, hBa2.call hbb, fun q e => .inl (by have := (hBa2.own.lt _ e).2; omega)⟩, hXa2.call hbb, ((HasO.new wa2 _).below hb (by omega)), by omega, fun p hp => (hEa2 p hp).call hbb⟩
 case hbodya =>
  rintro c k W hc hk ⟨h1, h2, ⟨v, h3, h4⟩, h5, h6, h7, h8⟩ hT
  simp only [World.size_alloc] at hc hT ⊢
  have hk : k < 5 := hk
  have hlX := hXa2.lt
  gi_wp2_with fail
  refine ⟨fun q o _ h => h, fun W2 ha hz hrec => ?_⟩
  have h2' := ha.hasO h2 (by omega)
  have h1' := ha.below h1 (by omega) h1.size
  have h3' := h3.alt ha (by omega) (fun g hg => by have := h4 g hg; omega)
  have h5' := ha.hasO h5 (by omega)
  have h6' := ha.hasO h6 (by omega)
  have h8' : ∀ p ∈ ([] : List (Nat × Obj)), HasO W2 p.1 p.2 := fun p hp => ha.hasO (h8 p hp) (by have := (hLa p hp).1; omega)
  have haW := ha
  have hgk := hgba.out (4 - k) (by omega)
  clear h1 h2 h3 h5 h6 h8 ha
  have hcv : [m.w0, m.w1, m.w2, m.w3, m.w4][4 - k]?.getD 0 = m.sw (4 - k) := by rcases five hk with rfl | rfl | rfl | rfl | rfl <;> rfl
  gi_wp2_with fail
  rw [hcv, pn_cut (by omega), show m.sw (4 - k) = ((m.sw (4 - k)).toNat : Int) by omega]
  refine ⟨trivial, (CallsIn.inRound _ (callsIn_wide.2 (Tryz.strings_Repeat _ _ _ (by omega) (by rw [str_size]; simp; omega)))).mono ?_⟩
  rintro e wa4 ⟨rfl, hb4⟩
  have h1' := below_call h1' h1'.size hb4
  have h2' := h2'.call hb4
  have h3' := h3'.call hb4
  have h5' := h5'.call hb4
  have h6' := h6'.call hb4
  rw [repeat_str]
  gi_wp2_with fail
  refine ⟨trivial, (CallsIn.inRound _ (callsIn_wide.2 (writeString_any (w.heap.size + 1) (w.heap.size + 1) v _ _ _ h3' ?hla ?hla2 h2'.lt))).mono ?_⟩
  case hla => have := sideN_len hgba.out (j := k) (by omega); simp [hd4]; omega
  case hla2 => simp; omega
  rintro e wa5 ⟨rfl, v5, hB5, hg5⟩
  have hr5 : ∀ q, wa2.heap.size + 1 ≤ q ∧ q < c → v.ownBlock ≠ some q := fun q hq e => by have := h4 q e; omega
  have hkeep : ∀ q o, wa2.heap.size + 1 ≤ q ∧ q < c → HasO W2 q o → HasO wa5 q o := fun q o hq h => (h.call hb4).grow2 hg5 (by omega) (hr5 q hq)
  gi_wp2_with fail
  refine ⟨fun q o hq h => hkeep q o (by omega) h, hg5.below h1' h1'.size (by omega) (fun k e => by have := (h3'.own.lt _ e).1; omega), h2'.grow2 hg5 (by omega) (fun e => by have := (h3'.own.lt _ e).1; omega), ⟨v5, ?_, ?_⟩, h5'.grow2 hg5 ?_ ?_, h6'.grow2 hg5 (by omega) ?_, Nat.le_trans (Nat.le_trans (by omega) hb4.size) hg5.size, fun p hp => ((h8' p hp).call hb4).grow2 hg5 (hLa p hp).2.1 (own_ne h3'.own ((h8' p hp).call hb4) (hLa p hp).2.2)⟩
  ·have := hB5; rw [List.append_assoc] at this; exact this
  ·obtain ⟨r, hr⟩ := hrec
   exact (hT.turn (l := wa2.heap.size + 1 + 1) haW hr).not_row hkeep hB5.own (fun h => h)
  ·omega
  ·exact own_ne h3'.own h5' (by simp)
  ·exact own_ne h3'.own h6' (by simp)
 case hdonea =>
  rintro c wq hc ⟨hbq, hMq, ⟨vq, hBq, h4⟩, h5, h6, h7, h8⟩ hDq
  simp only [World.size_alloc] at hDq hc ⊢
  replace hBq : Bld (w.heap.size + 1) (w.heap.size + 1) vq ((hd4 m) ++ sideL m.sw) wq := hBq
  gi_wp2_with fail
  rw [roundsIn_succ]
  have hcq := hMq.cells
  have hlq : wa2.heap.size + 1 < wq.heap.size := by omega
  have hlX2 := hXa2.lt
  have hSl : (sideL m.sw).length ≤ 21 := sideN_len hgba.out (j := 5) (by omega)
  clear h4 h5 h6 h7 h8 hBa2 hMa2 hba2 hEa2 hLa
  gi_wp2_with fail
  refine ⟨trivial, (callsIn_wide.2 (writeByte_any (w.heap.size + 1) (w.heap.size + 1) vq _ 75 _ (hBq.call (below_box _ _)) ?hlenb (by have := hMq.lt; simp; omega))).mono ?_⟩
  case hlenb => have := sideN_len hgba.out (j := 5) (by omega); simp [hd4, sideL]; omega
  rintro e wb2 ⟨rfl, vb2, hBb2, hgb2⟩
  have hlb1 := hMq.lt
  have hlB : w.heap.size + 1 < wq.heap.size := by obtain ⟨p, _, h⟩ := hBq.hd; exact h.lt
  have hXb2 : HasO wb2 wq.heap.size (.cells (five5 m.sb).toArray 39 (0, 0)) := (HasO.new wq _).grow2 hgb2 (by have := (hBq.hd); obtain ⟨p, _, h⟩ := this; have := h.lt; omega) (fun e => by have := (hBq.own.lt _ e).2; omega)
  have hMb2 := (hMq.alloc (.cells (five5 m.sb).toArray 39)).grow2 hgb2 (by omega) (fun e => by have := (hBq.own.lt _ e).1; omega)
  have hbb2 := hgb2.below (hbq.alloc hbq.size (.cells (five5 m.sb).toArray 39)) (by simp; omega) (by omega) (fun k e => by have := (hBq.own.lt _ e).1; omega)
  have hEb2 : ∀ p ∈ [(wa2.heap.size + 1, Obj.deferred (some []))], HasO wb2 p.1 p.2 := fun p hp => by simp at hp; subst hp; exact (hDq.alloc _).grow2 hgb2 (by simp; omega) (own_ne hBq.own hDq (by simp))
  have hLb : ∀ p ∈ [(wa2.heap.size + 1, Obj.deferred (some []))], p.1 < wb2.heap.size + 1 ∧ p.1 ≠ w.heap.size + 1 ∧ ∀ cs, p.2 ≠ Obj.cells cs 5 (0, 0) := fun p hp => by simp at hp; subst hp; exact ⟨by have := (hEb2 (wa2.heap.size + 1, Obj.deferred (some [])) (by simp)).lt; simp at this ⊢; omega, by simp; omega, by simp⟩
  clear hMq hbq hBq hgb2 hcq
  gi_wp2_with fail
  refine ⟨trivial, (callsIn_wide.2 (backward_any _ _ _ _)).mono ?_⟩
  rintro e wb3 ⟨rfl, rfl⟩
  gi_wp2_with fail
  refine rangeFunc_law (gf := 149) (lb := #[.pointer (some ⟨wb2.heap.size, 0, none⟩)]) rfl (enters_of Tryz.func149 (by kernel_rfl) rfl) (back_seq wb2.heap.size wq.heap.size 0 5 [m.b0, m.b1, m.b2, m.b3, m.b4] (by simp)) (fun _ _ => rfl)
   (fun c k W => TextI w m m.sb (hd4 m ++ sideL m.sw) (wb2.heap.size + 1) wq.heap.size wb2.heap.size [(wa2.heap.size + 1, Obj.deferred (some []))] c k W) (fun _ _ _ _ => False) ?hstb ?hstxb ?hRdb ?hszb ?hszxb ?h0b ?hbodyb ?hdoneb ?hstopb ?hpanicb
  case hstxb => intro _ _ _ _ _ _ h; exact h.elim
  case hszxb => intro _ _ _ _ _ h; exact h.elim
  case hstopb => intro _ _ _ _ _ _ h; exact h.elim
  case hpanicb => intro _ _ _ _ _ h; exact h.elim
  case hszb => intro c k W _ h; exact h.2.2.2.2.2.1
  case hstb =>
   rintro c k W W' hc ⟨h1, h2, ⟨v, h3, h4⟩, h5, h6, h7, h8⟩ ha
   simp only [World.size_alloc] at ha hc
   have hlX := hXb2.lt
   refine ⟨ha.below h1 (by omega) h1.size, ha.hasO h2 (by omega), ⟨v, h3.alt ha (by omega) h4, h4⟩, ha.hasO h5 (by omega), ha.hasO h6 (by omega), Nat.le_trans h7 ha.size, fun p hp => ha.hasO (h8 p hp) (by have := (hLb p hp).1; omega)⟩
  case hRdb =>
   rintro c k W hc ⟨_, _, _, h5, h6, _, _⟩
   refine ⟨h6.cells 0, fun i x hx => ?_⟩
   rw [Nat.zero_add, h5.cells]
   have hi : i < 5 := (List.getElem?_eq_some_iff.1 hx).1
   rcases five hi with rfl | rfl | rfl | rfl | rfl <;> (simp at hx; subst hx; rfl)
  case h0b =>
   intro c W hb hc hz
   simp only [World.size_alloc] at hb hc
   have hlX := hXb2.lt
   have hbb : Below wb2.heap.size wb2 W := (below_box _ _).trans (hb.mono (by omega))
   refine ⟨below_call hbb2 hbb2.size hbb, hMb2.call hbb, ⟨vb2, hBb2.call hbb, fun q e => .inl (by have := (hBb2.own.lt _ e).2; omega)⟩, hXb2.call hbb, ((HasO.new wb2 _).below hb (by omega)), by omega, fun p hp => (hEb2 p hp).call hbb⟩
  case hbodyb =>
   rintro c k W hc hk ⟨h1, h2, ⟨v, h3, h4⟩, h5, h6, h7, h8⟩ hT
   simp only [World.size_alloc] at hc hT ⊢
   have hk : k < 5 := hk
   have hlX := hXb2.lt
   gi_wp2_with fail
   refine ⟨fun q o _ h => h, fun W2 ha hz hrec => ?_⟩
   have h2' := ha.hasO h2 (by omega)
   have h1' := ha.below h1 (by omega) h1.size
   have h3' := h3.alt ha (by omega) (fun g hg => by have := h4 g hg; omega)
   have h5' := ha.hasO h5 (by omega)
   have h6' := ha.hasO h6 (by omega)
   have h8' : ∀ p ∈ [(wa2.heap.size + 1, Obj.deferred (some []))], HasO W2 p.1 p.2 := fun p hp => ha.hasO (h8 p hp) (by have := (hLb p hp).1; omega)
   have haW := ha
   have hgk := hgbb.out (4 - k) (by omega)
   clear h1 h2 h3 h5 h6 h8 ha
   have hcv : [m.b0, m.b1, m.b2, m.b3, m.b4][4 - k]?.getD 0 = m.sb (4 - k) := by rcases five hk with rfl | rfl | rfl | rfl | rfl <;> rfl
   gi_wp2_with fail
   rw [hcv, pn_cut (by omega), show m.sb (4 - k) = ((m.sb (4 - k)).toNat : Int) by omega]
   refine ⟨trivial, (CallsIn.inRound _ (callsIn_wide.2 (Tryz.strings_Repeat _ _ _ (by omega) (by rw [str_size]; simp; omega)))).mono ?_⟩
   rintro e wb4 ⟨rfl, hb4⟩
   have h1' := below_call h1' h1'.size hb4
   have h2' := h2'.call hb4
   have h3' := h3'.call hb4
   have h5' := h5'.call hb4
   have h6' := h6'.call hb4
   rw [repeat_str]
   gi_wp2_with fail
   refine ⟨trivial, (CallsIn.inRound _ (callsIn_wide.2 (writeString_any (w.heap.size + 1) (w.heap.size + 1) v _ _ _ h3' ?hlb ?hlb2 h2'.lt))).mono ?_⟩
   case hlb => have := sideN_len hgbb.out (j := k) (by omega); simp [hd4]; omega
   case hlb2 => simp; omega
   rintro e wb5 ⟨rfl, v5, hB5, hg5⟩
   have hr5 : ∀ q, wb2.heap.size + 1 ≤ q ∧ q < c → v.ownBlock ≠ some q := fun q hq e => by have := h4 q e; omega
   have hkeep : ∀ q o, wb2.heap.size + 1 ≤ q ∧ q < c → HasO W2 q o → HasO wb5 q o := fun q o hq h => (h.call hb4).grow2 hg5 (by omega) (hr5 q hq)
   gi_wp2_with fail
   refine ⟨fun q o hq h => hkeep q o (by omega) h, hg5.below h1' h1'.size (by omega) (fun k e => by have := (h3'.own.lt _ e).1; omega), h2'.grow2 hg5 (by omega) (fun e => by have := (h3'.own.lt _ e).1; omega), ⟨v5, ?_, ?_⟩, h5'.grow2 hg5 ?_ ?_, h6'.grow2 hg5 (by omega) ?_, Nat.le_trans (Nat.le_trans (by omega) hb4.size) hg5.size, fun p hp => ((h8' p hp).call hb4).grow2 hg5 (hLb p hp).2.1 (own_ne h3'.own ((h8' p hp).call hb4) (hLb p hp).2.2)⟩
   ·have := hB5; rw [List.append_assoc] at this; exact this
   ·obtain ⟨r, hr⟩ := hrec
    exact (hT.turn (l := wb2.heap.size + 1 + 1) haW hr).not_row hkeep hB5.own (fun h => h)
   ·omega
   ·exact own_ne h3'.own h5' (by simp)
   ·exact own_ne h3'.own h6' (by simp)
  case hdoneb =>
   rintro c wz hc ⟨hbz, hMz, ⟨vz, hBz, h4⟩, h5, h6, h7, h8⟩ hDz
   simp only [World.size_alloc] at hDz hc ⊢
   replace hBz : Bld (w.heap.size + 1) (w.heap.size + 1) vz ((hd4 m ++ sideL m.sw) ++ sideL m.sb) wz := hBz
   gi_wp2_with fail
   rw [roundsIn_succ]
   have hDz1 := h8 (wa2.heap.size + 1, Obj.deferred (some [])) (by simp)
   have hE := hEb2 (wa2.heap.size + 1, Obj.deferred (some [])) (by simp)
   gi_wp2_with fail
   refine ⟨trivial, (callsIn_wide.2 (string_any (w.heap.size + 1) (w.heap.size + 1) vz _ wz hBz (by simp [hd4]))).mono ?_⟩
   rintro e wy ⟨rfl, hgy⟩
   have hDy1 : HasO wy (wa2.heap.size + 1) (.deferred (some [])) := hDz1.grow2 hgy (by simp; omega) (own_ne hBz.own hDz1 (by simp))
   have hDy2 := hDz.grow2 hgy (by have := hXb2.lt; omega) (own_ne hBz.own hDz (by simp))
   have hby := hgy.below hbz hbz.size (by omega) (fun k e => by have := (hBz.own.lt _ e).1; omega)
   gi_wp2_with fail
   refine ⟨by simp, .inl ⟨_, _, rfl, run_takeDeferred hDy2, by simp, .inl ⟨_, _, rfl, run_takeDeferred ((World.putObj_heap_other (k := wa2.heap.size + 1) (by have := hXb2.lt; omega)).trans hDy1), ?_⟩⟩⟩
   refine ⟨_, results_tmp rfl _ _ _, ret_v ?_, ?_⟩
   ·show Value.string _ = _
    rfl
   ·exact below_putObj (below_putObj hby (by have := hXb2.lt; omega) hby.size) (by omega) (by simpa using hby.size)


end Go.Proofs.YtddkhnnpeonbgaaGreatDoor
