import Derived.Test.YtddkhnnpeonbgaaGreatDoorH01
import Derived.Test.YtddkhnnpeonbgaaGreatDoorH09
import Derived.Test.YtddkhnnpeonbgaaGreatDoorH10
import Derived.Test.YtddkhnnpeonbgaaGreatDoorH14
import Derived.Laws.BitsAllLaws
namespace Go.Proofs.YtddkhnnpeonbgaaGreatDoor
open Go.RowKit
attribute [local go_sem] Oper.semAt_some

theorem ch_pos {n k : Nat} (h9 : 9 ≤ n) (hn : n ≤ 64) (hk : k ≤ 4) : 0 < ch n k := by
 have h : ∀ n, n < 65 → 9 ≤ n → ∀ k, k < 5 → 0 < ch n k := by decide +kernel
 exact h n (by omega) h9 k (by omega)
theorem countN_pos {m : Men} (h : validB m = true) : 0 < countN m := by
 have hs := validB_sq h
 have hp : ∀ k, k ≤ 10 → 0 < m.prod k := by
  intro k
  induction k with
  | zero => intro _; simp only [Men.prod]; exact Nat.mul_pos (Nat.mul_pos (by decide) (by omega)) (by omega)
  | succ k ih =>
   intro hk
   simp only [Men.prod]
   have := grp_bd (validB_ok h) (j := k) (by omega)
   exact Nat.mul_pos (ih (by omega)) (ch_pos hs.2.1 hs.2.2 (by omega))
 exact hp 10 (by omega)
theorem tabOk_facts {m : Men} {es : List Int} (h : tabOk m es = true) : validB m = true ∧ countN m = es.length ∧ 0 < es.length ∧ es.length ≤ 262144 ∧ ∀ x ∈ es, 0 ≤ x ∧ x ≤ 10002 := by
 simp only [tabOk, Bool.and_eq_true, decide_eq_true_eq, Bool.not_eq_true', List.any_eq_false] at h
 obtain ⟨⟨⟨h1, h2⟩, h3⟩, h4⟩ := h
 refine ⟨h1, h3, by have := countN_pos h1; omega, by omega, fun x hx => ?_⟩
 have := h4 x hx
 simp [badE] at this
 omega
theorem textL_len {m : Men} (h : validB m = true) : 6 ≤ (textL m).length ∧ (textL m).length ≤ 10 := by
 have h2 := tail_sum h
 have h3 := tailN_len (g := m.sw) 5
 have h4 := tailN_len (g := m.sb) 5
 simp only [textL, sideL, List.length_append, List.length_cons, List.length_nil]
 omega
theorem headL_len (m : Men) : (headL m).length = (textL m).length + 1 := by simp [headL]

def PackI (w : World) (m : Men) (es : List Int) (g o cp q bx D : Nat) (c k : Nat) (W : World) : Prop :=
 Below w.heap.size w W ∧ (∃ v, WrS w.heap.size q v (headL m ++ blocksL es k) [] W ∧ ∀ x, v.ownBlock = some x → x < D ∨ c ≤ x) ∧
 HasO W bx (.cells #[.slice (some ⟨g, o, none⟩) es.length cp] 42 (0, 0)) ∧ HasO W (bx + 1) (.cells #[.int .i64 32] 3 (0, 0)) ∧ c ≤ W.heap.size
theorem chunkL_len (es : List Int) (k : Nat) : (chunkL es k).length = min 32 (es.length - 32 * k) := by simp [chunkL]
theorem chunkL_get (es : List Int) (k : Nat) {j : Nat} (hj : j < (chunkL es k).length) : (chunkL es k)[j]?.getD 0 = es[32 * k + j]?.getD 0 := by
 rw [chunkL_len] at hj
 simp only [chunkL]
 rw [List.getElem?_take_of_lt (by omega), List.getElem?_drop]
theorem chunkL_mem {es : List Int} {k : Nat} {x : Int} (h : x ∈ chunkL es k) : x ∈ es := List.mem_of_mem_drop (List.mem_of_mem_take h)
theorem arr_chunk {W : World} {g o : Nat} {es : List Int} {k : Nat} (h : Arr .i16 W (some ⟨g, o, none⟩) es) (hk : k < nBlk es.length) : Arr .i16 W (some ⟨g, o + 32 * k, none⟩) (chunkL es k) := by
 have hlt : 32 * k < es.length := by unfold nBlk at hk; omega
 obtain ⟨b, o', e, hl, hc⟩ := h.at hlt
 injection e with e
 injection e with e1 e2
 subst e1; subst e2
 refine .inr ⟨g, o + 32 * k, rfl, hl, fun j hj => ?_⟩
 rw [chunkL_get es k hj, Nat.add_assoc]
 rw [chunkL_len] at hj
 exact hc (32 * k + j) (by omega)
theorem WrS.mk0 {base q : Nat} {v : Value} {pre : List Int} {w : World} (h1 : HasO w q (.cells #[v, .int .u32 0, .int .i64 0] 135 (0, 0))) (h2 : w.ownsRow base 5 1 v pre.length (pre.map (.int .u8))) : WrS base q v pre [] w := by
 refine ⟨h1, ?_⟩
 simpa [bytesN] using h2
theorem WrS.kept {base q : Nat} {v : Value} {pre bs : List Int} {w w' : World} (h : WrS base q v pre bs w) (h1 : ∀ o, HasO w q o → HasO w' q o) (h2 : ∀ g o, v.ownBlock = some g → HasO w g o → HasO w' g o) : WrS base q v pre bs w' := by
 refine ⟨h1 _ h.1, h.2.1, ?_⟩
 rcases h.2.2 with h3 | ⟨g, cap, cur, hv, hg, hh, r⟩
 ·exact .inl h3
 ·exact .inr ⟨g, cap, cur, hv, hg, h2 g _ (by rw [hv]; rfl) hh, r⟩
theorem WrS.own0 {base q : Nat} {v : Value} {pre : List Int} {w : World} (h : WrS base q v pre [] w) : w.ownsRow base 5 1 v pre.length (pre.map (.int .u8)) := by
 have := h.2
 simpa [bytesN] using this
theorem blockL_len {l : List Int} (hl : l.length ≤ 32) (hne : l ≠ []) (h : ∀ x ∈ l, 0 ≤ x ∧ x ≤ 10002) : (blockL l).length ≤ 59 := by
 have hb := low_bd hne h
 have hw := wid_le (n := highL l - lowL l) (by omega)
 have h1 := padN_lt (blkBits (lowL l) (widL l) l).length
 have h2 := blkBits_len (lowL l) (widL l) l
 simp only [blockL, List.length_append, List.length_cons, List.length_nil, bytesL, bytesN_len, padL_len]
 have h3 : l.length * widL l ≤ 32 * 14 := Nat.mul_le_mul hl hw
 omega
theorem blocksL_len (es : List Int) (k : Nat) (h : ∀ j, j < k → ∀ x ∈ es, 0 ≤ x ∧ x ≤ 10002) (hk : k ≤ nBlk es.length) : (blocksL es k).length ≤ 59 * k := by
 induction k with
 | zero => simp [blocksL]
 | succ k ih =>
  have h1 := ih (fun j hj => h j (by omega)) (by omega)
  have h2 : 0 < (chunkL es k).length := by rw [chunkL_len]; unfold nBlk at hk; omega
  have h3 := blockL_len (l := chunkL es k) (by rw [chunkL_len]; omega) (by intro e; rw [e] at h2; simp at h2) (fun x hx => h k (by omega) x (chunkL_mem hx))
  simp only [blocksL, List.length_append]
  omega
theorem WrS.call {base q : Nat} {v : Value} {pre bs : List Int} {w w' : World} (h : WrS base q v pre bs w) (hb : Below w.heap.size w w') : WrS base q v pre bs w' :=
 h.kept (fun _ ho => ho.call hb) (fun _ _ _ ho => ho.call hb)
theorem WrS.alt {base q lo hi : Nat} {v : Value} {pre bs : List Int} {w w' : World} (h : WrS base q v pre bs w) (ha : Alt lo hi w w') (hq : q < lo ∨ hi ≤ q) (hv : ∀ g, v.ownBlock = some g → g < lo ∨ hi ≤ g) : WrS base q v pre bs w' :=
 h.kept (fun _ ho => ha.hasO ho hq) (fun g _ hg ho => ha.hasO ho (hv g hg))

set_option maxHeartbeats 2000000 in
set_option maxRecDepth 100000 in
theorem pack_any (m : Men) (g o c : Nat) (es : List Int) (w : World) (hok : tabOk m es = true) (hx : Arr .i16 w (some ⟨g, o, none⟩) es) (hc : es.length ≤ c) :
  Calls Tryz.prog 32 #[.agg (tabCs m (some ⟨g, o, none⟩) es.length c).toArray] w fun e w' => ∃ v, e = .returned v ∧ w'.ownsRow w.heap.size 5 1 v (packL m es).length ((packL m es).map (.int .u8)) ∧ Below w.heap.size w w' := by
 obtain ⟨i0, hi0, hz0, hz1, hz2⟩ := info_parts Tryz.info5
 obtain ⟨hv, hcnt, hpos, hle, hent⟩ := tabOk_facts hok
 have hT := HasO.new w (.cells (tabCs m (some ⟨g, o, none⟩) es.length c).toArray 44)
 have hb := below_box w (.cells (tabCs m (some ⟨g, o, none⟩) es.length c).toArray 44)
 have htl := textL_len hv
 have htv : (if validB m = true then #[Value.string (str (textL m)), .int .i64 0] else #[.string (str []), .int .i64 2]) = #[Value.string (str (textL m)), .int .i64 0] := by rw [if_pos hv]
 replace htv := Lib.hid htv
 refine (callsIn_wide (n := 3)).1 ?_
 refine callsIn_of_wp_marks Tryz.func32 rfl trivial ?_ rfl
 simp only [Tryz.ntmps32, List.size_toArray, List.length_cons, List.length_nil, Nat.reduceAdd, Nat.reduceSub, Array.replicate_succ, Array.replicate_zero, List.push_toArray, List.append_toArray, List.nil_append, List.cons_append]
 gi_wp2_with fail
 refine ⟨trivial, (callsIn_wide.2 (Text_any m _)).mono ?_⟩
 rintro e w1 ⟨rfl, hb1⟩
 rw [htv.out]
 have hT1 := hT.call hb1
 have hbw1 := below_call hb (by simp) hb1
 clear hT hb hb1
 have hsz : (str (textL m)).size = (textL m).length := str_size _
 have ht10 : ((textL m).length : Int) ≤ 10 := by omega
 have hcT := hT1.cells
 have hlT := hT1.lt
 have hown0 := own_new w1 w.heap.size 5 [.int .u8 ((textL m).length : Int)] hbw1.size (by simp [maxLen])
 have hT2 := hT1.alloc (.cells #[.int .u8 ((textL m).length : Int)] 5)
 have hbw2 := hbw1.alloc hbw1.size (.cells #[.int .u8 ((textL m).length : Int)] 5)
 have hsb : w.heap.size ≤ (w1.alloc (.cells #[.int .u8 ((textL m).length : Int)] 5)).heap.size := by simp; omega
 gi_wp2_with (gi_at_builtin; refine wpListIn_str _ rfl _ _ 22 9 rfl w.heap.size 5 i0 Tryz.underlying22 Tryz.underlying9 hi0 hz0 hz1 hz2 _ _ _ rfl hown0 (str (textL m)) rfl ?_ ?_ hsb ?_)
 ·rw [hsz]; simp only [List.length_cons, List.length_nil, maxLen]; omega
 ·rw [hsz]; simp only [List.length_cons, List.length_nil]; omega
 intro v2 w2 hown2 hg2
 have hT3 := hT2.grown hg2 (by simp only [Value.ownBlock]; intro e; injection e; omega)
 have hbw3 := hbw2.grown hg2 (by simp; omega) (fun j e => by simp only [Value.ownBlock] at e; injection e; omega)
 have hown3 : w2.ownsRow w.heap.size 5 1 v2 (headL m).length ((headL m).map (.int .u8)) := by
  have e1 : (headL m).map (Value.int .u8) = .int .u8 ((textL m).length : Int) :: Lib.strCells (str (textL m)) := by
   simp [headL, Lib.strCells, str]
  rw [e1, headL_len, Nat.add_comm]; exact hown2
 clear hT1 hbw1 hT2 hbw2 hown0 hown2 hg2 hsb hcT hlT
 obtain ⟨up, un, uc, rfl⟩ := own_slice hown3
 have hq2 := hT3.lt
 have hcT := hT3.cells
 have hz3 := hbw3.size
 gi_wp2_with fail
 have hT4 := hT3.alloc (.cells #[.slice up un uc, .int .u32 0, .int .i64 0] 135)
 have hbw4 := hbw3.alloc hz3 (.cells #[.slice up un uc, .int .u32 0, .int .i64 0] 135)
 have hWr : WrS w.heap.size w2.heap.size (.slice up un uc) (headL m) [] (w2.alloc (.cells #[.slice up un uc, .int .u32 0, .int .i64 0] 135)) :=
  WrS.mk0 (HasO.new' _ _ rfl) (own_call hown3 (below_box _ _))
 have hvl : ∀ x, (Value.slice up un uc).ownBlock = some x → x < w2.heap.size := fun x e => (hown3.lt x e).2
 refine ⟨trivial, (callsIn_wide.2 (chunk_any g o es.length c _)).mono ?_⟩
 rintro e w5 ⟨rfl, hb5, hX5, hY5⟩
 simp only [World.size_alloc] at hX5 hY5 ⊢
 have hT5 := hT4.call hb5
 have hWr5 := hWr.call hb5
 have hbw5 := below_call hbw4 hbw4.size hb5
 have hqz : w2.heap.size + 2 < w5.heap.size := hY5.lt
 have hqw : w.heap.size ≤ w2.heap.size := hz3
 clear hT3 hbw3 hown3 hcT hT4 hbw4 hWr hb5
 replace hqw := Lib.hid hqw
 gi_wp2_with fail
 refine rangeFunc_law (gf := 113) (lb := #[.pointer (some ⟨w2.heap.size + 1, 0, none⟩), .pointer (some ⟨w2.heap.size + 1 + 1, 0, none⟩)]) rfl (enters_of Tryz.func113 (by kernel_rfl) rfl)
  (chunk_seq (w2.heap.size + 1) (w2.heap.size + 1 + 1) g o es.length c (by omega) hc) (fun _ _ => rfl)
  (fun cc k W => PackI w m es g o c w2.heap.size (w2.heap.size + 1) w5.heap.size cc k W) (fun _ _ _ _ => False) ?hst ?hstx ?hRd ?hsz ?hszx ?h0 ?hbody ?hdone ?hstop ?hpanic
 case hstx => intro _ _ _ _ _ _ h; exact h.elim
 case hszx => intro _ _ _ _ _ h; exact h.elim
 case hstop => intro _ _ _ _ _ _ h; exact h.elim
 case hpanic => intro _ _ _ _ _ h; exact h.elim
 case hsz => intro cc k W _ h; exact h.2.2.2.2
 case hst =>
  rintro cc k W W' hcc ⟨h1, ⟨v, h2, h3⟩, h4, h5, h6⟩ ha
  have hqw := hqw.out
  exact ⟨ha.below h1 (by omega) h1.size, ⟨v, h2.alt ha (by omega) h3, h3⟩, ha.hasO h4 (by omega), ha.hasO h5 (by omega), Nat.le_trans h6 ha.size⟩
 case hRd =>
  rintro cc k W hcc ⟨_, _, h4, h5, _⟩
  exact ⟨h4.cells 0, h5.cells 0⟩
 case h0 =>
  intro cc W hb hcc hz
  exact ⟨below_call hbw5 hbw5.size hb, ⟨_, by simpa [blocksL] using hWr5.call hb, fun x e => .inl (by have := hvl x e; omega)⟩, hX5.call hb, hY5.call hb, by omega⟩
 case hbody =>
  rintro cc k W hcc hk ⟨h1, ⟨v, h2, h3⟩, h4, h5, h6⟩ hT
  have hqw := hqw.out
  unfold chunkE
  gi_wp2_with fail
  refine ⟨fun q o _ h => h, fun W2 ha hz hrec => ?_⟩
  have h1' := ha.below h1 (by omega) h1.size
  have h2' := h2.alt ha (by omega) (fun x e => by have := h3 x e; omega)
  have h4' := ha.hasO h4 (by omega)
  have h5' := ha.hasO h5 (by omega)
  have hsz2 := ha.size
  replace hz := Lib.hid hz
  clear h1 h2 h4 h5 ha
  have hxW := arr_chunk (hx.call h1') hk
  have hcl := chunkL_len es k
  have hkn : 32 * k < es.length := by have : k < nBlk es.length := hk; unfold nBlk at this; omega
  have hxb : ∀ x ∈ chunkL es k, 0 ≤ x ∧ x ≤ 10002 := fun x hx => hent x (chunkL_mem hx)
  have hxne : 0 < (chunkL es k).length := by omega
  have hxle : (chunkL es k).length ≤ 32 := by omega
  rw [← hcl]
  have hbl : blocksL es (k + 1) = blocksL es k ++ blockL (chunkL es k) := rfl
  replace hbl := Lib.hid hbl
  replace hcl := Lib.hid hcl
  obtain ⟨b1, b2, b3, b4, b5, b6⟩ := low_bd (l := chunkL es k) (by intro e; rw [e] at hxne; simp at hxne) hxb
  generalize hxs : chunkL es k = xs at *
  replace hxs := Lib.hid hxs
  gi_wp2_with fail
  refine ⟨trivial, (CallsIn.inRound _ (callsIn_wide.2 (min_any _ _ xs _ hxW (by omega) hxne))).mono ?_⟩
  rintro e w6 ⟨rfl, rfl⟩
  gi_wp2_with fail
  refine ⟨trivial, (CallsIn.inRound _ (callsIn_wide.2 (max_any _ _ xs _ hxW (by omega) hxne))).mono ?_⟩
  rintro e w7 ⟨rfl, rfl⟩
  obtain ⟨lo, hlo⟩ : ∃ x, x = lowL xs := ⟨_, rfl⟩
  obtain ⟨hi, hhi⟩ : ∃ x, x = highL xs := ⟨_, rfl⟩
  rw [← hlo, ← hhi]
  rw [← hlo] at b1 b2 b5 b6
  rw [← hhi] at b3 b4 b5 b6
  replace hlo := Lib.hid hlo
  replace hhi := Lib.hid hhi
  gi_wp2_with fail
  refine ⟨trivial, (CallsIn.inRound _ (callsIn_wide.2 (len16_any (hi - lo) (by omega) (by omega) _))).mono ?_⟩
  rintro e w8 ⟨rfl, rfl⟩
  obtain ⟨wd, hwd⟩ : ∃ x, x = wid (hi - lo) := ⟨_, rfl⟩
  rw [← hwd]
  have hwd14 : wd ≤ 14 := by rw [hwd]; exact wid_le (by omega)
  have hwp : hi - lo < 2 ^ wd := by rw [hwd]; exact wid_pow (by omega) (by omega)
  have hwi : (wd : Int) ≤ 14 := by omega
  replace hwd := Lib.hid hwd
  replace hwp := Lib.hid hwp
  obtain ⟨vp, vn, vc, rfl⟩ := own_slice h2'.2
  have hq2' := h2'.1
  have hown2' := h2'.own0
  have hpl : (headL m ++ blocksL es k).length ≤ 3000000 := by
   rw [List.length_append, headL_len]
   have := blocksL_len es k (fun j hj => hent) (Nat.le_of_lt hk)
   have : nBlk es.length ≤ 8193 := by unfold nBlk; omega
   have : k < nBlk es.length := hk
   omega
  obtain ⟨pre, hpre⟩ : ∃ x, x = headL m ++ blocksL es k := ⟨_, rfl⟩
  rw [← hpre] at h2' hown2' hpl
  replace hpre := Lib.hid hpre
  have c0 := hq2'.cells 0
  have hlq := hq2'.lt
  have hP0 : Put2 w2.heap.size (Value.slice vp vn vc) w8 (w8.alloc (.cells [Value.int .u8 (wd : Int), .int .u8 (lo / 256), .int .u8 (lo % 256)].toArray 5)) := (Put2.refl _ _ _).alloc _
  have hbW : w.heap.size ≤ w8.heap.size := h1'.size
  have hqA := hq2'.alloc (.cells [Value.int .u8 (wd : Int), .int .u8 (lo / 256), .int .u8 (lo % 256)].toArray 5)
  have hneq := own_ne h2'.2 hq2' (by simp)
  gi_wp2_with (gi_at_builtin; refine wpListIn_push_at rfl (.tmp 37) (.tmp 45) 22 rfl w.heap.size 5 i0 (.int .u8 0) 1 Tryz.underlying22 hi0 hz0 hz1 hz2 rfl (.slice vp vn vc) pre.length (pre.map (.int .u8)) rfl hown2' 3 [Value.int .u8 (wd : Int), .int .u8 (lo / 256), .int .u8 (lo % 256)] rfl ?_ _ rfl rfl ?_ hbW ?_)
  ·intro u hu; simp at hu; rcases hu with rfl | rfl | rfl <;> rfl
  ·omega
  intro v9 w9 hown9 hg9 hnear9
  have hP9 := hP0.grown (Near.refl _ _) hg9
  have hq9 := hqA.grown hg9 (fun e => hneq (by rw [e]))
  rw [show pre.map (Value.int .u8) ++ [Value.int .u8 (wd : Int), .int .u8 (lo / 256), .int .u8 (lo % 256)] = (pre ++ [(wd : Int), lo / 256, lo % 256]).map (.int .u8) by simp] at hown9
  obtain ⟨vp9, vn9, vc9, rfl⟩ := own_slice hown9
  have hne9 := own_ne hown9 hq9 (by simp)
  have hqS := hq9.set_ 0 (.slice vp9 vn9 vc9)
  have hPS := hP9.setCell 0 (.slice vp9 vn9 vc9)
  have hownS : (w9.setCell ⟨w2.heap.size, 0, none⟩ (.slice vp9 vn9 vc9)).ownsRow w.heap.size 5 1 (.slice vp9 vn9 vc9) (pre ++ [(wd : Int), lo / 256, lo % 256]).length ((pre ++ [(wd : Int), lo / 256, lo % 256]).map (.int .u8)) := by
   rw [List.length_append]
   refine hown9.kept (row := some w2.heap.size) ⟨rfl, rfl, rfl, by simp [World.setCell], fun k hk hkq => ?_⟩ (.inr hne9)
   rw [Below.heap_setCell _ _ _ _ (fun e => hkq (by rw [e]))]
  have hWrS := WrS.mk0 hqS hownS
  have c9 := hq9.cells 0
  have f9 := hq9.frozen
  have hl9 := hq9.lt
  clear c0 hlq hqA hq2' hown2' hownS hqS hP0
  gi_wp2_with fail
  have hNS : Near w8 (Value.slice vp vn vc) (Value.slice vp9 vn9 vc9) := hnear9
  have hvb : ∀ x, (Value.slice vp vn vc).ownBlock = some x → w.heap.size ≤ x := fun x e => (h2'.own0.lt x e).1
  generalize w9.setCell ⟨w2.heap.size, 0, none⟩ (.slice vp9 vn9 vc9) = wS at *
  clear hP9 hq9 c9 f9 hl9 hown9 hg9 hne9 hnear9 hneq
  have hxle' : (xs.length : Int) ≤ 32 := by omega
  gi_loopw [50] (fun iv wr => ∃ (j : Nat) (v' : Value), j ≤ xs.length ∧ iv = .int .i64 j ∧ WrS w.heap.size w2.heap.size v' (pre ++ [(wd : Int), lo / 256, lo % 256]) (blkBits lo wd (xs.take j)) wr ∧ Put2 w2.heap.size (Value.slice vp vn vc) w8 wr ∧ Near w8 (Value.slice vp vn vc) v')
   (fun iv wr => ((xs.length : Int) - intOf iv).toNat)
  case atStart => exact ⟨0, _, Nat.zero_le _, rfl, by simpa [blkBits] using hWrS, hPS, hNS⟩
  case round =>
   clear hWrS hPS hNS
   obtain ⟨j, v', hj, rfl, hWr, hP, hN⟩ := hrel
   have hbr := hP.below h1' h1'.size hqw hvb
   by_cases hlt : j < xs.length
   ·have hjj : (j : Int) < xs.length := by omega
    obtain ⟨gb, go', ea, hgl, hcc⟩ := (arr_chunk (hx.call hbr) hk).at (i := j) (by rw [hxs.out]; exact hlt)
    injection ea with ea
    injection ea with ea1 ea2
    subst ea1; subst ea2
    have hcj := hcc j (by rw [hxs.out]; exact hlt)
    rw [hxs.out] at hcj
    obtain ⟨x, hxv⟩ : ∃ x, x = xs[j]?.getD 0 := ⟨_, rfl⟩
    rw [← hxv] at hcj
    have hget : x = xs[j] := by rw [hxv]; simp [hlt]
    have hx6 := b6 x (by rw [hget]; exact List.getElem_mem hlt)
    have hst : Hid (blkBits lo wd (xs.take j) ++ bitsI wd (x - lo) = blkBits lo wd (xs.take (j + 1))) := Lib.hid (by
     rw [List.take_succ_eq_append_getElem hlt, blkBits_append, hget]; simp [blkBits])
    have hx7 : x - lo < 2 ^ wd := by have := hwp.out; omega
    have hbl2 : (blkBits lo wd (xs.take j)).length ≤ 32 * 14 := by
     rw [blkBits_len]; exact Nat.mul_le_mul (by simp; omega) hwd14
    clear hcc hxv hget
    replace hx7 := Lib.hid hx7
    gi_wp2_with fail
    refine ⟨trivial, (CallsIn.inRound _ (callsIn_wide.2 (put_any w.heap.size w2.heap.size v' _ _ (x - lo) wd _ hWr (blkBits_bits _ _ _) (by omega) hx7.out hwd14 hbr.size (by rw [List.length_append]; simp only [List.length_cons, List.length_nil]; omega)))).mono ?_⟩
    rintro e wp ⟨v'', rfl, hW2, hP2, hN2⟩
    rw [hst.out] at hW2
    gi_wp2_with fail
    go_roundw
    case rel => exact ⟨j + 1, v'', by omega, by go_num, hW2, hP.trans hN hP2, hN.trans hN2 hP.size⟩
    case measure => simp [intOf]; omega
   ·obtain rfl : j = xs.length := by omega
    have hjj : ¬ ((xs.length : Nat) : Int) < xs.length := by omega
    rw [List.take_length] at hWr
    have hbl2 : (blkBits lo wd xs).length ≤ 32 * 14 := by
     rw [blkBits_len]; exact Nat.mul_le_mul (by omega) hwd14
    gi_wp2_with fail
    refine ⟨trivial, (CallsIn.inRound _ (callsIn_wide.2 (end_any w.heap.size w2.heap.size v' _ _ _ hWr (blkBits_bits _ _ _) hbr.size (by rw [List.length_append]; simp only [List.length_cons, List.length_nil]; omega)))).mono ?_⟩
    rintro e wp ⟨v'', rfl, hW2, hP2, hN2⟩
    have hPf := hP.trans hN hP2
    have hNf := hN.trans hN2 hP.size
    have hcell := hsz2
    gi_wp2_with fail
    have hkeep : ∀ q' o', w5.heap.size ≤ q' ∧ q' < cc → HasO w8 q' o' → HasO wp q' o' := fun q' o' hq' ho' => hPf.hasO ho' (by omega) (fun e => by have := h3 q' e; omega)
    refine ⟨fun q' o' hq' ho' => hkeep q' o' (by omega) ho', hPf.below h1' h1'.size hqw hvb, ⟨v'', ?_, fun x e => ?_⟩, hPf.hasO h4' (by omega) (own_ne h2'.2 h4' (by simp)), hPf.hasO h5' (by omega) (own_ne h2'.2 h5' (by simp)), Nat.le_trans (Nat.le_trans h6 hsz2) hPf.size⟩
    ·rw [hbl.out, ← List.append_assoc, ← hpre.out]
     have e2 : blockL xs = [(wd : Int), lo / 256, lo % 256] ++ bytesL (blkBits lo wd xs) := by
      unfold blockL widL
      rw [← hlo.out, ← hhi.out, ← hwd.out]
     rw [e2, ← List.append_assoc]
     exact hW2
    ·rcases hNf x e with h7 | h7
     ·exact h3 x h7
     ·right; omega
 case hdone =>
  rintro cc W hcc ⟨h1, ⟨v, h2, h3⟩, h4, h5, h6⟩ hD
  obtain ⟨vp, vn, vc, rfl⟩ := own_slice h2.2
  have c0 := h2.1.cells 0
  have hlq := h2.1.lt
  gi_wp2_with fail
  refine ⟨by simp, .inl ⟨_, _, rfl, run_takeDeferred hD, ?_⟩⟩
  have hqw := hqw.out
  refine ⟨_, results_tmp rfl _ _ _, .slice vp vn vc, rfl, ?_, ?_⟩
  ·have hne := own_ne h2.own0 hD (by simp)
   refine h2.own0.kept (row := some w5.heap.size) ⟨rfl, rfl, rfl, by simp, fun k hk hkq => ?_⟩ (.inr hne)
   exact World.putObj_heap_other (fun e => hkq (by rw [e]))
  ·exact below_putObj h1 (by omega) h1.size
end Go.Proofs.YtddkhnnpeonbgaaGreatDoor
namespace Go.Proofs.YtddkhnnpeonbgaaGreatDoor
open Go.RowKit

def PackR (base : Nat) (m : Men) (es : List Int) (v : Value) (w : World) : Prop :=
 (tabOk m es = true → w.ownsRow base 5 1 v (packL m es).length ((packL m es).map (.int .u8))) ∧ (tabOk m es = false → v = .slice none 0 0)

theorem Pack_any (m : Men) (p : Option Addr) (c : Nat) (es : List Int) (w : World) (hx : Arr .i16 w p es) (hl : es.length ≤ 1000000000) (hc : es.length ≤ c) :
  Calls Tryz.prog 11 #[.agg (tabCs m p es.length c).toArray] w fun e w' => (∃ v, e = .returned (.tuple #[v, .int .i64 (okErr (tabOk m es))]) ∧ PackR w.heap.size m es v w') ∧ Below w.heap.size w w' := by
 have hT : HasO (w.alloc (.cells (tabCs m p es.length c).toArray 44)) w.heap.size (.cells (tabCs m p es.length c).toArray 44 (0, 0)) := HasO.new _ _
 have hb0 := below_box w (.cells (tabCs m p es.length c).toArray 44)
 have hx0 := hx.call hb0
 go_enter Tryz.func11, Tryz.ntmps11
 go_wp2_with fail
 refine (tally_any m p c es _ hx0 hl).mono ?_
 rintro e w1 ⟨⟨a1, a2, a3, a4, rfl⟩, hb1⟩
 have hT1 := hT.call hb1
 have hb2 := below_call hb0 (by simp) hb1
 have hx1 := hx0.call hb1
 have hc1 := hT1.cells
 have hlt := hT1.lt
 clear hT hb0 hx0 hb1
 rcases hok : tabOk m es with _ | _
 ·have hv := Lib.hid hok
  simp only [okErr]
  go_wp2_with fail
  go_ret2
  exact ⟨⟨_, by first | rfl | (rw [hv.out]; rfl), fun h => (by rw [hv.out] at h; cases h), fun _ => rfl⟩, hb2⟩
 ·have hv := Lib.hid hok
  obtain ⟨b, o, rfl, hbl, _⟩ := hx1.at (tabOk_facts hv.out).2.2.1
  simp only [okErr]
  go_wp2_with fail
  refine (pack_any m b o c es _ hv.out hx1 hc).mono ?_
  rintro e w2 ⟨v, rfl, hown, hb3⟩
  have hb4 := below_call hb2 hb2.size hb3
  have hown2 := own_mono hown hb2.size
  go_wp2_with fail
  go_ret2
  exact ⟨⟨v, by first | rfl | (rw [hv.out]; rfl), fun _ => hown2, fun h => (by rw [hv.out] at h; cases h)⟩, hb4⟩

end Go.Proofs.YtddkhnnpeonbgaaGreatDoor
namespace Go.Proofs.YtddkhnnpeonbgaaGreatDoor
open Go.RowKit

def badP : List PanicEntry := [{ v := .iface 31 (.int .i64 6), recovered := false }]
theorem must_ok (w : World) : Calls Tryz.prog 93 #[.bool true] w fun e w' => e = .returned (.tuple #[]) ∧ w = w' := by
 go_enter Tryz.func93, Tryz.ntmps93
 go_wp2
 go_end0
 exact ⟨rfl, rfl⟩
theorem must_bad (w : World) : Calls Tryz.prog 93 #[.bool false] w fun e w' => e = .panicked badP ∧ w = w' := by
 go_enter Tryz.func93, Tryz.ntmps93
 go_wp2
 exact ⟨rfl, rfl, rfl⟩

def adv (a n c : Nat) : Nat := if n = c then a else a + n
theorem take_ok (q g a l c n : Nat) (w : World) (h : HasO w q (.cells #[.slice (some ⟨g, a, none⟩) l c] 22 (0, 0))) (hn : n ≤ l) (hl : l ≤ c) :
  Calls Tryz.prog 91 #[.pointer (some ⟨q, 0, none⟩), .int .i64 n] w fun e w' => e = .returned (.slice (some ⟨g, a, none⟩) n c) ∧ w' = w.setCell ⟨q, 0, none⟩ (.slice (some ⟨g, adv a n c, none⟩) (l - n) (c - n)) := by
 have h0 := h.cells 0
 have hf := h.frozen
 have hlt := h.lt
 have h1 : (n : Int) ≤ l := by omega
 have h2 : (l : Int) ≤ c := by omega
 have h3 : (n : Int) ≤ c := by omega
 go_enter Tryz.func91, Tryz.ntmps91
 go_wp2_with fail
 refine (must_ok _).mono ?_
 rintro e w1 ⟨rfl, rfl⟩
 go_wp2_with fail
 all_goals
  go_ret
  refine ⟨rfl, ?_⟩
  congr
  unfold adv
  simp [*]
  try omega
theorem take_bad (q g a l c n : Nat) (w : World) (h : HasO w q (.cells #[.slice (some ⟨g, a, none⟩) l c] 22 (0, 0))) (hn : ¬ n ≤ l) :
  Calls Tryz.prog 91 #[.pointer (some ⟨q, 0, none⟩), .int .i64 n] w fun e w' => e = .panicked badP ∧ w = w' := by
 have h0 := h.cells 0
 have hf := h.frozen
 have hlt := h.lt
 have h1 : ¬ (n : Int) ≤ l := by omega
 go_enter Tryz.func91, Tryz.ntmps91
 go_wp2_with fail
 refine (must_bad _).mono ?_
 rintro e w1 ⟨rfl, rfl⟩
 exact ⟨rfl, rfl, rfl⟩
theorem take_nil (q l c n : Nat) (w : World) (h : HasO w q (.cells #[.slice none l c] 22 (0, 0))) (hn : ¬ n ≤ l) :
  Calls Tryz.prog 91 #[.pointer (some ⟨q, 0, none⟩), .int .i64 n] w fun e w' => e = .panicked badP ∧ w = w' := by
 have h0 := h.cells 0
 have hf := h.frozen
 have hlt := h.lt
 have h1 : ¬ (n : Int) ≤ l := by omega
 go_enter Tryz.func91, Tryz.ntmps91
 go_wp2_with fail
 refine (must_bad _).mono ?_
 rintro e w1 ⟨rfl, rfl⟩
 exact ⟨rfl, rfl, rfl⟩

abbrev blkCs (wd : Nat) (low : Int) (p : Option Addr) (nb cp many : Nat) : List Value := [.int .i64 wd, .int .u16 low, .slice p nb cp, .int .i64 many]
def BytesAt (w : World) (g o : Nat) (bs : List Int) (a nb : Nat) : Prop := ∀ j, j < nb → w.cell? ⟨g, o + j, none⟩ = some (.int .u8 (atv bs (a + j)))
theorem u16_or1 (d b : Int) (h0 : 0 ≤ d) (h1 : d < 16384) (hb : 0 ≤ b ∧ b ≤ 1) : bits .or .u16 (2 * d) b = 2 * d + b := by
 obtain ⟨n, rfl⟩ := Int.eq_ofNat_of_zero_le h0
 rw [u16_or _ _ (by omega) (by omega) (by omega) (by omega)]
 have h2 : (2 * (n : Int)).toNat = n <<< 1 := by rw [Nat.shiftLeft_eq]; omega
 have h3 : b.toNat < 2 ^ 1 := by omega
 rw [h2, ← Nat.shiftLeft_add_eq_or_of_lt h3, Nat.shiftLeft_eq]
 omega
theorem bit_step {bs : List Int} {a k : Nat} (hb : 0 ≤ atv bs (a + k / 8) ∧ atv bs (a + k / 8) < 256) : bitB bs a k = IntKind.u16.wrap (bits .and .u8 (atv bs (a + k / 8) / 2 ^ (7 - k % 8)) 1) := by
 have h1 : 0 ≤ atv bs (a + k / 8) / 2 ^ (7 - k % 8) := Int.ediv_nonneg hb.1 (by have := pow_pos2 (7 - k % 8); omega)
 have h2 : atv bs (a + k / 8) / 2 ^ (7 - k % 8) < 256 := by
  have := Int.ediv_le_self (b := 2 ^ (7 - k % 8)) hb.1
  omega
 unfold bitB
 generalize atv bs (a + k / 8) / 2 ^ (7 - k % 8) = x at *
 obtain ⟨n, rfl⟩ := Int.eq_ofNat_of_zero_le h1
 have h3 := u8_and_nat n 1 (by omega) (by omega)
 rw [show (((1 : Nat) : Int)) = 1 from rfl] at h3
 rw [h3, Nat.and_one_is_mod, IntWalk.u16_in _ (by omega)]
 omega
theorem ret_i16 (x : Int) : Ending.returned (.int .i16 (IntKind.i16.wrap (IntKind.u16.wrap x))) = .returned (.int .i16 (i16of x)) := by
 have e : IntKind.i16.wrap (IntKind.u16.wrap x) = i16of x := by
  rw [IntKind.wrap_u16]
  unfold i16of
  simp only [IntKind.wrap, IntKind.bits, IntKind.signed]
  simp
  split <;> split <;> omega
 rw [e]
theorem get_any (wd nb cp many g o n : Nat) (low : Int) (bs : List Int) (a : Nat) (w : World) (hbs : isBytes bs) (hg : g < w.heap.size) (hb : BytesAt w g o bs a nb) (hw : wd ≤ 14) (hn : (n + 1) * wd ≤ 8 * nb) (hn2 : n ≤ 1000) (_hl : 0 ≤ low ∧ low < 65536) :
  Calls Tryz.prog 23 #[.agg (blkCs wd low (some ⟨g, o, none⟩) nb cp many).toArray, .int .i64 n] w fun e w' => e = .returned (.int .i16 (i16of (low + difB bs a (n * wd) wd))) ∧ Below w.heap.size w w' := by
 have hbx := below_box w (.cells (blkCs wd low (some ⟨g, o, none⟩) nb cp many).toArray 70)
 have hw1 : (wd : Int) ≤ 14 := by omega
 have hn1 : (n : Int) ≤ 1000 := by omega
 have hm0 : n * wd ≤ 1000 * 14 := Nat.mul_le_mul hn2 hw
 have hm : (n : Int) * wd = ((n * wd : Nat) : Int) := by simp
 have hm1 : ((n : Int) + 1) * wd = (n : Int) * wd + wd := by rw [Int.add_mul]; omega
 replace hm := Lib.hid hm
 go_enter Tryz.func23, Tryz.ntmps23
 go_wp2_with fail
 go_loop [5, 6] (fun d i => ∃ j k : Nat, Hid (k = n * wd + j) ∧ j ≤ wd ∧ i = .int .i64 k ∧ d = .int .u16 (difB bs a (n * wd) j)) (fun _ i => ((n * wd + wd : Nat) - intOf i).toNat)
 case atStart => exact ⟨0, n * wd, rfl, by omega, by rw [hm.out], rfl⟩
 case round =>
  obtain ⟨j, k, hk, hj, rfl, rfl⟩ := hrel
  have hd := difB_small bs a (n * wd) (j := j) (by omega)
  have hkb : (k : Int) ≤ 100000 := by have := hk.out; omega
  by_cases hlt : j < wd
  ·have ht : (k : Int) < (n : Int) * wd + wd := by rw [hm.out]; have := hk.out; omega
   have hq : k / 8 < nb := by
    have h1 := hk.out
    have h2 : (n + 1) * wd = n * wd + wd := by rw [Nat.add_mul]; omega
    omega
   have hq2 : (k : Int) / 8 < nb := by omega
   have hcell := hb (k / 8) hq
   have hcb := atv_bd hbs (a + k / 8)
   clear hn
   go_wp2_with fail
   go_round
   case rel =>
    refine ⟨j + 1, k + 1, ?_, by omega, by go_num, ?_⟩
    ·have := hk.out; exact Lib.hid (by omega)
    ·rw [← bit_step hcb]
     have hk := hk.out
     rw [difB_succ, ← hk, Int.mul_comm _ 2]
     exact congrArg _ (u16_or1 _ _ hd.1 hd.2 (bitB_bd bs a k))
   case measure =>
    have hk := hk.out
    clear ht hm1
    simp only [intOf]
    omega
  ·have ht : ¬ (k : Int) < (n : Int) * wd + wd := by rw [hm.out]; have := hk.out; omega
   go_wp2_with fail
   go_ret
   refine ⟨?_, hbx⟩
   have : j = wd := by omega
   subst this
   exact ret_i16 _
end Go.Proofs.YtddkhnnpeonbgaaGreatDoor
