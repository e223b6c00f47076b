import Derived.Test.YtddkhnnpeonbgaaW26
import Derived.Test.YtddkhnnpeonbgaaK11
namespace Go.Proofs.Ytddkhnnpeonbgaa
open Go.RowKit
attribute [local go_sem] Oper.semAt_some

/-- the cells of the first k blocks -/
def blkCells (bs : List Int) (g o c n : Nat) : Nat → List Value
  | 0 => []
  | k + 1 => blkCells bs g o c n k ++ blkCs (widB bs n k) (lowB bs n k) (some ⟨g, blkOff bs o c n k, none⟩) (nbB bs n k) (c - posB bs n k - 3) (manyB n k)
theorem Try.info76 : (Try.prog.info? 76).map (fun i => (i.zero, i.size, i.bytes)) = some (some (.agg #[.int .i64 0, .int .u16 0, .slice none 0 0, .int .i64 0]), 4, 48) := by kernel_rfl
theorem BlkRd.below {q1 q2 g o a c n : Nat} {bs : List Int} {w W : World} (h : BlkRd q1 q2 g o a c n bs w) (hb : Below w.heap.size w W) : BlkRd q1 q2 g o a c n bs W := by
  obtain ⟨h1, h2, h3, h4⟩ := h
  refine ⟨?_, ?_, Nat.lt_of_lt_of_le h3 hb.size, fun j hj => ?_⟩
  · rw [hb.cell (p := ⟨q1, 0, none⟩) (block_lt_of_cell h1)]; exact h1
  · rw [hb.cell (p := ⟨q2, 0, none⟩) (block_lt_of_cell h2)]; exact h2
  · rw [hb.cell (p := ⟨g, o + j, none⟩) h3]; exact h4 j hj

/-- what Collect gives -/
def CollR (w : World) (g o c n : Nat) (bs : List Int) (e : Ending) (w' : World) : Prop :=
  Below w.heap.size w w' ∧ ((bodyOk bs n = false ∧ e = .panicked badP) ∨ (bodyOk bs n = true ∧ ∃ v, e = .returned v ∧ w'.ownsRow w.heap.size 76 4 v (nBlk n) (blkCells bs g o c n (nBlk n))))
/-- what the loop over the blocks keeps -/
def CollI (w : World) (q : Nat) (g o c n : Nat) (bs : List Int) (D : Nat) (cc k : Nat) (W : World) : Prop :=
  Below w.heap.size w W ∧ (∃ v, HasO W q (.cells #[v] 69 (0, 0)) ∧ W.ownsRow w.heap.size 76 4 v k (blkCells bs g o c n k) ∧ ∀ x, v.ownBlock = some x → x < D ∨ cc ≤ x) ∧ cc ≤ W.heap.size

set_option maxHeartbeats 1000000 in
set_option maxRecDepth 100000 in
theorem appendSeq_any (q1 q2 g o a c n : Nat) (bs : List Int) (w : World) (hr : BlkRd q1 q2 g o a c n bs w) (hbs : isBytes bs) (hl : bs.length ≤ 2000000) (hc : bs.length ≤ c) (ha : headP bs < c → a = o + headP bs) (hP : headP bs ≤ bs.length) (hn : n ≤ 262144) :
    Calls Try.prog 59 #[.slice none 0 0, .func (.func 58) #[] #[.pointer (some ⟨q1, 0, none⟩), .pointer (some ⟨q2, 0, none⟩)]] w (CollR w g o c n bs) := by
  obtain ⟨i0, hi0, hz0, hz1, hz2⟩ := info_parts Try.info76
  have hQ := HasO.new w (.cells #[.slice none 0 0] 69)
  have hb := below_box w (.cells #[.slice none 0 0] 69)
  refine (callsIn_wide (n := 3)).1 ?_
  refine callsIn_of_wp_marks Try.func59 rfl trivial ?_ rfl
  simp only [Try.ntmps59, List.size_toArray, List.length_cons, List.length_nil, Nat.reduceAdd, Nat.reduceSub, Array.replicate_succ, Array.replicate_zero, List.push_toArray, List.append_toArray, List.nil_append, List.cons_append]
  gi_wp2_with fail
  generalize hW1 : w.alloc (.cells #[.slice none 0 0] 69) = W1 at *
  have hz1' : W1.heap.size = w.heap.size + 1 := by rw [← hW1]; simp
  clear hW1
  replace hz1' := Lib.hid hz1'
  refine rangeFunc_lawF (gf := 58) (lb := #[.pointer (some ⟨q1, 0, none⟩), .pointer (some ⟨q2, 0, none⟩)]) rfl (enters_of Try.func58 (by kernel_rfl) rfl)
    (blk_seq q1 q2 g o a c n bs hbs hl hc ha hP hn) (fun _ _ => rfl)
    (fun cc k W => CollI w w.heap.size g o c n bs W1.heap.size cc k W) (fun _ _ _ _ => False) ?hst ?hstx ?hRd ?hsz ?hszx ?h0 ?hbody ?hdone ?hstop ?hpanic
  case hstx => intro _ _ _ _ _ _ h; exact h.elim
  case hszx => intro _ _ _ _ _ h; exact h.elim
  case hstop => intro _ _ _ _ _ _ h; exact h.elim
  case hsz => intro cc k W _ h; exact h.2.2
  case hRd => intro cc k W _ h; exact hr.below h.1
  case hst =>
    rintro cc k W W' hcc ⟨h1, ⟨v, h2, h3, h4⟩, h5⟩ hA
    have hz := hz1'.out
    exact ⟨hA.below h1 (by omega) h1.size, ⟨v, hA.hasO h2 (by omega), hA.own h3 h4, h4⟩, Nat.le_trans h5 hA.size⟩
  case h0 =>
    intro cc W hbW hcc hzW
    have hz := hz1'.out
    exact ⟨below_call hb (by omega) hbW, ⟨_, hQ.call hbW, World.ownsRow_nil _ _ _ _, fun x e => by simp [Value.ownBlock] at e⟩, by omega⟩
  case hbody =>
    rintro cc k W hcc hk ⟨h1, ⟨v, h2, h3, h4⟩, h5⟩ hT
    have hz := hz1'.out
    replace hz := Lib.hid hz
    unfold blkE
    gi_wp2_with fail
    refine ⟨fun q' o' _ hq => hq.alloc _, fun W2 hA hsW hrec => ?_⟩
    obtain ⟨low, hlow⟩ : ∃ x, x = lowB bs n k := ⟨_, rfl⟩
    obtain ⟨wd, hwd⟩ : ∃ x, x = widB bs n k := ⟨_, rfl⟩
    obtain ⟨bo, hbo⟩ : ∃ x, x = blkOff bs o c n k := ⟨_, rfl⟩
    obtain ⟨nb, hnb⟩ : ∃ x, x = nbB bs n k := ⟨_, rfl⟩
    obtain ⟨cp, hcp⟩ : ∃ x, x = c - posB bs n k - 3 := ⟨_, rfl⟩
    obtain ⟨mn, hmn⟩ : ∃ x, x = manyB n k := ⟨_, rfl⟩
    have hnext : blkCells bs g o c n (k + 1) = blkCells bs g o c n k ++ blkCs wd low (some ⟨g, bo, none⟩) nb cp mn := by rw [hlow, hwd, hbo, hnb, hcp, hmn]; rfl
    rw [← hlow, ← hwd, ← hbo, ← hnb, ← hcp, ← hmn] at hA hsW
    rw [← hwd, ← hbo, ← hnb, ← hcp, ← hmn]
    clear hlow hwd hbo hnb hcp hmn
    replace hnext := Lib.hid hnext
    clear hsW
    have hzW : W1.heap.size + 2 ≤ W.heap.size := Nat.le_trans hcc h5
    have hb1 := below_box W (.cells (blkCs wd low (some ⟨g, bo, none⟩) nb cp mn).toArray 76)
    have hX := hA.hasO (HasO.new W (.cells (blkCs wd low (some ⟨g, bo, none⟩) nb cp mn).toArray 76)) (by omega)
    have h1' := hA.below (below_call h1 h1.size hb1) (by have := hz.out; omega) (below_call h1 h1.size hb1).size
    have h2' := hA.hasO (h2.call hb1) (by have := hz.out; omega)
    have h3' := hA.own (own_call h3 hb1) (fun x e => by have := h4 x e; omega)
    have hs2 := hA.size
    have hs3 : W.heap.size + 1 ≤ W2.heap.size := by simpa using hs2
    clear hA hs2 hb1 h1 h2 h3
    obtain ⟨vp, vn, vc, rfl⟩ := own_slice h3'
    have q0 := h2'.cells 0
    have x0 := hX.cells 0
    have x1 := hX.cells 1
    have x2 := hX.cells 2
    have x3 := hX.cells 3
    have hlX := hX.lt
    have hlQ := h2'.lt
    have hbW2 := h1'.size
    gi_wp2_with (gi_at_builtin; refine wpListIn_pushS rfl (.tmp 8) (.tmp 10) 69 rfl w.heap.size 76 i0 _ 4 48 Try.underlying69 hi0 hz0 hz1 hz2 rfl (by decide) (.slice vp vn vc) k (blkCells bs g o c n k) rfl h3' (blkCs wd low (some ⟨g, bo, none⟩) nb cp mn) rfl ?_ _ rfl rfl ?_ hbW2 ?_)
    · intro u hu; simp at hu; rcases hu with rfl | rfl | rfl | rfl <;> rfl
    · have : nBlk n ≤ 8193 := by unfold nBlk; omega
      omega
    intro v9 w9 hown9 hg9 hnear9
    have hP0 : Put2 w.heap.size (.slice vp vn vc) W2 (W2.alloc (.cells (blkCs wd low (some ⟨g, bo, none⟩) nb cp mn).toArray 76)) := (Put2.refl _ _ _).alloc _
    have hP9 := hP0.grown (Near.refl _ _) hg9
    have hneq := own_ne h3' h2' (by simp)
    have hq9 := (h2'.alloc (.cells (blkCs wd low (some ⟨g, bo, none⟩) nb cp mn).toArray 76)).grown hg9 hneq
    have hne9 := own_ne hown9 hq9 (by simp)
    have c9 := hq9.cells 0
    have f9 := hq9.frozen
    have l9 := hq9.lt
    have hqS : HasO _ _ (.cells #[v9] 69 (0, 0)) := hq9.set_ 0 v9
    have hPS := hP9.setCell 0 v9
    have hownS : (w9.setCell ⟨w.heap.size, 0, none⟩ v9).ownsRow w.heap.size 76 4 v9 (k + 1) (blkCells bs g o c n (k + 1)) := by
      rw [hnext.out]
      refine hown9.kept (row := some w.heap.size) ⟨rfl, rfl, rfl, by simp [World.setCell], fun k hk hkq => ?_⟩ (.inr hne9)
      rw [Below.heap_setCell _ _ _ _ (fun e => hkq (by rw [e]))]
    obtain ⟨up, un, uc, rfl⟩ := own_slice hown9
    clear q0 x0 x1 x2 x3 hlX hlQ hq9 hg9 hP9 hP0 hne9 hown9
    gi_wp2_with fail
    have hz := hz.out
    have hvb : ∀ x, (Value.slice vp vn vc).ownBlock = some x → w.heap.size ≤ x := fun x e => (h3'.lt x e).1
    refine ⟨fun q' o' hq' ho' => hPS.hasO ho' (by omega) (fun e => by have := h4 q' e; omega), hPS.below h1' h1'.size (Nat.le_refl _) hvb, ⟨_, hqS, hownS, fun x e => ?_⟩, Nat.le_trans (by omega) hPS.size⟩
    rcases hnear9 x e with h7 | h7
    · exact h4 x h7
    · right; omega
  case hdone =>
    rintro cc W hfin hcc ⟨h1, ⟨v, h2, h3, h4⟩, h5⟩ hD
    have q0 := h2.cells 0
    have hlQ := h2.lt
    obtain ⟨vp, vn, vc, rfl⟩ := own_slice h3
    have hz := Lib.hid hz1'.out
    gi_wp2_with fail
    refine ⟨by simp, .inl ⟨_, _, rfl, run_takeDeferred hD, ?_⟩⟩
    have hz := hz.out
    refine ⟨_, results_tmp rfl _ _ _, below_putObj h1 (by omega) h1.size, .inr ⟨hfin, _, rfl, ?_⟩⟩
    have hne := own_ne h3 hD (by simp)
    refine h3.kept (row := some W1.heap.size) ⟨rfl, rfl, rfl, by simp, fun k hk hkq => ?_⟩ (.inr hne)
    exact World.putObj_heap_other (fun e => hkq (by rw [e]))
  case hpanic =>
    rintro cc k ch W hcc ⟨rfl, hbad⟩ ⟨h1, _, _⟩ hD
    have hz := hz1'.out
    refine ⟨by simp, .inl ⟨_, _, rfl, run_takeDeferred hD, ?_⟩⟩
    exact ⟨below_putObj h1 (by omega) h1.size, .inl ⟨hbad, rfl⟩⟩

theorem collect_any (q1 q2 g o a c n : Nat) (bs : List Int) (w : World) (hr : BlkRd q1 q2 g o a c n bs w) (hbs : isBytes bs) (hl : bs.length ≤ 2000000) (hc : bs.length ≤ c) (ha : headP bs < c → a = o + headP bs) (hP : headP bs ≤ bs.length) (hn : n ≤ 262144) :
    Calls Try.prog 48 #[.func (.func 58) #[] #[.pointer (some ⟨q1, 0, none⟩), .pointer (some ⟨q2, 0, none⟩)]] w (CollR w g o c n bs) := by
  go_enter Try.func48, Try.ntmps48
  go_wp2_with fail
  refine (appendSeq_any q1 q2 g o a c n bs w hr hbs hl hc ha hP hn).mono ?_
  rintro e w1 ⟨hb, ⟨hbad, rfl⟩ | ⟨hok, v, rfl, hown⟩⟩
  · exact ⟨rfl, hb, .inl ⟨hbad, rfl⟩⟩
  · obtain ⟨vp, vn, vc, rfl⟩ := own_slice hown
    replace hok := Lib.hid hok
    go_wp2_with fail
    go_ret
    exact ⟨hb, .inr ⟨hok.out, _, rfl, hown⟩⟩
end Go.Proofs.Ytddkhnnpeonbgaa
