import Derived.Test.YtddkhnnpeonbgaaW28
namespace Go.Proofs.Ytddkhnnpeonbgaa
open Go.RowKit

theorem toU_inj {xs ys : List Int} (hx : isBytes xs) (hy : isBytes ys) (h : toU xs = toU ys) : xs = ys := by
  induction xs generalizing ys with
  | nil => cases ys with
    | nil => rfl
    | cons y ys => simp [toU] at h
  | cons x xs ih =>
    cases ys with
    | nil => simp [toU] at h
    | cons y ys =>
      simp only [toU, List.map_cons, List.cons.injEq] at h
      have h1 := hx x List.mem_cons_self
      have h2 := hy y List.mem_cons_self
      have e : x = y := by
        have := congrArg UInt8.toNat h.1
        simp only [UInt8.toNat_ofNat'] at this
        omega
      rw [e, ih (fun z hz => hx z (List.mem_cons_of_mem _ hz)) (fun z hz => hy z (List.mem_cons_of_mem _ hz)) h.2]
theorem bytesIn_arr {w : World} {p : Option Addr} {xs : List Int} (h : Arr .u8 w p xs) : Lib.BytesIn w p xs.length xs := by
  intro hn
  obtain ⟨b, o, rfl, _, hc⟩ := h.at hn
  exact ⟨b, o, rfl, fun i hi => by rw [hc i hi]; simp [List.getD]⟩
theorem equal_any (p1 p2 : Option Addr) (c1 c2 : Nat) (xs ys : List Int) (w : World) (hx : Arr .u8 w p1 xs) (hy : Arr .u8 w p2 ys) (bx : isBytes xs) (by' : isBytes ys) :
    Calls Try.prog 30 #[.slice p1 xs.length c1, .slice p2 ys.length c2] w fun e w' => e = .returned (.bool (decide (xs = ys))) ∧ w = w' := by
  refine (Try.bytes_Equal_all p1 p2 xs.length c1 ys.length c2 xs ys w rfl rfl (bytesIn_arr hx) (bytesIn_arr hy)).mono ?_
  rintro e w' ⟨rfl, rfl⟩
  refine ⟨ret_bool ?_, rfl⟩
  show (toU xs == toU ys) = decide (xs = ys)
  by_cases h : xs = ys
  · subst h; simp
  · have : toU xs ≠ toU ys := fun e => h (toU_inj bx by' e)
    simp [h, this]

/-- the set, the number of entries and the error -/
def outV (bs : List Int) : Men × Int × Int := match outM bs with | none => (zeroMen, 0, 6) | some m => (m, countN m, 0)
/-- packed.of, once more -/
def OfS (w : World) (bs : List Int) (p : Option Addr) (c : Nat) (e : Ending) (w' : World) : Prop :=
  Below w.heap.size w w' ∧ ∃ vp vn vc, e = .returned (.tuple #[.agg (outCs (outV bs).1 (outV bs).2.1 (.slice vp vn vc)).toArray, .int .i64 (outV bs).2.2]) ∧
    (outM bs = none → vn = 0) ∧ ∀ m, outM bs = some m → ∃ g o, p = some ⟨g, o, none⟩ ∧ w'.ownsRow w.heap.size 76 4 (.slice vp vn vc) (nBlk (countN m)) (blkCells bs g o c (countN m) (nBlk (countN m)))
theorem pof_S (p : Option Addr) (c : Nat) (bs : List Int) (w : World) (hx : Arr .u8 w p bs) (hbs : isBytes bs) (hl : bs.length ≤ 2000000) (hc : bs.length ≤ c) (hm : MaxOk w) :
    Calls Try.prog 28 #[.slice p bs.length c] w (OfS w bs p c) := by
  refine (pof_any p c bs w hx hbs hl hc hm).mono ?_
  rintro e w' ⟨hb, ⟨h1, rfl⟩ | ⟨m, g, o, v, h1, hp, rfl, hown⟩⟩
  · refine ⟨hb, none, 0, 0, ?_, fun _ => rfl, fun m h => by rw [h1] at h; cases h⟩
    unfold outV
    rw [h1]; rfl
  · obtain ⟨vp, vn, vc, rfl⟩ := own_slice hown
    refine ⟨hb, vp, vn, vc, ?_, (fun h => by rw [h1] at h; cases h), fun m' h => ?_⟩
    · unfold outV
      rw [h1]
    · rw [h1] at h; injection h with h; subst h
      exact ⟨g, o, hp, hown⟩

theorem blkCells_len (bs : List Int) (g o c n k : Nat) : (blkCells bs g o c n k).length = 4 * k := by
  induction k with
  | zero => rfl
  | succ k ih => simp only [blkCells, List.length_append, ih, List.length_cons, List.length_nil]; omega
theorem blkCells_get (bs : List Int) (g o c n : Nat) {i k j : Nat} (hi : i < k) (hj : j < 4) : (blkCells bs g o c n k)[i * 4 + j]? = (blkCs (widB bs n i) (lowB bs n i) (some ⟨g, blkOff bs o c n i, none⟩) (nbB bs n i) (c - posB bs n i - 3) (manyB n i))[j]? := by
  induction k with
  | zero => omega
  | succ k ih =>
    simp only [blkCells]
    by_cases e : i < k
    · rw [List.getElem?_append_left (by rw [blkCells_len]; omega)]; exact ih e
    · obtain rfl : i = k := by omega
      rw [List.getElem?_append_right (by rw [blkCells_len]; omega), blkCells_len]
      congr 1; omega
/-- the reading of a block's cells -/
theorem blk_slice {w : World} {base : Nat} {v : Value} {bs : List Int} {g o c n N : Nat} (h : w.ownsRow base 76 4 v N (blkCells bs g o c n N)) (hN : 0 < N) :
    ∃ gb cap, v = .slice (some ⟨gb, 0, none⟩) N cap ∧ base ≤ gb ∧ gb < w.heap.size ∧ N ≤ cap ∧ ∀ i, i < N →
      w.cell? ⟨gb, i * 4, none⟩ = some (.int .i64 (widB bs n i)) ∧ w.cell? ⟨gb, i * 4 + 1, none⟩ = some (.int .u16 (lowB bs n i)) ∧ w.cell? ⟨gb, i * 4 + 2, none⟩ = some (.slice (some ⟨g, blkOff bs o c n i, none⟩) (nbB bs n i) (c - posB bs n i - 3)) ∧ w.cell? ⟨gb, i * 4 + 3, none⟩ = some (.int .i64 (manyB n i)) := by
  have h' := h
  rcases h.2 with ⟨_, h2⟩ | ⟨gb, cap, cur, rfl, hg, hh, hcap, _⟩
  · omega
  · refine ⟨gb, cap, rfl, hg, (h'.lt gb rfl).2, hcap, fun i hi => ?_⟩
    have h0 := blkCells_get bs g o c n hi (j := 0) (by omega)
    have h1 := blkCells_get bs g o c n hi (j := 1) (by omega)
    have h2 := blkCells_get bs g o c n hi (j := 2) (by omega)
    have h3 := blkCells_get bs g o c n hi (j := 3) (by omega)
    rw [h'.cellAt _ (by omega), h'.cellAt _ (by omega), h'.cellAt _ (by omega), h'.cellAt _ (by omega)]
    exact ⟨h0, h1, h2, h3⟩
end Go.Proofs.Ytddkhnnpeonbgaa
namespace Go.Proofs.Ytddkhnnpeonbgaa
open Go.RowKit

set_option maxHeartbeats 1000000 in
set_option maxRecDepth 100000 in
theorem Men_any (p : Option Addr) (c : Nat) (bs : List Int) (w : World) (hx : Arr .u8 w p bs) (hbs : isBytes bs) (hl : bs.length ≤ 2000000) (hc : bs.length ≤ c) (hm : MaxOk w) :
    Calls Try.prog 15 #[.slice p bs.length c] w fun e w' => e = .returned (.tuple #[.agg (outV bs).1.cs.toArray, .int .i64 (outV bs).2.1, .int .i64 (outV bs).2.2]) ∧ Below w.heap.size w w' := by
  have hms : 0 < w.heap.size := by obtain ⟨_, _, h⟩ := hm; exact h
  have hA : HasO (w.alloc (.cells zeroMen.cs.toArray 26)) w.heap.size (.cells zeroMen.cs.toArray 26 (0, 0)) := HasO.new _ _
  have hb := below_box w (.cells zeroMen.cs.toArray 26)
  have hm2 : MaxOk (w.alloc (.cells zeroMen.cs.toArray 26)) := MaxOk.call hm (below_box _ _) hms
  have hx2 := hx.call hb
  go_enter Try.func15, Try.ntmps15
  go_wp2_with fail
  show Calls Try.prog 28 _ (w.alloc (.cells zeroMen.cs.toArray 26)) _
  refine (pof_S p c bs _ hx2 hbs hl hc hm2).mono ?_
  rintro e w1 ⟨hb1, vp, vn, vc, rfl, _, _⟩
  generalize hV : outV bs = V at *
  obtain ⟨m, n, er⟩ := V
  have hA1 := hA.call hb1
  have hb2 := below_call hb (by simp) hb1
  have hlt := hA1.lt
  clear hA hb hb1 hm2 hx2
  simp only [] at *
  have hT := HasO.new w1 (.cells (outCs m n (.slice vp vn vc)).toArray 71)
  have hA2 := hA1.alloc (.cells (outCs m n (.slice vp vn vc)).toArray 71)
  have hb3 := hb2.alloc hb2.size (.cells (outCs m n (.slice vp vn vc)).toArray 71)
  replace hV := Lib.hid hV
  go_wp2_with fail
  show Code.wp _ _ _ _ (w1.alloc (.cells (outCs m n (.slice vp vn vc)).toArray 71))
  generalize w1.alloc (.cells (outCs m n (.slice vp vn vc)).toArray 71) = w2 at *
  refine wp_region_chain (by kernel_rfl) (by kernel_rfl) [some 12, some 13, some 14, some 15, some 16, none, some 3, some 4] (by rfl) (by rfl) [5] (by kernel_rfl) (by decide) (by decide)
    [.pointer (some ⟨w1.heap.size, 0, none⟩), .agg m.cs.toArray, .pointer (some ⟨w1.heap.size, 12, none⟩), .int .i64 n, .int .i64 er, undef, .int .i64 n, .int .i64 er]
    (fun k => if k = 0 then w2.drew else w2.drew.setRow w.heap.size m.cs.toArray) rfl ?hstep ?hturn ?hend
  case hstep =>
    intro i op f k ho hi hmem _ hf K hK
    have hi : i < 8 := hi
    have hW : ∃ W, W = (if k = 0 then w2.drew else w2.drew.setRow w.heap.size m.cs.toArray) ∧ HasO W w1.heap.size (.cells (outCs m n (.slice vp vn vc)).toArray 71 (0, 0)) := by
      by_cases e : k = 0
      · exact ⟨_, rfl, by rw [if_pos e]; exact hT.drew⟩
      · exact ⟨_, rfl, by rw [if_neg e]; exact hT.drew.setRow_far (by omega)⟩
    obtain ⟨W, hW, hT'⟩ := hW
    rw [← hW] at hK ⊢
    clear hW
    rcases (by simp at hmem; omega : i = 0 ∨ i = 1 ∨ i = 2 ∨ i = 3 ∨ i = 4 ∨ i = 6 ∨ i = 7) with rfl | rfl | rfl | rfl | rfl | rfl | rfl
    · exact st_field (by injection ho with h; rw [← h]; rfl) 71 (.tmp 5) 0 (by injection ho with h; rw [← h]; rfl) (rd_out rfl rfl) (n := 0) (by kernel_rfl) hK
    · exact st_loadA (by injection ho with h; rw [← h]; rfl) 26 (.tmp 12) (by injection ho with h; rw [← h]; rfl) (rd_in rfl 0 rfl (by simp) (hf ⟨0, .data⟩ (by injection ho with h; rw [← h]; simp) rfl)) m.cs (by kernel_rfl) (fun j v hv => by
        rw [Nat.zero_add, hT'.cells j]
        have hj : j < m.cs.length := (List.getElem?_eq_some_iff.1 hv).1
        simp only [List.getElem?_toArray]
        rw [List.getElem?_append_left hj]; exact hv) hK
    · exact st_field (by injection ho with h; rw [← h]; rfl) 71 (.tmp 5) 1 (by injection ho with h; rw [← h]; rfl) (rd_out rfl rfl) (n := 12) (by kernel_rfl) hK
    · exact st_loadS (by injection ho with h; rw [← h]; rfl) 3 (.tmp 14) (by injection ho with h; rw [← h]; rfl) (rd_in rfl 2 rfl (by simp) (hf ⟨2, .data⟩ (by injection ho with h; rw [← h]; simp) rfl)) (by kernel_rfl) (hT'.cells 12) hK
    · exact st_move (by injection ho with h; rw [← h]; rfl) (.tmp 6) (by injection ho with h; rw [← h]; rfl) (rd_out rfl rfl) hK
    · exact st_assign (by injection ho with h; rw [← h]; rfl) (.tmp 15) (by injection ho with h; rw [← h]; rfl) (rd_in rfl 3 rfl (by simp) (hf ⟨3, .data⟩ (by injection ho with h; rw [← h]; simp) rfl)) hK
    · exact st_assign (by injection ho with h; rw [← h]; rfl) (.tmp 16) (by injection ho with h; rw [← h]; rfl) (rd_in rfl 4 rfl (by simp) (hf ⟨4, .data⟩ (by injection ho with h; rw [← h]; simp) rfl)) hK
  case hturn =>
    intro i op f k ho hst hf K hK
    obtain rfl : k = 0 := by have := (List.getElem?_eq_some_iff.1 hst).1; simp at this; exact this
    obtain rfl : i = 5 := by simp at hst; exact hst.symm
    exact st_storeO (by injection ho with h; rw [← h]; rfl) 26 (.tmp 2) (.tmp 13) (by injection ho with h; rw [← h]; rfl) (rd_out rfl rfl) m.cs.toArray zeroMen.cs.toArray 26
      (rd_in rfl 1 rfl (by simp) (hf ⟨1, .data⟩ (by injection ho with h; rw [← h]; simp) rfl)) hA2.drew (by kernel_rfl) rfl (men_one m) hK
  case hend =>
    have eW : (if ([5] : List Nat).length = 0 then w2.drew else w2.drew.setRow w.heap.size m.cs.toArray) = w2.drew.setRow w.heap.size m.cs.toArray := rfl
    rw [eW]
    have hrE := setRow_hasO (cells := m.cs.toArray) hA2.drew
    have hbE := setRow_below (g := w.heap.size) (cells := m.cs.toArray) hb3.drew (Nat.le_refl _) hb3.size
    generalize w2.drew.setRow w.heap.size m.cs.toArray = wE at *
    go_wp2_with fail
    refine bodyPost_ret (results_ctt2 (fn := Try.f15) Try.results15 (slot_out rfl rfl) hrE (by kernel_rfl) (slot_in rfl 6 rfl (by simp) rfl) (slot_in rfl 7 rfl (by simp) rfl)) (by rw [putL_defers]) ?_
    exact ⟨by first | rfl | (rw [hV.out]; rfl), hbE⟩
end Go.Proofs.Ytddkhnnpeonbgaa
