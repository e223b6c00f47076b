import Derived.Test.YtddkhnnpeonbgaaW39
namespace Go.Proofs.Ytddkhnnpeonbgaa
open Go.RowKit

theorem blockL_len_le {l : List Int} (hl : l.length ≤ 32) (hb : ∀ x ∈ l, 0 ≤ x ∧ x ≤ 10002) (h0 : 0 < l.length) : (blockL l).length ≤ 60 := by
  have b := low_bd (by intro e; rw [e] at h0; simp at h0) hb
  have hw : widL l ≤ 14 := wid_le (by omega)
  have h1 : (blkBits (lowL l) (widL l) l).length ≤ 32 * 14 := by rw [blkBits_len]; exact Nat.mul_le_mul hl hw
  have h2 := padN_lt (blkBits (lowL l) (widL l) l).length
  unfold blockL bytesL padL
  simp only [List.length_append, List.length_cons, List.length_nil, bytesN_len, List.length_replicate]
  omega
theorem blocksL_len_le {es : List Int} (hb : ∀ x ∈ es, 0 ≤ x ∧ x ≤ 10002) {k : Nat} (hk : k ≤ nBlk es.length) : (blocksL es k).length ≤ 60 * k := by
  induction k with
  | zero => simp [blocksL]
  | succ k ih =>
    have h1 := ih (by omega)
    have hc := chunkL_len es k
    have h2 := blockL_len_le (l := chunkL es k) (by omega) (fun x hx => hb x (chunkL_mem hx)) (by unfold nBlk at hk; omega)
    simp only [blocksL, List.length_append]
    omega

set_option maxHeartbeats 2000000 in
set_option maxRecDepth 100000 in
theorem refPack_any (m : Men) (p : Option Addr) (c : Nat) (es : List Int) (w : World) (hv : Hid (validB m = true)) (hx : Arr .i16 w p es) (hb : ∀ x ∈ es, 0 ≤ x ∧ x ≤ 10002) (hl : es.length ≤ 262144) (hc : es.length ≤ c) :
    Calls Try.prog 10 #[.agg (tabCs m p es.length c).toArray] w fun e w' => ∃ v, e = .returned v ∧ w'.ownsRow w.heap.size 5 1 v (packL m es).length ((packL m es).map (.int .u8)) ∧ Below w.heap.size w w' := by
  obtain ⟨i5, hi5, hz5, hs5, hy5⟩ := info_parts Try.info5
  have hT : HasO (w.alloc (.cells (tabCs m p es.length c).toArray 29)) w.heap.size (.cells (tabCs m p es.length c).toArray 29 (0, 0)) := HasO.new _ _
  have hb0 := below_box w (.cells (tabCs m p es.length c).toArray 29)
  have hx0 := hx.call hb0
  have htl := textL_len hv.out
  have hcT := hT.cells
  have hlT := hT.lt
  have hli : (es.length : Int) ≤ 262144 := by omega
  have hci : (es.length : Int) ≤ c := by omega
  go_enter Try.func10, Try.ntmps10
  go_wp2_with fail
  refine (refText_any m _ hv).mono ?_
  rintro e w1 ⟨rfl, hb1⟩
  have hT1 := hT.call hb1
  have hbw1 := below_call hb0 (by simp) hb1
  clear hT hb0 hx0 hb1 hcT hlT
  have hsz : (str (textL m)).size = (textL m).length := str_size _
  have ht10 : ((textL m).length : Int) ≤ 10 := by omega
  have hown0 : (w1.alloc (.cells #[.int .u8 ((textL m).length : Int)] 5)).ownsRow w.heap.size 5 1 (.slice (some ⟨w1.heap.size, 0, none⟩) 1 1) 1 [.int .u8 ((textL m).length : Int)] := own_new w1 w.heap.size 5 [.int .u8 ((textL m).length : Int)] hbw1.size (by simp [maxLen])
  have hT2 := hT1.alloc (.cells #[.int .u8 ((textL m).length : Int)] 5)
  have hbw2 := hbw1.alloc hbw1.size (.cells #[.int .u8 ((textL m).length : Int)] 5)
  have hsb : w.heap.size ≤ (w1.alloc (.cells #[.int .u8 ((textL m).length : Int)] 5)).heap.size := by simp; have := hbw1.size; omega
  go_wp2_with (at_builtin; refine Lib.wpList_append_own_string _ rfl _ _ 31 9 rfl w.heap.size 5 i5 Try.underlying31 Try.underlying9 hi5 hz5 hs5 hy5 _ _ _ rfl hown0 (str (textL m)) rfl (by rw [hsz]; simp only [maxLen]; omega) (by rw [hsz]; omega) hsb ?_)
  intro v2 w2 hown2 hg2 _
  have hT3 := hT2.grown hg2 (by simp only [Value.ownBlock]; intro e; injection e with e; have := hT1.lt; omega)
  have hbw3 := hbw2.grown hg2 (by simp; have := hbw1.size; omega) (fun j e => by simp only [Value.ownBlock] at e; injection e with e; have := hbw1.size; omega)
  have hown3 : w2.ownsRow w.heap.size 5 1 v2 (headL m ++ blocksL es 0).length ((headL m ++ blocksL es 0).map (.int .u8)) := by
    have e1 : (headL m).map (Value.int .u8) = .int .u8 ((textL m).length : Int) :: Lib.strCells (str (textL m)) := by
      simp [headL, Lib.strCells, str]
    simp only [blocksL, List.append_nil]
    rw [e1, headL_len, Nat.add_comm, ← hsz]; exact hown2
  have hHL : (headL m).length ≤ 11 := by rw [headL_len]; omega
  clear hT1 hbw1 hT2 hbw2 hown0 hown2 hg2 hsb
  go_wp2_with fail
  go_loopw [4, 5] (fun v iv wr => ∃ k I : Nat, I = 32 * k ∧ k ≤ nBlk es.length ∧ iv = .int .i64 I ∧ Below w.heap.size w wr ∧ HasO wr w.heap.size (.cells (tabCs m p es.length c).toArray 29 (0, 0)) ∧ wr.ownsRow w.heap.size 5 1 v (headL m ++ blocksL es k).length ((headL m ++ blocksL es k).map (.int .u8))) (fun _ iv _ => (es.length + 32 : Nat) - (intOf iv).toNat)
  case atStart => exact ⟨0, 0, rfl, Nat.zero_le _, rfl, hbw3, hT3, hown3⟩
  case round =>
    clear hbw3 hT3 hown3
    obtain ⟨k, I, hI, hk, rfl, hbw, hT, hown⟩ := hrel
    have hcT := hT.cells
    have hlT := hT.lt
    have hIb : (I : Int) ≤ 262200 := by unfold nBlk at hk; omega
    by_cases hlt : I < es.length
    · have hii : (I : Int) < es.length := by omega
      have hkl : k < nBlk es.length := by unfold nBlk; omega
      obtain ⟨g, o, rfl, hgl, _⟩ := hx.at (show I < es.length from hlt)
      have hch := arr_chunk (hx.call hbw) hkl
      have hcl := chunkL_len es k
      rw [← hI] at hch hcl
      replace hI := Lib.hid hI
      go_wp2_with fail
      rw [show (min ((I : Int) + 32) (es.length : Int)).toNat - I = (chunkL es k).length by rw [hcl]; omega]
      have hcb : ∀ x ∈ chunkL es k, 0 ≤ x ∧ x ≤ 10002 := fun x hx => hb x (chunkL_mem hx)
      refine (block_any (some ⟨g, o + I, none⟩) (c - I) (chunkL es k) wr hch (by omega) (by omega) hcb).mono ?_
      rintro e wB ⟨vB, rfl, hownB, hbB⟩
      have hBL := blockL_len_le (l := chunkL es k) (by omega) hcb (by omega)
      have hPL := blocksL_len_le hb hk
      have hPL2 : (headL m ++ blocksL es k).length ≤ 1000000 := by rw [List.length_append]; unfold nBlk at hkl; omega
      have hst : Hid (headL m ++ blocksL es (k + 1) = headL m ++ blocksL es k ++ blockL (chunkL es k)) := Lib.hid (by simp only [blocksL, List.append_assoc])
      generalize headL m ++ blocksL es k = X at *
      have hB3 : 0 < (blockL (chunkL es k)).length := by unfold blockL; simp
      generalize blockL (chunkL es k) = Y at *
      have hownX := own_call hown hbB
      have hTB := hT.call hbB
      have hbw2 := below_call hbw hbw.size hbB
      obtain ⟨pB, cB, rfl, hcB, hArrB⟩ := own_arr hownB
      obtain ⟨gB, oB, rfl, hgB, hccB⟩ := hArrB.at hB3
      have hbase : w.heap.size ≤ wB.heap.size := hbw2.size
      have hneT := own_ne hownX hTB (by simp)
      clear hown hT hbw hbB hcT hlT hownB hArrB hch hcl
      have hnews : ∀ (j : Nat) (u : Value), (Y.map (Value.int .u8))[j]? = some u → wB.cell? ((⟨gB, oB, none⟩ : Addr).add j) = some u := by
        intro j u hu
        have hj : j < Y.length := by have := (List.getElem?_eq_some_iff.1 hu).1; simpa using this
        have e := hccB j hj
        rw [List.getElem?_map, List.getElem?_eq_getElem hj] at hu
        rw [List.getElem?_eq_getElem hj] at e
        rw [Addr.add_lit, e]
        simpa using hu
      have hone : ∀ u ∈ Y.map (Value.int .u8), u.oneCell' = true := by
        intro u hu
        obtain ⟨a, _, rfl⟩ := List.mem_map.1 hu
        rfl
      have h63 : X.length + Y.length ≤ maxLen := by simp only [maxLen]; omega
      have hbt : (X.length + Y.length) * 1 ≤ 140737488355328 := by omega
      have hYl : (Y.map (Value.int .u8)).length = Y.length * 1 := by simp
      replace hYl := Lib.hid hYl
      go_wp2_with (at_builtin; refine wpList_append_own _ rfl (.tmp 22) (.tmp 33) 31 rfl w.heap.size 5 i5 (.int .u8 0) 1 1 Try.underlying31 hi5 hz5 hs5 hy5 rfl (by decide) _ X.length (X.map (.int .u8)) rfl hownX ⟨gB, oB, none⟩ Y.length cB (Y.map (.int .u8)) rfl hYl.out hnews hone h63 hbt hbase ?_)
      intro v' w9 hown9 hg9 _
      have hT9 := hTB.grown hg9 hneT
      have hb9 := hbw2.grown hg9 hbase (fun j e => (hownX.lt j e).1)
      have hown9' : w9.ownsRow w.heap.size 5 1 v' (X ++ Y).length ((X ++ Y).map (.int .u8)) := by simpa using hown9
      rw [← hst.out] at hown9'
      clear hown9 hg9 hTB hbw2 hownX hccB hneT
      go_wp2_with fail
      go_roundw
      case rel => exact ⟨k + 1, I + 32, by have := hI.out; omega, by omega, by go_num, hb9, hT9, hown9'⟩
      case measure => simp [intOf]; omega
    · have hii : ¬ (I : Int) < es.length := by omega
      obtain rfl : k = nBlk es.length := by unfold nBlk at hk ⊢; omega
      replace hI := Lib.hid hI
      go_wp2_with fail
      go_ret
      exact ⟨_, rfl, hown, hbw⟩
end Go.Proofs.Ytddkhnnpeonbgaa
