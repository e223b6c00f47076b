import Derived.Test.YtddkhnnpeonbgaaW19
import Derived.Test.YtddkhnnpeonbgaaW8
import Derived.RegionIn
namespace Go.Proofs.Ytddkhnnpeonbgaa
open Go.RowKit
attribute [local go_sem] Oper.semAt_some

/-- what Chunk's iterator reads -/
def ChunkRd (b1 b2 g o n c : Nat) (W : World) : Prop :=
  W.cell? ⟨b1, 0, none⟩ = some (.slice (some ⟨g, o, none⟩) n c) ∧ W.cell? ⟨b2, 0, none⟩ = some (.int .i64 32)
def chunkE (g o n k : Nat) : Array Value := #[.slice (some ⟨g, o + 32 * k, none⟩) (min 32 (n - 32 * k)) (min 32 (n - 32 * k))]

theorem chunk_seq (b1 b2 g o n c : Nat) (_hn : n ≤ 1000000000) (hc : n ≤ c) :
    SeqI Try.prog 54 #[.pointer (some ⟨b1, 0, none⟩), .pointer (some ⟨b2, 0, none⟩)] (nBlk n) (chunkE g o n) (ChunkRd b1 b2 g o n c) (fun _ _ => False) (fun _ => False) := by
  intro n0 l J Jx W0 hst hstx hRd hsz hszx h0 hy
  have hJ0 := h0 W0.heap.size W0 (Below.refl _ _) (Nat.le_refl _) rfl
  obtain ⟨hr1, hr2⟩ := hRd _ _ _ hJ0
  refine callsIn_of_wp Try.func54 rfl trivial ?_ rfl
  simp only [Try.ntmps54, List.size_toArray, List.length_cons, List.length_nil, Nat.reduceAdd, Nat.reduceSub, Array.replicate_succ, Array.replicate_zero, List.push_toArray, List.append_toArray, List.nil_append, List.cons_append]
  gi_wp2
  gi_loopw [4] (fun i wr => ∃ k : Nat, k ≤ nBlk n ∧ i = .int .i64 (32 * (k : Int)) ∧ J W0.heap.size k wr) (fun i wr => ((n : Int) + 32 - intOf i).toNat)
  case atStart => exact ⟨0, by omega, by simp, hJ0⟩
  case round =>
    clear hr1 hr2
    obtain ⟨k, hk, rfl, hJ⟩ := hrel
    obtain ⟨hr1, hr2⟩ := hRd _ _ _ hJ
    have hnb : nBlk n = (n + 31) / 32 := rfl
    by_cases hlt : k < nBlk n
    · have hi1 : 32 * (k : Int) < n := by omega
      replace hnb := Lib.hid hnb
      gi_wp2
      gi_region
      obtain ⟨e, he⟩ : ∃ e, e = min 32 (n - 32 * k) := ⟨_, rfl⟩
      rw [show min (32 : Int) ((n - 32 * k : Nat) : Int) = (e : Int) by omega]
      have hJ1 : J W0.heap.size k wr.drew := hst _ _ _ _ (Nat.le_refl _) hJ (Alt.drewN 1)
      have hr1 : wr.drew.cell? ⟨b1, 0, none⟩ = some (.slice (some ⟨g, o, none⟩) n c) := hr1
      have hr2 : wr.drew.cell? ⟨b2, 0, none⟩ = some (.int .i64 32) := hr2
      have hce : chunkE g o n k = #[.slice (some ⟨g, o + 32 * k, none⟩) e e] := by unfold chunkE; rw [← he]
      obtain ⟨fn, tmps, assign, body, hy1, hR⟩ := hy W0.heap.size k wr.drew (Nat.le_refl _) hlt hJ1 (fun q h1 h2 => by omega)
      rw [hce] at hy1
      have he1 : 1 ≤ e := by omega
      have he2 : 32 * k + e ≤ n := by omega
      replace he := Lib.hid he
      clear hJ hce
      generalize wr.drew = wd at *
      have hs1 : 32 * (k : Int) + e ≤ c := by omega
      have hs2 : 32 * (k : Int) ≤ 32 * (k : Int) + e := by omega
      have hs3 : (0 : Int) ≤ 32 * (k : Int) := by omega
      gi_wp2
      refine ⟨fun h => by simp [Fence.wide] at h, (roundIn_any hR).mono ?_⟩
      rintro e' W' (⟨rfl, hJ', _⟩ | ⟨rfl, hJx⟩)
      · have hr2' := (hRd _ _ _ hJ').2
        gi_wp2
        go_roundw
        case rel => exact ⟨k + 1, by omega, by go_num, hJ'⟩
        case measure => simp [intOf]; omega
      · gi_wp2
        refine bodyPost_ret (results_none rfl _ _ _) rfl ?_
        exact ⟨W0.heap.size, Nat.le_refl _, .inl ⟨⟨_, rfl⟩, .inr ⟨k, hlt, hJx⟩⟩⟩
    · obtain rfl : k = nBlk n := by omega
      have hi1 : ¬ 32 * ((nBlk n : Nat) : Int) < n := by omega
      replace hnb := Lib.hid hnb
      gi_wp2
      go_end0
      first | exact ⟨W0.heap.size, Nat.le_refl _, .inl ⟨⟨_, rfl⟩, .inl hJ⟩⟩ | exact ⟨W0.heap.size, Nat.le_refl _, ⟨_, rfl⟩, .inl hJ⟩

/-- Chunk itself: two boxes, and the iterator over them -/
theorem chunk_any (g o n c : Nat) (w : World) : Calls Try.prog 36 #[.slice (some ⟨g, o, none⟩) n c, .int .i64 32] w fun e w' =>
    e = .returned (.func (.func 54) #[] #[.pointer (some ⟨w.heap.size, 0, none⟩), .pointer (some ⟨w.heap.size + 1, 0, none⟩)]) ∧ Below w.heap.size w w' ∧
    HasO w' w.heap.size (.cells #[.slice (some ⟨g, o, none⟩) n c] 27 (0, 0)) ∧ HasO w' (w.heap.size + 1) (.cells #[.int .i64 32] 3 (0, 0)) := by
  have hA : HasO (w.alloc (.cells #[.slice (some ⟨g, o, none⟩) n c] 27)) w.heap.size (.cells #[.slice (some ⟨g, o, none⟩) n c] 27 (0, 0)) := HasO.new _ _
  have hB : HasO ((w.alloc (.cells #[.slice (some ⟨g, o, none⟩) n c] 27)).alloc (.cells #[.int .i64 32] 3)) (w.heap.size + 1) (.cells #[.int .i64 32] 3 (0, 0)) := HasO.new' _ _ (by simp)
  have hA1 := hA.alloc (.cells #[.int .i64 32] 3)
  have hb := (below_box w (.cells #[.slice (some ⟨g, o, none⟩) n c] 27)).alloc (by simp) (.cells #[.int .i64 32] 3)
  have c0 := hB.cells 0
  have hlt := hB.lt
  go_enter Try.func36, Try.ntmps36
  go_wp2_with fail
  go_ret
  exact ⟨rfl, hb, hA1, hB⟩
theorem wid_half {n : Int} (h0 : 0 < n) (h : n < 32768) : wid n = 1 + wid (n / 2) := by
  have h1 := wid_eq n
  have h2 := wid_eq (n / 2)
  omega
theorem wid_bitLen : ∀ n : Nat, n < 32768 → wid n = Lib.bitLen n := by
  intro n
  induction n using Nat.strongRecOn with
  | _ n ih =>
    intro h
    by_cases h0 : n = 0
    · subst h0; rfl
    · rw [wid_half (by omega) (by omega), Lib.bitLen_half n h0 (by omega), show ((n : Int) / 2) = ((n / 2 : Nat) : Int) by omega, ih (n / 2) (by omega) (by omega)]
theorem len16_any (x : Int) (h0 : 0 ≤ x) (h1 : x < 32768) (w : World) : Calls Try.prog 38 #[.int .u16 x] w fun e w' => e = .returned (.int .i64 (wid x : Nat)) ∧ w' = w := by
  refine (Try.bits_Len16 x w h0 (by omega)).mono ?_
  rintro e w' ⟨rfl, rfl⟩
  refine ⟨?_, rfl⟩
  have := wid_bitLen x.toNat (by omega)
  rw [show ((x.toNat : Nat) : Int) = x by omega] at this
  rw [this]
end Go.Proofs.Ytddkhnnpeonbgaa
