import Derived.Test.YtddkhnnpeonbgaaW7
import Derived.Test.YtddkhnnpeonbgaaK3
import Derived.Shelf.Abstract
import Derived.Shelf.RegionOpen
namespace Go.Proofs.Ytddkhnnpeonbgaa
open Go.RowKit
attribute [local go_sem] Oper.semAt_some

/-- what Backward's iterator reads -/
def BackRd (bx g o cap : Nat) (xs : List Int) (W : World) : Prop :=
  W.cell? ⟨bx, 0, none⟩ = some (.slice (some ⟨g, o, none⟩) xs.length cap) ∧ ∀ i x, xs[i]? = some x → W.cell? ⟨g, o + i, none⟩ = some (.int .i64 x)

theorem back_seq (bx g o cap : Nat) (xs : List Int) (hx : xs.length ≤ 1000000) :
    SeqI Try.prog 76 #[.pointer (some ⟨bx, 0, none⟩)] xs.length (fun k => #[.int .i64 ((xs.length : Int) - 1 - k), .int .i64 (xs[xs.length - 1 - k]?.getD 0)]) (BackRd bx g o cap xs) (fun _ _ => False) (fun _ => False) := by
  intro n l J Jx W0 hst hstx hRd hsz hszx h0 hy
  have hJ0 := h0 W0.heap.size W0 (Below.refl _ _) (Nat.le_refl _) rfl
  obtain ⟨hr1, hr2⟩ := hRd _ _ _ hJ0
  refine callsIn_of_wp Try.func76 rfl trivial ?_ rfl
  simp only [Try.ntmps76, List.size_toArray, List.length_cons, List.length_nil, Nat.reduceAdd, Nat.reduceSub, Array.replicate_succ, Array.replicate_zero, List.push_toArray, List.append_toArray, List.nil_append, List.cons_append]
  gi_wp2
  gi_loopw [3] (fun i wr => ∃ k : Nat, k ≤ xs.length ∧ i = .int .i64 ((xs.length : Int) - 1 - k) ∧ J W0.heap.size k wr) (fun i wr => (intOf i + 1).toNat)
  case atStart => exact ⟨0, by omega, by simp, hJ0⟩
  case round =>
    clear hr1 hr2
    obtain ⟨k, hk, rfl, hJ⟩ := hrel
    obtain ⟨hr1, hr2⟩ := hRd _ _ _ hJ
    by_cases hlt : k < xs.length
    · have hc := hr2 (xs.length - 1 - k) (xs[xs.length - 1 - k]?.getD 0) (by rw [List.getElem?_eq_getElem (by omega)]; rfl)
      have h1 : (0 : Int) ≤ (xs.length : Int) - 1 - k := by omega
      clear hr2
      obtain ⟨fn, tmps, assign, body, hy1, hR⟩ := hy W0.heap.size k wr (Nat.le_refl _) hlt hJ (fun q h1 h2 => by omega)
      gi_wp2
      refine ⟨fun h => by simp [Fence.wide] at h, (roundIn_any hR).mono ?_⟩
      rintro e W' (⟨rfl, hJ', _⟩ | ⟨rfl, hJx⟩)
      · gi_wp2
        go_roundw
        case rel => exact ⟨k + 1, by omega, by go_num, hJ'⟩
        case measure => simp [intOf]; omega
      · gi_wp2
        refine bodyPost_ret (results_none rfl _ _ _) rfl ?_
        exact ⟨W0.heap.size, Nat.le_refl _, .inl ⟨⟨_, rfl⟩, .inr ⟨k, hlt, hJx⟩⟩⟩
    · obtain rfl : k = xs.length := by omega
      gi_wp2
      go_end0
      exact ⟨W0.heap.size, Nat.le_refl _, .inl ⟨⟨_, rfl⟩, .inl hJ⟩⟩
end Go.Proofs.Ytddkhnnpeonbgaa
