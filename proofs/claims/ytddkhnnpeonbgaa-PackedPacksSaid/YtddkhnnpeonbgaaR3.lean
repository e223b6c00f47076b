/- The law PackedPacks returns true at every table that a start may hand it: any men, and entries that are nil or a row of any length and capacity that the model allows. The table reads behind the call as it read before. -/
import Derived.Test.YtddkhnnpeonbgaaR1
import Derived.Test.YtddkhnnpeonbgaaW41
namespace Go.Proofs.Ytddkhnnpeonbgaa
open Go.ChangeShapes Go.WideShapes Go.ChangeAt Go.RowKit

theorem Try.cells56 : Try.prog.cellsOf 56 = 1 := by kernel_rfl
theorem Try.cells29 : Try.prog.cellsOf 29 = 13 := by kernel_rfl
theorem Try.cellTypes29 : Try.prog.cellTypes Try.prog.depth 29 = some [3, 3, 3, 3, 3, 3, 3, 3, 3, 3, 3, 3, 27] := by kernel_rfl
set_option maxRecDepth 100000 in
theorem cell_int {W : World} {base : Nat} {c : Value} (h : Cell.okWide Try.prog W .any base 3 c) : ∃ n, c = .int .i64 n :=
  okWide_int Try.underlying3 (by simp only [Value.okWide, Try.underlying3]; exact h)
set_option maxRecDepth 100000 in
theorem cell_slice {W : World} {base : Nat} {c : Value} (h : Cell.okWide Try.prog W .any base 27 c) : ∃ a n k, c = .slice a n k :=
  okWide_slice Try.underlying27 (by simp only [Value.okWide, Try.underlying27]; exact h)
set_option maxRecDepth 100000 in
theorem open_tab {W : World} {base : Nat} {v : Value} (h : Value.okWide Try.prog W .any base 29 v) : ∃ (m : Men) (a : Option Addr) (n k : Nat), v = .agg (tabCs m a n k).toArray := by
  simp only [Value.okWide, Try.underlying29] at h
  obtain ⟨cs, rfl, hsz, ts, hts, _, hall⟩ := h
  rw [Try.cellTypes29] at hts
  cases hts
  rw [Try.cells29] at hsz
  obtain ⟨l⟩ := cs
  match l, hsz with
  | [c0, c1, c2, c3, c4, c5, c6, c7, c8, c9, c10, c11, c12], _ =>
    have g : ∀ (i : Nat) (c : Value), i < 12 → [c0, c1, c2, c3, c4, c5, c6, c7, c8, c9, c10, c11, c12][i]? = some c → ∃ n, c = .int .i64 n := by
      intro i c hi hc
      obtain ⟨u, h1, h2⟩ := hall i c (by rw [List.getElem?_toArray]; exact hc)
      have e : u = 3 := by
        rcases (by omega : i = 0 ∨ i = 1 ∨ i = 2 ∨ i = 3 ∨ i = 4 ∨ i = 5 ∨ i = 6 ∨ i = 7 ∨ i = 8 ∨ i = 9 ∨ i = 10 ∨ i = 11) with rfl | rfl | rfl | rfl | rfl | rfl | rfl | rfl | rfl | rfl | rfl | rfl <;> exact (Option.some.inj (show some 3 = some u from h1)).symm
      subst e
      exact cell_int h2
    obtain ⟨n0, rfl⟩ := g 0 _ (by omega) rfl
    obtain ⟨n1, rfl⟩ := g 1 _ (by omega) rfl
    obtain ⟨n2, rfl⟩ := g 2 _ (by omega) rfl
    obtain ⟨n3, rfl⟩ := g 3 _ (by omega) rfl
    obtain ⟨n4, rfl⟩ := g 4 _ (by omega) rfl
    obtain ⟨n5, rfl⟩ := g 5 _ (by omega) rfl
    obtain ⟨n6, rfl⟩ := g 6 _ (by omega) rfl
    obtain ⟨n7, rfl⟩ := g 7 _ (by omega) rfl
    obtain ⟨n8, rfl⟩ := g 8 _ (by omega) rfl
    obtain ⟨n9, rfl⟩ := g 9 _ (by omega) rfl
    obtain ⟨n10, rfl⟩ := g 10 _ (by omega) rfl
    obtain ⟨n11, rfl⟩ := g 11 _ (by omega) rfl
    obtain ⟨u, h1, h2⟩ := hall 12 c12 (by rw [List.getElem?_toArray]; rfl)
    have e : u = 27 := (Option.some.inj (show some 27 = some u from h1)).symm
    subst e
    obtain ⟨a, n, k, rfl⟩ := cell_slice h2
    exact ⟨⟨n0, n1, n2, n3, n4, n5, n6, n7, n8, n9, n10, n11⟩, a, n, k, rfl⟩

set_option maxHeartbeats 800000 in
set_option maxRecDepth 100000 in
theorem packs_lifted (os : Os) (started : os.Started) (H : Type) (enc : TypeId × Value → H) :
    ReturnsInHanded {} Try.checked os 3 .any (Rows.packedPacksSpec.pre6 enc Try.prog Try.f3 Rows.packedPacksRow.domain false) (Rows.packedPacksSpec.post enc Try.prog Try.f3 false true false false) := by
  refine returnsInHanded_of_change_shaped (C := Try.checked) Try.own started (by kernel_rfl) Try.func3
    (ChangeSpec.witness6 (enc := enc) (C := Try.checked) false ⟨#[], #[.agg (tabCs zeroMen none 0 0).toArray], []⟩ 8 (by kernel_rfl) (by kernel_rfl) (by kernel_rfl) (by kernel_rfl)) ?_
  intro W base args ds gs before hval0 hW hcnd0 _ hsh _
  have hval : ∀ (j : Nat) t v, Try.f3.params[j]? = some t → args[j]? = some v → Value.okWide Try.prog W .any base t v := hval0
  have hW' := hW
  obtain ⟨p, q, hA0, hV, rfl, _, _⟩ := hW
  have hA : DataW.TrodAll enc Try.prog W 0 (fun _ => true) true Try.f3.params.toList args.toList ds p := hA0
  rw [Try.params3] at hA hval
  obtain ⟨v0, d0, rfl, rfl, h0⟩ := trodAll_one hA
  obtain ⟨rfl, rfl⟩ := trodVars_none hV
  obtain ⟨m, a0, len, cap, rfl⟩ := open_tab (hval 0 29 v0 rfl rfl)
  have h0k := h0
  obtain ⟨fuel, hf⟩ := h0
  clear hA0 hval0
  simp only [List.append_nil] at hW'
  have hlt : ∀ x ∈ p, x.block < W.heap.size := fun x hx => by simpa using hW'.lt x hx
  have hargs : ∀ (W' : World), Below W.heap.size W W' → DataW.Trod enc Try.prog W' 0 (fun b => decide (b < W.heap.size)) true 29 (.agg (tabCs m a0 len cap).toArray) d0 p :=
    fun W' hn => Below.trod Try.laidOut (by kernel_rfl) (of_decide_eq_true (by kernel_rfl)) h0k hn hlt
  have hm := max_of hsh
  have hmax : maxLen ≤ 9223372036854775807 := by decide
  have hfin : ∀ (e : Ending) (W' : World), e = .returned (.bool true) ∧ Below W.heap.size W W' → ∃ v, e = .returned v ∧ Rows.packedPacksSpec.post enc Try.checked.prog Try.f3 false true false false W #[.agg (tabCs m a0 len cap).toArray] v W' := by
    rintro e W' ⟨rfl, hnx⟩
    exact ⟨_, rfl, _, _, _, [], _, [], hW', trodAll_mk1 (shut_bool Try.underlying4 _), trodAll_mk1 (hargs _ hnx), rfl, hnx.frame _, fun h => by cases h⟩
  obtain ⟨y0, y1, n, _, _, _, h1⟩ := trod_struct2 Try.underlying29 hf
  have h1' : DataW.trod enc Try.prog W 0 (fun _ => true) true n 27 [.slice a0 len cap] = some y1 := h1
  rcases open_ints Try.underlying27 Try.underlying56 Try.cells56 h1' with ⟨hcs, _⟩ | ⟨a, len', cap', zs, hcs, _, hl, hmx, hz, hx, hcell, hwz⟩
  · simp only [List.cons.injEq, Value.slice.injEq, and_true] at hcs
    obtain ⟨rfl, rfl, rfl⟩ := hcs
    exact (PackedPacks_any m none 0 [] W (.inl rfl) (by decide) (by decide) (fun _ => rfl) hm).mono hfin
  · simp only [List.cons.injEq, Value.slice.injEq, and_true] at hcs
    obtain ⟨rfl, rfl, rfl⟩ := hcs
    simp only [if_true] at hz
    have hlen : (zs.take len).length = len := by simp; omega
    have hA1 := arr_of (n := len) (by omega) hcell
    have hlaw := PackedPacks_any m (some a) cap (zs.take len) W hA1 (by omega) (by omega) (fun h => by cases h) hm
    rw [hlen] at hlaw
    exact hlaw.mono hfin

theorem packedPacks_holds : Rows.PackedPacksSaid :=
  OpenClaim.holds_of_wide 3 Try.f3 rfl rfl rfl rfl rfl rfl rfl ⟨rfl, rfl, rfl, rfl, rfl⟩ rfl rfl rfl rfl rfl (by kernel_rfl) Try.func3 (by kernel_rfl)
    (of_decide_eq_true (by kernel_rfl)) (by unfold Func.isWrapper; first | (rw [if_pos (by decide +kernel)]; kernel_rfl) | (rw [if_neg (by decide +kernel)]; exact ⟨rfl, rfl⟩))
    (fun os started H enc _ => packs_lifted os started H enc)

#print axioms packedPacks_holds
end Go.Proofs.Ytddkhnnpeonbgaa
