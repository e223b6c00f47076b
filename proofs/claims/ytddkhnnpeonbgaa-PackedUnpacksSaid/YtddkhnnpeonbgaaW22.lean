import Derived.Test.YtddkhnnpeonbgaaW21
namespace Go.Proofs.Ytddkhnnpeonbgaa
open Go.RowKit

/-- what packed.Pack gives, as a value in a world -/
def PackR (base : Nat) (m : Men) (es : List Int) (v : Value) (w : World) : Prop :=
  (tabOk m es = true → w.ownsRow base 5 1 v (packL m es).length ((packL m es).map (.int .u8))) ∧ (tabOk m es = false → v = .slice none 0 0)

theorem Pack_any (m : Men) (p : Option Addr) (c : Nat) (es : List Int) (w : World) (hx : Arr .i16 w p es) (hl : es.length ≤ 1000000000) (hc : es.length ≤ c) :
    Calls Try.prog 7 #[.agg (tabCs m p es.length c).toArray] w fun e w' => (∃ v, e = .returned (.tuple #[v, .int .i64 (okErr (tabOk m es))]) ∧ PackR w.heap.size m es v w') ∧ Below w.heap.size w w' := by
  have hT : HasO (w.alloc (.cells (tabCs m p es.length c).toArray 29)) w.heap.size (.cells (tabCs m p es.length c).toArray 29 (0, 0)) := HasO.new _ _
  have hb0 := below_box w (.cells (tabCs m p es.length c).toArray 29)
  have hx0 := hx.call hb0
  go_enter Try.func7, Try.ntmps7
  go_wp2_with fail
  refine (tally_any m p c es _ hx0 hl).mono ?_
  rintro e w1 ⟨⟨a1, a2, a3, a4, rfl⟩, hb1⟩
  have hT1 := hT.call hb1
  have hb2 := below_call hb0 (by simp) hb1
  have hx1 := hx0.call hb1
  have hc1 := hT1.cells
  have hlt := hT1.lt
  clear hT hb0 hx0 hb1
  rcases hok : tabOk m es with _ | _
  · have hv := Lib.hid hok
    simp only [okErr]
    go_wp2_with fail
    go_ret2
    exact ⟨⟨_, by first | rfl | (rw [hv.out]; rfl), fun h => (by rw [hv.out] at h; cases h), fun _ => rfl⟩, hb2⟩
  · have hv := Lib.hid hok
    obtain ⟨b, o, rfl, hbl, _⟩ := hx1.at (tabOk_facts hv.out).2.2.1
    simp only [okErr]
    go_wp2_with fail
    refine (pack_any m b o c es _ hv.out hx1 hc).mono ?_
    rintro e w2 ⟨v, rfl, hown, hb3⟩
    have hb4 := below_call hb2 hb2.size hb3
    have hown2 := own_mono hown hb2.size
    go_wp2_with fail
    go_ret2
    exact ⟨⟨v, by first | rfl | (rw [hv.out]; rfl), fun _ => hown2, fun h => (by rw [hv.out] at h; cases h)⟩, hb4⟩

theorem width_any (n : Int) (h0 : 0 ≤ n) (h1 : n < 32768) (w : World) : Calls Try.prog 45 #[.int .i64 n] w fun e w' => e = .returned (.int .i64 (wid n : Nat)) ∧ w' = w := by
  go_enter Try.func45, Try.ntmps45
  go_wp2_with fail
  have hw : wid n ≤ 16 := by have := wid_eq n; omega
  go_loopg [0, 3] 100 (fun q nv wv wr => ∃ (x : Int) (k : Nat), q + k = 100 ∧ 0 ≤ x ∧ x < 32768 ∧ nv = .int .i64 x ∧ wv = .int .i64 (k : Int) ∧ k + wid x = wid n ∧ wr = w)
  case atStart => exact ⟨n, 0, rfl, h0, h1, rfl, rfl, by omega, rfl⟩
  case round =>
    obtain ⟨x, k, hq, hx0, hx1, rfl, rfl, hk, rfl⟩ := hrel
    by_cases hx : 0 < x
    · have hh := wid_half hx hx1
      replace hk := Lib.hid hk
      replace hh := Lib.hid hh
      replace hw := Lib.hid hw
      have hkb : (k : Int) ≤ 100 := by omega
      go_wp2_with fail
      have hk := hk.out
      have hh := hh.out
      have hw := hw.out
      go_roundg (gk - 1)
      case measure => omega
      case rel => exact ⟨x / 2, k + 1, by omega, by omega, by omega, rfl, by go_num, by omega, rfl⟩
    · have hx2 : x = 0 := by omega
      have hz : wid x = 0 := by subst hx2; rfl
      have hkn : k = wid n := by omega
      replace hk := Lib.hid hk
      replace hkn := Lib.hid hkn
      replace hz := Lib.hid hz
      replace hx2 := Lib.hid hx2
      go_wp2_with fail
      go_ret
      exact ⟨ret_int (by rw [← hkn.out]), rfl⟩
end Go.Proofs.Ytddkhnnpeonbgaa
