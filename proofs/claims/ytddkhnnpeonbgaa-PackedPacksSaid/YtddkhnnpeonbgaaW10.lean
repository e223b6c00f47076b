import Derived.Test.YtddkhnnpeonbgaaW9
import Derived.Test.YtddkhnnpeonbgaaShelf
namespace Go.Proofs.Ytddkhnnpeonbgaa
open Go.RowKit

set_option maxHeartbeats 1000000 in
set_option maxRecDepth 100000 in
theorem write_any (base b : Nat) (v : Value) (l s : List UInt8) (g o cp : Nat) (w : World) (h : Bld base b v l w) (hl : l.length ≤ 1000000) (hs : s.length ≤ 1000000) (hB : base ≤ w.heap.size)
    (hg : g < w.heap.size) (hgb : g ≠ b) (hc : ∀ j u, (Lib.byteCells s)[j]? = some u → w.cell? ⟨g, o + j, none⟩ = some u) :
    Calls Try.prog 64 #[.pointer (some ⟨b, 0, none⟩), .slice (some ⟨g, o, none⟩) s.length cp] w fun e w' => e = .returned (.tuple #[.int .i64 s.length, .nilIface]) ∧ ∃ v', Bld base b v' (l ++ s) w' ∧ Grow2 b v.ownBlock w w' := by
  obtain ⟨i0, hi, hz0, hz1, hz2⟩ := info_parts Try.info5
  obtain ⟨p, hp, ho⟩ := h.hd
  go_enter Try.func64, Try.ntmps64
  go_wp2_with fail
  refine (copyCheck_any b p v w hp ho).mono ?_
  rintro e w1 ⟨rfl, h1, ha, hz⟩
  replace hz := Lib.hid hz
  have hown := (h.checked h1 ha).own
  have c1 : w1.cell? ⟨b, 1, none⟩ = some v := h1.cells 1
  have hc1 : ∀ j u, (Lib.byteCells s)[j]? = some u → w1.cell? ((⟨g, o, none⟩ : Addr).add j) = some u := fun j u hu => by
    rw [Addr.add_lit]
    exact (World.cell?_of_block (w := w) (ha.block g hg (by omega))).trans (hc j u hu)
  replace hc1 := Lib.hid hc1
  replace hc := Lib.hid hc
  go_wp2_with (at_builtin; refine wpList_append_own _ rfl _ _ 31 rfl base 5 i0 _ 1 1 Try.underlying31 hi hz0 hz1 hz2 rfl (by decide) _ _ _ rfl hown ⟨g, o, none⟩ s.length cp (Lib.byteCells s) rfl ?c1 hc1.out ?c2 ?c3 ?c4 ?c5 ?_)
  case c1 => simp [Lib.byteCells_length]
  case c2 => intro u hu; simp [Lib.byteCells] at hu; obtain ⟨x, _, rfl⟩ := hu; rfl
  case c3 => unfold maxLen; omega
  case c4 => omega
  case c5 => rw [hz.out]; exact hB
  intro v' w2 hown' hg _
  obtain ⟨A, cq, rfl⟩ := own_form hown'
  have h2 : HasO w2 b (.cells #[.pointer (some ⟨b, 0, none⟩), v] 120 (0, 0)) := h1.grown hg h.ne
  have d1 : w2.cell? ⟨b, 1, none⟩ = some v := h2.cells 1
  have f1 := h2.frozen 1
  have hput := h.put ha hz.out h1 (s := s) hown' hg
  go_wp2_with fail
  go_ret2
  exact ⟨rfl, _, hput⟩

theorem backward_any (A : Option Addr) (n c : Nat) (w : World) : Calls Try.prog 66 #[.slice A n c] w fun e w' => e = .returned (.func (.func 76) #[] #[.pointer (some ⟨w.heap.size, 0, none⟩)]) ∧ w.alloc (.cells #[.slice A n c] 49) = w' := by
  go_enter Try.func66, Try.ntmps66
  go_wp2_with fail
  go_ret
  exact ⟨rfl, rfl⟩
end Go.Proofs.Ytddkhnnpeonbgaa
