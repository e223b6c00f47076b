import Derived.Test.YtddkhnnpeonbgaaGreatDoorH21
import Derived.Test.YtddkhnnpeonbgaaGreatDoorH47
namespace Go.Proofs.YtddkhnnpeonbgaaGreatDoor
open Go.RowKit

set_option maxRecDepth 100000 in
set_option maxHeartbeats 3200000 in
theorem PackedGets_any (f r ca pa ha fu : Int) (bl : Bool) (p : Option Addr) (c : Nat) (xs : List Int) (hca : 0 ≤ ca ∧ ca < 256) (hl : xs.length ≤ 9223372036854775807) (hcap : xs.length ≤ c) (h8 : ∀ x ∈ xs, -128 ≤ x ∧ x ≤ 127)
  (pb : Option Addr) (cb : Nat) (bs : List Int) (hbs : isBytes bs) (hlb : bs.length ≤ 9223372036854775807) (hcb : bs.length ≤ cb) (n : Int) (w : World) (hg : GlobOk w) (hm : MaxOk w) (hx : Arr .i8 w p xs) (hb : Arr .u8 w pb bs) :
  Calls Tryz.prog 3 #[.slice pb bs.length cb, .int .i64 n, .agg (posCs f r p xs.length c bl ca pa ha fu).toArray] w fun e w' => e = .returned (.bool true) ∧ Below w.heap.size w w' := by
 have hms : 1 < w.heap.size := by obtain ⟨_, _, h⟩ := hm; exact h
 have hA := HasO.new w (.cells (posCs f r p xs.length c bl ca pa ha fu).toArray 27)
 have hB := below_box w (.cells (posCs f r p xs.length c bl ca pa ha fu).toArray 27)
 have hm1 := hm.call hB hms
 have hc := hA.cells
 have hlc := hA.lt
 by_cases h0 : (10000 : Int) < bs.length
 ·have hkn := known_any _ hm1
  go_enter Tryz.func3, Tryz.ntmps3
  go_wp2_with fail
  show Calls _ _ _ (w.alloc (.cells (posCs f r p xs.length c bl ca pa ha fu).toArray 27)) _
  refine hkn.mono ?_
  rintro e w1 ⟨rfl, hb1⟩
  go_wp2_with fail
  go_ret
  exact ⟨rfl, below_call hB hB.size hb1⟩
 ·by_cases h1 : (70 : Int) < xs.length
  ·have hkn := known_any _ hm1
   go_enter Tryz.func3, Tryz.ntmps3
   go_wp2_with fail
   show Calls _ _ _ (w.alloc (.cells (posCs f r p xs.length c bl ca pa ha fu).toArray 27)) _
   refine hkn.mono ?_
   rintro e w1 ⟨rfl, hb1⟩
   go_wp2_with fail
   go_ret
   exact ⟨rfl, below_call hB hB.size hb1⟩
  ·have hl1 : xs.length ≤ 1000 := by omega
   have hlb1 : bs.length ≤ 2000000 := by omega
   have hx1 := hx.call hB
   have hb1 := hb.call hB
   have hg1 := hg.call hB
   clear hl hlb
   go_enter Tryz.func3, Tryz.ntmps3
   go_wp2_with fail
   show Calls _ _ _ (w.alloc (.cells (posCs f r p xs.length c bl ca pa ha fu).toArray 27)) _
   generalize w.alloc (.cells (posCs f r p xs.length c bl ca pa ha fu).toArray 27) = w1 at *
   refine (Get_any pb cb bs n w1 hb1 hbs hlb1 hcb hm1).mono ?_
   rintro e w2 ⟨rfl, hb2⟩
   have hB2 := below_call hB hB.size hb2
   have hA2 := hA.call hb2
   have hbb2 := hb1.call hb2
   clear hc hlc
   obtain ⟨⟨g1, g2⟩, hG⟩ : ∃ G, getV bs n = G := ⟨_, rfl⟩
   rw [hG]
   go_wp2_with fail
   refine (refGet_any pb cb bs n w2 hbb2 hbs hlb1 hcb).mono ?_
   rintro e w3 ⟨rfl, hb3⟩
   rw [hG]
   have hB3 := below_call hB2 hB2.size hb3
   have hA3 := hA2.call hb3
   have hbb3 := hbb2.call hb3
   have hx3 := hx.call hB3
   have hg3 := hg.call hB3
   have hm3 := hm.call hB3 hms
   have hc := hA3.cells
   have hlc := hA3.lt
   clear hB2 hA2 hbb2 hb2 hb3 hA hB hx1 hb1 hg1 hm1 hG
   go_wp2_with fail
   refine (look_any f r ca pa ha fu bl p c xs hca hl1 hcap h8 pb cb bs hbs hlb1 hcb w3 hg3 hm3 hx3 hbb3).mono ?_
   rintro e w4 ⟨rfl, hb4⟩
   have hB4 := below_call hB3 hB3.size hb4
   have hA4 := hA3.call hb4
   have hbb4 := hbb3.call hb4
   have hx4 := hx.call hB4
   have hg4 := hg.call hB4
   have hm4 := hm.call hB4 hms
   obtain ⟨⟨g3, g4⟩, hG⟩ : ∃ G, lookV bs f r xs bl ca pa ha fu = G := ⟨_, rfl⟩
   rw [hG]
   clear hc hlc
   have hc := hA4.cells
   have hlc := hA4.lt
   clear hB3 hA3 hbb3 hb4 hx3 hg3 hm3
   go_wp2_with fail
   refine (refLook_any f r ca pa ha fu bl p c xs hca hl1 hcap h8 pb cb bs hbs hlb1 hcb w4 hg4 hm4 hx4 hbb4).mono ?_
   rintro e w5 ⟨rfl, hb5⟩
   have hB5 := below_call hB4 hB4.size hb5
   have hm5 := hm.call hB5 hms
   rw [hG]
   clear hc hlc hB4 hA4 hbb4 hb5 hx4 hg4 hm4 hG
   go_wp2_with fail
   refine (known_any w5 hm5).mono ?_
   rintro e w6 ⟨rfl, hb6⟩
   go_wp2_with fail
   go_ret
   exact ⟨rfl, below_call hB5 hB5.size hb6⟩
end Go.Proofs.YtddkhnnpeonbgaaGreatDoor
