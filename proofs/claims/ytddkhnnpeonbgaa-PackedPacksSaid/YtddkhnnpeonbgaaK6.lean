/- A region that draws its order, where the values are known ahead and the worlds keep a property. -/
import Derived.Test.YtddkhnnpeonbgaaK5
namespace Go.Proofs.Ytddkhnnpeonbgaa
open Go.RowKit

theorem wp_region_valsL {P : Program} {id : Nat} {ops : Array Oper} {Q : Exit → Act → World → Prop} {a : Act} {w : World} (hm : P.follows .mixedOrders = true) (hb : edgesBack .any ops = true)
    (ds : List (Option Tmp)) (hds : ops.toList.map (·.dst) = ds) (hok : dstsOk ds = true)
    (vals : Nat → Value) (C : World → Prop) (h0 : C w.drew)
    (hstep : ∀ i o f w, ops[i]? = some o → i < ops.size → C w → (∀ e ∈ o.after, Region.binds .any e = true → f e.on = vals e.on) → ∀ K : Act → World → Prop, (∀ w', C w' → K ((putL ds f 0 a).put o.dst (vals i)) w') →
      if Region.wanted o (yielded ops (putL ds f 0 a).tmps) = true then o.wp P (putL ds f 0 a) w K Q else K ((putL ds f 0 a).put o.dst undef) w)
    (hend : ∀ w, C w → Q .normal (putL ds vals 0 a) w) : (Code.region id ops true).wp P Q a w := by
  refine wp_region_agL hm hb ds hds hok C (fun _ _ => True) (fun i v _ => v = vals i) (fun _ _ _ _ _ _ h => h) h0 ?_ ?_
  · intro i o f w ho hi hC hf K hK
    exact hstep i o f w ho hi hC hf K (fun w' hC' => hK _ _ hC' trivial rfl)
  · intro f w hC hf
    have hl : ds.length = ops.size := by rw [← hds]; simp
    have key : ∀ (l : List (Option Tmp)) (k : Nat) (b : Act), (∀ j, j < l.length → f (k + j) = vals (k + j)) → putL l f k b = putL l vals k b := by
      intro l
      induction l with
      | nil => intro k b _; rfl
      | cons d l ih =>
        intro k b h
        simp only [putL]
        have h0 := h 0 (by simp)
        simp only [Nat.add_zero] at h0
        rw [h0]
        exact ih (k + 1) _ (fun j hj => by have := h (j + 1) (by simp; omega); rw [show k + 1 + j = k + (j + 1) by omega]; exact this)
    rw [key ds 0 a (fun j hj => by rw [Nat.zero_add]; exact hf j (by omega))]
    exact hend w hC
end Go.Proofs.Ytddkhnnpeonbgaa
