/- Whole rows of cells stored at once, and results that lie in cells. No program in sight. -/
import Derived.Test.YtddkhnnpeonbgaaK3
import Derived.Laws.Tables
import Derived.Laws.ResultCell
namespace Go.Proofs.Ytddkhnnpeonbgaa
open Go.RowKit

theorem setRow_hasO {w : World} {g : Nat} {t : TypeId} {old cells : Array Value} (hg : HasO w g (.cells old t (0, 0))) : HasO (w.setRow g cells) g (.cells cells t (0, 0)) := by
  unfold HasO at hg ⊢
  simp [World.setRow, Array.getElem?_modify, hg]
theorem setRow_alt (w : World) (g : Nat) (cells : Array Value) : Alt g (g + 1) w (w.setRow g cells) := by
  refine ⟨rfl, rfl, rfl, by simp [World.setRow], fun k _ hr => ?_⟩
  simp [World.setRow, Array.getElem?_modify, show ¬ g = k by omega]
theorem setRow_size (w : World) (g : Nat) (cells : Array Value) : (w.setRow g cells).heap.size = w.heap.size := by simp [World.setRow]
theorem setRow_below {w : World} {g B : Nat} {w0 : World} {cells : Array Value} (h : Below B w0 w) (hq : B ≤ g) (hB : B ≤ w.heap.size) : Below B w0 (w.setRow g cells) := (setRow_alt w g cells).below h hq hB
theorem HasO.setRow_far {w : World} {q g : Nat} {o : Obj} {cells : Array Value} (h : HasO w q o) (hq : q ≠ g) : HasO (w.setRow g cells) q o := (setRow_alt w g cells).hasO h (by omega)

theorem wpList_storeAgg {P : Program} {ops : Array Oper} {rest : List Oper} {o : Oper} {a : Act} {w : World} {Q : Exit → Act → World → Prop} (hgd : o.guard = none) (ty : TypeId) (x y : Operand) (ho : o.op = .store ty x y)
    (g : Nat) (cells : Array Value) (hx : a.eval x = .pointer (some ⟨g, 0, none⟩)) (hy : a.eval y = .agg cells)
    (t : TypeId) (old : Array Value) (hg : HasO w g (.cells old t (0, 0))) (hi : (P.info? ty).map (·.size) = some cells.size)
    (hold : old.size = cells.size) (h1 : cells.all (·.oneCell') = true)
    (h : ∀ w', w' = w.setRow g cells → wpList P ops Q rest (a.put o.dst undef) w') : wpList P ops Q (o :: rest) a w :=
  wpList_store_row hgd ty x y ho g cells hx hy t old hg hi hold h1 (h _ rfl)

theorem results_ct {P : Program} {fn : Func} {p u : Tmp} {ty : TypeId} (h : fn.results = #[.cell p ty, .tmp u]) {tmps : Array Value} {w : World} {g : Nat} {t : TypeId} {cs : Array Value}
    (hp : tmps.getD p undef = .pointer (some ⟨g, 0, none⟩)) (hg : HasO w g (.cells cs t (0, 0)))
    (hd : (match P.underlying ty with | some (.struct _) | some (.array _ _) => true | _ => false) = true) (hi : (P.info? ty).map (·.size) = some cs.size) {v : Value} (hv : v = .tuple #[.agg cs, tmps.getD u undef]) :
    (results fn tmps).run P w = .ok v w := by
  subst hv
  cases hu : P.underlying ty with
  | none => rw [hu] at hd; cases hd
  | some d =>
    rw [hu] at hd
    rw [results_cell_tmp h, hp]
    simp only [asAddr, Sem.run_pure, Result.andThen]
    rw [run_loadVar_row w g t ty cs (0, 0) d hg hu (by cases d <;> simp_all) hi]
end Go.Proofs.Ytddkhnnpeonbgaa
