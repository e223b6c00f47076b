import GoSem.Step
import Derived.Control
import Derived.Calls
import Derived.WalkKit
import Derived.Below
import Derived.Deep.Draws
import Derived.Laws.OwnMore
import Derived.Laws.RangeString
import Derived.Laws.Rows
import Derived.RegionTactic
import Derived.Lib.Hide
import Derived.RangeFuncNested
import Derived.RangeFuncBox
import Derived.Test.YtefmplccbkmalaaGreatDoorProg
import Derived.Deep.QuietTactic
import Derived.BigQuiet
import Derived.WalkLawsBesides
import Derived.WalkSpells
import Derived.Outline
import Derived.LoopTactic
import Derived.Deep.LoopGhost
namespace Go.Proofs.YtefmplccbkmalaaGreatDoor
open Go

theorem ask_drawn {α : Type} (a : Ask α) : ∀ w : World, w.drawn ≤ (w.ask a).2.drawn := by
 induction a with
 | done a => intro w; exact Nat.le_refl _
 | ask what range k ih =>
  intro w
  simp only [World.ask]
  split
  ·exact ih _ w
  ·refine Nat.le_trans ?_ (ih _ _)
   exact Nat.le_succ _
theorem sys_drawn (w : World) (c : Sys) : w.drawn ≤ (w.sys c).2.drawn := by
 unfold World.sys
 have h := ask_drawn (Kernel.perform c w.os) w
 split
 ·exact Nat.le_refl _
 ·rename_i e
  rw [e] at h
  exact h
theorem freeze_drawn (w : World) (a : Addr) (n : Nat) : (w.freeze a n).drawn = w.drawn := by
 unfold World.freeze
 split <;> rfl
theorem viewStore_drawn {p : Program} {w : World} {a : Addr} {u : TypeId} {k : Addr} {v : Value} {at_ : Bool} {r : World × List Addr} (h : w.viewStore p a u k v at_ = .ok r) : r.1.drawn = w.drawn := by
 unfold World.viewStore at h
 simp only [bind, Except.bind, pure, Except.pure] at h
 repeat' (split at h)
 all_goals first | (cases h; done) | (injection h with h; subst h; rfl) | skip
theorem farStore_drawn {p : Program} {w : World} {a : Addr} {v : Value} {at_ : Bool} {r : World × List Addr} (h : w.farStore p a v at_ = .ok r) : r.1.drawn = w.drawn := by
 unfold World.farStore at h
 split at h
 ·split at h
  ·rename_i e
   injection h with h
   subst h
   exact viewStore_drawn e
  ·cases h
 ·cases h
def resGe {α : Type} (n : Nat) : Result α → Prop
 | .ok _ w => n ≤ w.drawn
 | .halt _ w => n ≤ w.drawn
theorem resGe_mono {α : Type} {n m : Nat} {r : Result α} (h : resGe m r) (hn : n ≤ m) : resGe n r := by
 cases r <;> exact Nat.le_trans hn h
theorem run_drawn {α : Type} (p : Program) (s : Sem α) : ∀ w : World, resGe w.drawn (s.run p w) := by
 induction s with
 | pure a => intro w; exact Nat.le_refl _
 | load m a k ih =>
  intro w
  simp only [Sem.run]
  split
  ·exact ih _ w
  ·split
   ·exact ih _ w
   ·exact Nat.le_refl _
 | store m a v k ih =>
  intro w
  have key : resGe w.drawn (match w.cell? a with
    | some _ => if w.frozen? a then (.halt (.unsupported (.unsafePointer "a write to bytes that a string shares")) w : Result α) else k.run p (w.setCell a v)
    | none => match w.farStore p a v (m == .atomic) with
     | .ok (w, _) => k.run p w
     | .error h => .halt h w) := by
   split
   ·split
    ·exact Nat.le_refl _
    ·exact ih (w.setCell a v)
   ·split
    ·rename_i e
     have h := farStore_drawn e
     rw [← h]
     exact ih _
    ·exact Nat.le_refl _
  cases v <;> simp only [Sem.run] <;> first | exact key | exact Nat.le_refl _
 | new o k ih => intro w; simp only [Sem.run]; exact ih _ _
 | shape r k ih => intro w; simp only [Sem.run]; exact ih _ _
 | freeze a n k ih => intro w; simp only [Sem.run]; rw [← freeze_drawn w a n]; exact ih _
 | frozen a k ih => intro w; simp only [Sem.run]; exact ih _ _
 | getObj r k ih =>
  intro w
  simp only [Sem.run]
  split
  ·exact Nat.le_refl _
  ·exact ih _ _
  ·exact Nat.le_refl _
 | setObj r o k ih =>
  intro w
  simp only [Sem.run]
  split
  ·exact Nat.le_refl _
  ·exact ih _
  ·exact Nat.le_refl _
 | choose q k ih =>
  intro w
  simp only [Sem.run]
  split
  ·exact ih _ w
  ·exact resGe_mono (ih _ _) (Nat.le_succ _)
 | sys c k ih => intro w; simp only [Sem.run]; exact resGe_mono (ih _ _) (sys_drawn w c)
 | program k ih => intro w; simp only [Sem.run]; exact ih _ _
 | mark m k ih => intro w; simp only [Sem.run]; exact ih _
 | halt h => intro w; exact Nat.le_refl _
theorem runT_drawn {α : Type} (p : Program) (s : Sem α) : ∀ (w : World) (es : Array Event), resGe w.drawn (s.runT p w es).1 := by
 induction s with
 | pure a => intro w es; exact Nat.le_refl _
 | load m a k ih =>
  intro w es
  simp only [Sem.runT]
  split
  ·exact ih _ w _
  ·split
   ·exact ih _ w _
   ·exact Nat.le_refl _
 | store m a v k ih =>
  intro w es
  have h1 : ∀ es, resGe w.drawn (k.runT p (w.setCell a v) es).1 := fun es => ih (w.setCell a v) es
  have h2 : ∀ w' l es, w.farStore p a v (m == .atomic) = .ok (w', l) → resGe w.drawn (k.runT p w' es).1 := fun w' l es e => by rw [← farStore_drawn e]; exact ih w' es
  cases v <;> simp only [Sem.runT] <;> (repeat' split) <;> first | exact Nat.le_refl _ | exact h1 _ | exact h2 _ _ _ (by assumption)
 | new o k ih => intro w es; simp only [Sem.runT]; exact ih _ _ _
 | shape r k ih => intro w es; simp only [Sem.runT]; exact ih _ _ _
 | freeze a n k ih => intro w es; simp only [Sem.runT]; rw [← freeze_drawn w a n]; exact ih _ _
 | frozen a k ih => intro w es; simp only [Sem.runT]; exact ih _ _ _
 | getObj r k ih =>
  intro w es
  simp only [Sem.runT]
  split
  ·exact Nat.le_refl _
  ·exact ih _ _ _
  ·exact Nat.le_refl _
 | setObj r o k ih =>
  intro w es
  simp only [Sem.runT]
  split
  ·exact Nat.le_refl _
  ·exact ih _ _
  ·exact Nat.le_refl _
 | choose q k ih =>
  intro w es
  simp only [Sem.runT]
  split
  ·exact ih _ w _
  ·exact resGe_mono (ih _ _ _) (Nat.le_succ _)
 | sys c k ih => intro w es; simp only [Sem.runT]; exact resGe_mono (ih _ _ _) (sys_drawn w c)
 | program k ih => intro w es; simp only [Sem.runT]; exact ih _ _ _
 | mark m k ih => intro w es; simp only [Sem.runT]; exact ih _ _
 | halt h => intro w es; exact Nat.le_refl _
section
variable {α : Type} {p : Program} {s : Sem α} {w w' : World} {n : Nat} {es es' : Array Event}
theorem run_ok (h : n ≤ w.drawn) {a : α} (e : s.run p w = .ok a w') : n ≤ w'.drawn := by
 have h2 := run_drawn p s w
 rw [e] at h2
 exact Nat.le_trans h h2
theorem run_halt (h : n ≤ w.drawn) {x : Halt} (e : s.run p w = .halt x w') : n ≤ w'.drawn := by
 have h2 := run_drawn p s w
 rw [e] at h2
 exact Nat.le_trans h h2
theorem runT_ok (h : n ≤ w.drawn) {a : α} (e : s.runT p w es = (.ok a w', es')) : n ≤ w'.drawn := by
 have h2 := runT_drawn p s w es
 rw [e] at h2
 exact Nat.le_trans h h2
theorem runT_halt (h : n ≤ w.drawn) {x : Halt} (e : s.runT p w es = (.halt x w', es')) : n ≤ w'.drawn := by
 have h2 := runT_drawn p s w es
 rw [e] at h2
 exact Nat.le_trans h h2
theorem runT_ok1 (h : n ≤ w.drawn) {a : α} (e : (s.runT p w es).1 = .ok a w') : n ≤ w'.drawn := by
 have h2 := runT_drawn p s w es
 rw [e] at h2
 exact Nat.le_trans h h2
theorem runT_halt1 (h : n ≤ w.drawn) {x : Halt} (e : (s.runT p w es).1 = .halt x w') : n ≤ w'.drawn := by
 have h2 := runT_drawn p s w es
 rw [e] at h2
 exact Nat.le_trans h h2
end
def gsGe (n : Nat) : GStep → Prop
 | .go _ w _ => n ≤ w.drawn
 | .comm _ _ _ _ w _ => n ≤ w.drawn
 | .spawn _ _ w _ => n ≤ w.drawn
 | .count _ w _ => n ≤ w.drawn
 | .timer _ _ w _ => n ≤ w.drawn
 | .alone _ _ w _ => n ≤ w.drawn
 | .newcoro _ _ _ w _ => n ≤ w.drawn
 | .coroswitch _ _ _ w _ => n ≤ w.drawn
 | .collect _ w _ => n ≤ w.drawn
 | .watch _ w _ => n ≤ w.drawn
 | .ended .. => True
theorem after_ge {n : Nat} {es : Array Event} {s : GStep} (h : gsGe n s) : gsGe n (GStep.after es s) := by
 cases s <;> exact h
theorem ite_ge {n : Nat} {c : Prop} [Decidable c] {a b : GStep} (ha : gsGe n a) (hb : gsGe n b) : gsGe n (if c then a else b) := by
 split
 ·exact ha
 ·exact hb
theorem elim_ge {α : Type} {n : Nat} {o : Option α} {a : GStep} {f : α → GStep} (ha : gsGe n a) (hf : ∀ x, gsGe n (f x)) : gsGe n (o.elim a f) := by
 cases o
 ·exact ha
 ·exact hf _
theorem endWith_ge (n : Nat) (w : World) (fd : Nat) (t : ByteArray) (o : Outcome) : gsGe n (endWith w fd t o) := by
 unfold endWith
 simp only []
 repeat' first
  | exact trivial
  | split
theorem endThrow_ge {n : Nat} {w : World} (h : n ≤ w.drawn) (fr : Frame) (m : String) : gsGe n (endThrow fr m w) := h
theorem endPrinting_ge {n : Nat} {w : World} (h : n ≤ w.drawn) (p : Program) (fr : Frame) (v : Value) : gsGe n (endPrinting p fr v w) := by
 unfold endPrinting
 simp only []
 repeat' first
  | exact trivial
  | exact endThrow_ge h _ _
  | split
theorem endFatal_ge {n : Nat} {w : World} (h : n ≤ w.drawn) (p : Program) (fr : Frame) (callers : List Frame) (dying : Option Dying) (m : String) : gsGe n (endFatal p fr callers dying m w) := by
 unfold endFatal
 simp only []
 split
 ·rename_i e
  exact run_ok h e
 iterate 2 exact trivial
theorem writeOn_ge {n : Nat} {w : World} (h : n ≤ w.drawn) (p : Program) (fr : Frame) (d : Dying) (f : Fatal) : gsGe n (writeOn p fr d f w) := by
 unfold writeOn
 simp only []
 split
 ·exact trivial
 ·split
  ·rename_i e; exact runT_ok h e
  ·rename_i e; exact runT_halt h e
  iterate 2 exact trivial
theorem die_ge {n : Nat} {w : World} (h : n ≤ w.drawn) (p : Program) (fr : Frame) (d : Dying) : gsGe n (die p fr d w) := by
 unfold die
 simp only []
 repeat' first
  | exact trivial
  | exact writeOn_ge h _ _ _ _
  | exact endWith_ge _ _ _ _ _
  | exact h
  | exact run_ok h (by assumption)
  | exact runT_ok h (by assumption)
  | exact endPrinting_ge (runT_halt h (by assumption)) _ _ _
  | exact endPrinting_ge (runT_halt1 h (by assumption)) _ _ _
  | exact runT_ok1 h (by assumption)
  | apply after_ge
  | split
theorem doReturn_ge {n : Nat} {w : World} (h : n ≤ w.drawn) (p : Program) (main : Bool) (fr : Frame) (callers : List Frame) (dying : Option Dying) (v : Value) : gsGe n (doReturn p main fr callers dying v w) := by
 unfold doReturn
 simp only []
 repeat' first
  | exact trivial
  | exact h
  | split
theorem callDeferred_ge {n : Nat} {w : World} (h : n ≤ w.drawn) (p : Program) (fr : Frame) (callers : List Frame) (dying : Option Dying) (d : Deferred) : gsGe n (callDeferred p fr callers dying d w) := by
 unfold callDeferred
 simp only []
 refine ite_ge trivial ?_
 have hr := runT_drawn p (invoke d.target d.args) w #[]
 generalize (invoke d.target d.args).runT p w #[] = re at *
 obtain ⟨r, es⟩ := re
 apply after_ge
 cases r with
 | ok x w' =>
  have h2 : n ≤ w'.drawn := Nat.le_trans h hr
  cases x
  case alone on v => cases on <;> first | exact h2 | exact trivial
  case coroswitch c ex => cases ex <;> first | exact h2 | exact trivial
  all_goals simp only []
  all_goals repeat' first
   | exact trivial
   | exact h2
   | split
 | halt x w' =>
  have h2 : n ≤ w'.drawn := Nat.le_trans h hr
  cases x <;> first | exact trivial | exact h2 | exact endFatal_ge h2 _ _ _ _ _ | exact endThrow_ge h2 _ _
theorem unwind_ge {n : Nat} {w : World} (h : n ≤ w.drawn) (p : Program) (main : Bool) (fr : Frame) (callers : List Frame) (dying : Option Dying) : gsGe n (unwind p main fr callers dying w) := by
 unfold unwind
 simp only []
 repeat' first
  | exact trivial
  | exact h
  | exact callDeferred_ge h _ _ _ _ _
  | exact doReturn_ge h _ _ _ _ _ _
  | exact doReturn_ge (runT_ok h (by assumption)) _ _ _ _ _ _
  | exact endPrinting_ge h _ _ _
  | exact run_ok h (by assumption)
  | exact runT_ok h (by assumption)
  | exact runT_ok1 h (by assumption)
  | exact doReturn_ge (runT_ok1 h (by assumption)) _ _ _ _ _ _
  | apply after_ge
  | split
theorem early_ge {n : Nat} {w : World} (h : n ≤ w.drawn) (p : Program) (fr : Frame) (callers : List Frame) (dying : Option Dying) (g : Nat) : gsGe n (early p fr callers dying g w) := by
 unfold early
 simp only []
 repeat' first
  | exact trivial
  | exact h
  | exact run_ok h (by assumption)
  | (rename_i e _ _ _ _; have h9 := run_ok h e; exact h9)
  | split
theorem apply_ge {n : Nat} {w : World} (h : n ≤ w.drawn) (p : Program) (listen : Bool) (fr : Frame) (callers : List Frame) (dying : Option Dying) (s : Sem Next) : gsGe n (stepG.apply p listen fr callers dying s w) := by
 unfold stepG.apply
 simp only []
 have hr : resGe w.drawn (if listen then s.runT p w #[] else (s.run p w, #[])).1 := by
  split
  ·exact runT_drawn p s w #[]
  ·exact run_drawn p s w
 generalize (if listen then s.runT p w #[] else (s.run p w, #[])) = re at *
 obtain ⟨r, es⟩ := re
 apply after_ge
 cases r with
 | ok x w' =>
  have h2 : n ≤ w'.drawn := Nat.le_trans h hr
  cases x <;> simp only []
  all_goals repeat' first
   | exact trivial
   | exact h2
   | exact endThrow_ge h2 _ _
   | split
 | halt x w' =>
  have h2 : n ≤ w'.drawn := Nat.le_trans h hr
  cases x
  case unsupported u => cases u <;> first | exact early_ge h2 _ _ _ _ _ | exact trivial
  all_goals first | exact trivial | exact h2 | exact endFatal_ge h2 _ _ _ _ _ | exact endThrow_ge h2 _ _
theorem oper_ge {n : Nat} {w : World} (h : n ≤ w.drawn) (p : Program) (listen : Bool) (fr : Frame) (callers : List Frame) (dying : Option Dying) : gsGe n (stepG.oper p listen fr callers dying w) := by
 unfold stepG.oper
 repeat' first
  | exact trivial
  | exact apply_ge h _ _ _ _ _ _
  | split
theorem exec_ge {n : Nat} {w : World} (h : n ≤ w.drawn) (p : Program) (main listen : Bool) (fr : Frame) (callers : List Frame) (dying : Option Dying) : gsGe n (stepG.exec p main listen fr callers dying w) := by
 unfold stepG.exec
 simp only []
 repeat' first
  | exact trivial
  | exact h
  | refine elim_ge ?_ (fun _ => ?_)
  | exact apply_ge h _ _ _ _ _ _
  | exact apply_ge (runT_ok h (by assumption)) _ _ _ _ _ _
  | exact oper_ge h _ _ _ _ _
  | exact doReturn_ge (runT_ok h (by assumption)) _ _ _ _ _ _
  | exact run_ok h (by assumption)
  | exact runT_ok h (by assumption)
  | exact runT_halt h (by assumption)
  | exact runT_ok1 h (by assumption)
  | exact runT_halt1 h (by assumption)
  | exact doReturn_ge (runT_ok1 h (by assumption)) _ _ _ _ _ _
  | exact apply_ge (runT_ok1 h (by assumption)) _ _ _ _ _ _
  | apply after_ge
  | split
theorem stepG_ge (p : Program) (main : Bool) (g : Goroutine) (w : World) (listen : Bool) : gsGe w.drawn (stepG p main g w listen) := by
 unfold stepG
 simp only []
 repeat' first
  | exact die_ge (Nat.le_refl _) _ _ _
  | exact exec_ge (Nat.le_refl _) _ _ _ _ _ _
  | exact unwind_ge (Nat.le_refl _) _ _ _ _ _
  | split
def stGe (n : Nat) (s : Stepped) : Prop := ∀ m, s = .next m → n ≤ m.world.drawn
theorem stGe_end {n : Nat} {o : Outcome} {w : World} : stGe n (.ended o w) := fun m h => by cases h
theorem stGe_next {n : Nat} {m : Machine} (h : n ≤ m.world.drawn) : stGe n (.next m) := fun m' h' => by injection h' with h'; subst h'; exact h
theorem waitingAt_drawn {rest : Rest} {cases : Array CommCase} {w w' : World} (h : waitingAt rest cases w = some w') : w'.drawn = w.drawn := by
 unfold waitingAt at h
 repeat' first
  | (cases h; done)
  | (injection h with h; subst h; rfl)
  | split at h
theorem communicate_drawn {n : Nat} (p : Program) (rest : Rest) (gs : Array Goroutine) (i : Nat) (g : Goroutine) (cases : Array CommCase) (blocking : Bool) (shape : CommShape) (w : World) (hn : n ≤ w.drawn) (m' : Machine)
  (h : (communicate p rest gs i g cases blocking shape w).1 = .next m') : n ≤ m'.world.drawn := by
 unfold communicate at h
 simp only [] at h
 repeat' first
  | (simp at h; done)
  | (simp only [Stepped.next.injEq] at h; subst h; exact hn)
  | (simp only [Stepped.next.injEq] at h; subst h; rename_i e; have h9 := waitingAt_drawn e; exact Nat.le_trans hn (Nat.le_of_eq h9.symm))
  | (simp only [Stepped.next.injEq] at h; subst h; have h9 := run_ok hn (by assumption); exact h9)
  | (simp only [Stepped.next.injEq] at h; subst h; have h9 := run_halt (run_ok hn (by assumption)) (by assumption); exact h9)
  | (simp only [Stepped.next.injEq] at h; subst h; have h9 := run_ok (run_ok hn (by assumption)) (by assumption); exact h9)
  | split at h
theorem look_drawn {n : Nat} {w : World} (hn : n ≤ w.drawn) (p : Program) (gs : Array Goroutine) (rest : Rest) (m' : Machine) (h : look p gs rest w = .next m') : n ≤ m'.world.drawn := by
 unfold look at h
 simp only [] at h
 repeat' first
  | (simp at h; done)
  | (simp only [Stepped.next.injEq] at h; subst h; have h9 := run_ok hn (by assumption); exact h9)
  | split at h
theorem drain_drawn (w : World) (c : Nat) : (drain w c).2.drawn = w.drawn := by
 unfold drain
 split <;> rfl
theorem retime_drawn (m : Machine) (k : Nat) (t : Timer) (when_ period : Nat) : (retime m k t when_ period).2.world.drawn = m.world.drawn := by
 unfold retime
 cases t.chan with
 | none => rfl
 | some c => exact drain_drawn m.world c
theorem opened_drawn {m m' : Machine} {var : Addr} (h : timerOp.opened m var = some m') : m'.world.drawn = m.world.drawn := by
 unfold timerOp.opened at h
 repeat' first
  | (cases h; done)
  | (injection h with h; subst h; rfl)
  | split at h
theorem named_drawn {n : Nat} {m : Machine} {var : Addr} {f : Nat → Timer → Value × Machine} (hf : ∀ k t, n ≤ (f k t).2.world.drawn) {r : Value × Machine} (h : timerOp.named m var f = .ok r) : n ≤ r.2.world.drawn := by
 unfold timerOp.named at h
 split at h
 ·injection h with h; subst h; exact hf _ _
 ·cases h
theorem timerOp_drawn {n : Nat} {m : Machine} (hn : n ≤ m.world.drawn) (op : TimerOp) {v : Value} {m' : Machine} (h : timerOp m op = .ok (v, m')) : n ≤ m'.world.drawn := by
 cases op <;> simp only [timerOp] at h
 case stop var => exact named_drawn (fun k t => by rw [retime_drawn]; exact hn) h
 case reset var wh pe =>
  split at h
  ·rename_i e
   exact named_drawn (fun k t => by rw [retime_drawn, opened_drawn e]; exact hn) h
  ·cases h
 all_goals repeat' first
  | (cases h; done)
  | (injection h with h; injection h with _ h; subst h; exact hn)
  | split at h
theorem runT_drawnM (p : Program) (m m' : Machine) (i : Nat) (b : Bool) (h : (Go.runT p m i b).1 = .next m') : m.world.drawn ≤ m'.world.drawn := by
 simp only [Go.runT] at h
 generalize m.gs.swapAt! _ _ = gg at h
 have hs := stepG_ge p (i == 0) gg.1 m.world b
 revert hs h
 generalize stepG p _ gg.1 m.world b = s
 intro h hs
 cases s <;> simp only [] at h
 all_goals first
  | (simp at h; done)
  | exact communicate_drawn _ _ _ _ _ _ _ _ _ hs _ h
  | exact look_drawn hs _ _ _ _ h
  | (simp only [Stepped.next.injEq] at h; subst h; exact hs)
  | (repeat' first
    | (simp at h; done)
    | (simp only [Stepped.next.injEq] at h; subst h; exact hs)
    | (simp only [Stepped.next.injEq] at h; subst h; rename_i e; have h9 := timerOp_drawn (m := _) hs _ e; exact h9)
    | (rename_i e; unfold endThrow dieOf at e; simp only [GStep.go.injEq] at e; simp only [Stepped.next.injEq] at h; subst h; rw [← e.2.1]; exact hs)
    | split at h)
theorem serve_drawn (p : Program) (m m' : Machine) (k : Nat) (h : serve p m k = .next m') : m.world.drawn ≤ m'.world.drawn := by
 unfold serve at h
 simp only [] at h
 repeat' first
  | (simp at h; done)
  | (simp only [Stepped.next.injEq] at h; subst h; exact Nat.le_refl _)
  | split at h
def mvGe (n : Nat) : Move → Prop
 | .goroutine m _ => n ≤ m.world.drawn
 | .machine s _ => stGe n s
theorem serve_ge {n : Nat} {p : Program} {m : Machine} (h : n ≤ m.world.drawn) (k : Nat) : stGe n (serve p m k) := fun m' e => Nat.le_trans h (serve_drawn p m m' k e)
theorem mv_ite {n : Nat} {c : Prop} [Decidable c] {a b : Move} (ha : mvGe n a) (hb : mvGe n b) : mvGe n (if c then a else b) := by
 split
 ·exact ha
 ·exact hb
theorem mvGe_mono {n k : Nat} {v : Move} (h : mvGe k v) (hn : n ≤ k) : mvGe n v := by
 cases v with
 | goroutine m i => exact Nat.le_trans hn h
 | machine s ops => exact fun m e => Nat.le_trans hn (h m e)
theorem askOn_ge (p : Program) (m : Machine) : mvGe m.world.drawn (askOn p m) := by
 have hk : ∀ {α : Type} {s : Sem α} {w w' : World} {a : α}, m.world.drawn ≤ w.drawn → s.run p w = .ok a w' → m.world.drawn ≤ w'.drawn := fun h e => run_ok h e
 unfold askOn
 simp only []
 repeat' first
  | exact stGe_end
  | exact serve_ge (hk (Nat.le_refl _) (by assumption)) _
  | exact stGe_next (hk (Nat.le_refl _) (by assumption))
  | refine mv_ite ?_ ?_
  | split
 all_goals first
  | (have h9 := hk (hk (hk (hk (Nat.le_refl _) (by assumption)) (by assumption)) (by assumption)) (by assumption); exact h9)
  | (have h9 := hk (hk (hk (Nat.le_refl _) (by assumption)) (by assumption)) (by assumption); first | exact h9 | exact stGe_next h9)
  | (have h9 := hk (hk (Nat.le_refl _) (by assumption)) (by assumption); first | exact h9 | exact stGe_next h9)
  | (have h9 := hk (Nat.le_refl _) (by assumption); first | exact h9 | exact stGe_next h9)
  | (have h1 := hk (hk (Nat.le_refl _) (by assumption)) (by assumption)
     have h2 := hk (w := (Machine.advanceTo { world := _, gs := m.gs, rest := m.rest } _).world) h1 (by assumption)
     first
      | exact h2
      | (have h3 := hk h2 (by assumption); exact h3))
theorem ask_ge (p : Program) (m : Machine) : mvGe m.world.drawn (Go.ask p m) := by
 unfold Go.ask
 split
 ·split
  ·exact stGe_end
  ·rename_i e
   have h1 := run_ok (Nat.le_refl _) e
   split
   ·rename_i e2
    have h2 := look_drawn h1 _ _ _ _ e2
    have h3 := askOn_ge p
    exact mvGe_mono (h3 _) h2
   ·rename_i s hne
    cases hs : look p m.gs m.rest _ with
    | next m2 => exact absurd hs (hne m2)
    | ended o w => exact stGe_end
  ·rename_i e
   have h1 := run_ok (Nat.le_refl _) e
   exact mvGe_mono (askOn_ge p _) h1
 ·exact askOn_ge p m
theorem move_ge (p : Program) (m : Machine) : mvGe m.world.drawn (Go.move p m) := by
 unfold Go.move
 repeat' first
  | exact stGe_end
  | exact ask_ge p m
  | exact ask_ge p { m with rest := { m.rest with slice := none } }
  | exact Nat.le_refl _
  | split
theorem step_drawn {p : Program} {m m' : Machine} (h : step p m = .next m') : m.world.drawn ≤ m'.world.drawn := by
 unfold step stepT at h
 have hm := move_ge p m
 split at h
 ·rename_i e
  rw [e] at hm
  exact Nat.le_trans hm (runT_drawnM p _ m' _ _ h)
 ·rename_i e
  rw [e] at hm
  exact hm m' h
theorem runN_drawn {p : Program} (n : Nat) : ∀ {m m' : Machine}, runN p n m = .next m' → m.world.drawn ≤ m'.world.drawn := by
 induction n with
 | zero => intro m m' h; injection h with h; subst h; exact Nat.le_refl _
 | succ n ih =>
  intro m m' h
  unfold runN at h
  split at h
  ·rename_i e
   exact Nat.le_trans (step_drawn e) (ih h)
  ·rename_i hne
   cases hs : step p m with
   | next m2 => exact absurd hs (hne m2)
   | ended o w => rw [hs] at h; cases h
theorem calls_drawn {P : Program} {f : FuncId} {args : Array Value} {w : World} {R : Ending → World → Prop} (h : Calls P f args w R) :
  Calls P f args w fun e w' => R e w' ∧ ∀ v, e = .returned v → w.drawn ≤ w'.drawn := by
 intro cs
 obtain ⟨e, w', fr, hR, hC, h1, h2⟩ := h cs
 refine ⟨e, w', fr, ⟨hR, ?_⟩, hC, h1, h2⟩
 rintro v rfl
 obtain ⟨n, hn⟩ := hC
 exact runN_drawn n hn
end Go.Proofs.YtefmplccbkmalaaGreatDoor
namespace Go.Proofs.YtefmplccbkmalaaGreatDoor
open Go.RowKit

def sideB (n : Int) : Bool := decide (3 ≤ n) && decide (n ≤ 8)
def sizeB (f r : Int) : Bool := sideB f && sideB r

structure Men where
 (f r w0 w1 w2 w3 w4 b0 b1 b2 b3 b4 : Int)
deriving DecidableEq
abbrev Men.cs (m : Men) : List Value := [.int .i64 m.f, .int .i64 m.r, .int .i64 m.w0, .int .i64 m.w1, .int .i64 m.w2, .int .i64 m.w3, .int .i64 m.w4, .int .i64 m.b0, .int .i64 m.b1, .int .i64 m.b2, .int .i64 m.b3, .int .i64 m.b4]

def Men.sb (m : Men) (k : Nat) : Int := match k with | 0 => m.b0 | 1 => m.b1 | 2 => m.b2 | 3 => m.b3 | _ => m.b4
def ch (n k : Nat) : Nat := match k with | 0 => 1 | 1 => n | 2 => n * (n - 1) / 2 | 3 => n * (n - 1) * (n - 2) / 6 | 4 => n * (n - 1) * (n - 2) * (n - 3) / 24 | _ => 0
def str (l : List UInt8) : ByteArray := ⟨l.toArray⟩
theorem str_append (a b : List UInt8) : str a ++ str b = str (a ++ b) := by
 simp [str, ByteArray.ext_iff]
theorem str_size (l : List UInt8) : (str l).size = l.length := by simp [str, ByteArray.size]
theorem bcell {W w1 : World} (hb : Below W.heap.size W w1) : (∀ b o, b < W.heap.size → w1.cell? ⟨b, o, none⟩ = W.cell? ⟨b, o, none⟩) ∧ (∀ b o, b < W.heap.size → w1.frozen? ⟨b, o, none⟩ = W.frozen? ⟨b, o, none⟩) :=
 ⟨fun b o h => hb.cell (p := ⟨b, o, none⟩) h, fun b o h => hb.frozen (p := ⟨b, o, none⟩) h⟩
theorem below_drewN {B : Nat} {w w' : World} (h : Below B w w') (n : Nat) : Below B w (w'.drewN n) := ⟨h.os, h.tape, h.output, h.size, h.block⟩
theorem below_box (w : World) (o : Obj) : Below w.heap.size w (w.alloc o) := (Below.refl _ _).alloc (Nat.le_refl _) _
theorem below_call {w0 w w' : World} {B : Nat} (h : Below B w0 w) (hB : B ≤ w.heap.size) (hb : Below w.heap.size w w') : Below B w0 w' := h.trans (hb.mono hB)
theorem ret_bool {a b : Bool} (h : a = b) : Ending.returned (.bool a) = .returned (.bool b) := by rw [h]
theorem ret_int {k : IntKind} {a b : Int} (h : a = b) : Ending.returned (.int k a) = .returned (.int k b) := by rw [h]
theorem ret_v {a b : Value} (h : a = b) : Ending.returned a = .returned b := by rw [h]
@[simp] theorem iter_size (w : World) (s : ByteArray) (k : Nat) : (w.iter s k).heap.size = w.heap.size + 1 := by simp [World.iter]

def HasO (w : World) (q : Nat) (o : Obj) : Prop := w.heap[q]? = some o
section
variable {w w' : World} {q B : Nat} {o : Obj}
theorem HasO.lt (h : HasO w q o) : q < w.heap.size := (Array.getElem?_eq_some_iff.1 h).1
theorem HasO.new (w : World) (o : Obj) : HasO (w.alloc o) w.heap.size o := World.alloc_heap_new w o
theorem HasO.new' (w : World) (o : Obj) {q : Nat} (hq : q = w.heap.size) : HasO (w.alloc o) q o := by subst hq; exact HasO.new w o
theorem HasO.drewN (h : HasO w q o) (n : Nat) : HasO (w.drewN n) q o := h
theorem HasO.drew (h : HasO w q o) : HasO w.drew q o := h
theorem HasO.alloc (h : HasO w q o) (o' : Obj) : HasO (w.alloc o') q o := (Below.heap_alloc w o' q h.lt).trans h
theorem HasO.far (h : HasO w q o) {p : Addr} (hp : q ≠ p.block) (u : Value) : HasO (w.setCell p u) q o := (Below.heap_setCell w p u q hp).trans h
theorem HasO.below (h : HasO w q o) (hb : Below B w w') (hq : q < B) : HasO w' q o := (hb.block q hq).trans h
theorem HasO.call (h : HasO w q o) (hb : Below w.heap.size w w') : HasO w' q o := h.below hb h.lt
theorem HasO.grown (h : HasO w q o) {row : Option Nat} (hg : w.grownBy w' row) (hr : row ≠ some q) : HasO w' q o := (hg.block q h.lt (fun e => hr e.symm)).trans h
theorem HasO.iter (h : HasO w q o) (s : ByteArray) (k : Nat) : HasO (w.iter s k) q o := h.alloc _
theorem HasO.cells {cs : Array Value} {t : TypeId} (h : HasO w q (.cells cs t (0, 0))) (j : Nat) : w.cell? ⟨q, j, none⟩ = cs[j]? := cell_of_row w q j cs t (0, 0) h
theorem HasO.frozen {cs : Array Value} {t : TypeId} (h : HasO w q (.cells cs t (0, 0))) (j : Nat) : w.frozen? ⟨q, j, none⟩ = false := by
 unfold HasO at h; simp [World.frozen?, h]
theorem HasO.set_ {cs : Array Value} {t : TypeId} (h : HasO w q (.cells cs t (0, 0))) (i : Nat) (u : Value) : HasO (w.setCell ⟨q, i, none⟩ u) q (.cells (cs.setIfInBounds i u) t (0, 0)) := by
 unfold HasO at h ⊢
 simp [World.setCell, Array.getElem?_modify, h]
theorem HasO.ne_ {q' : Nat} {o' : Obj} (h : HasO w q o) (h' : HasO w q' o') (hne : o ≠ o') : q ≠ q' := by
 rintro rfl
 exact hne (Option.some.inj (h.symm.trans h'))
theorem own_ne {base : Nat} {e : TypeId} {size n : Nat} {v : Value} {xs : List Value} (h : w.ownsRow base e size v n xs) (hq : HasO w q o) (ho : ∀ c, o ≠ .cells c e (0, 0)) : v.ownBlock ≠ some q := by
 rcases h.2 with ⟨rfl, _⟩ | ⟨g, cap, cur, rfl, _, hh, _⟩
 ·simp [Value.ownBlock]
 ·intro he
  have : g = q := by simpa [Value.ownBlock] using he
  subst this
  exact ho cur (Option.some.inj (hq.symm.trans hh))
theorem own_mono {base base' : Nat} {e : TypeId} {size n : Nat} {v : Value} {xs : List Value} (h : w.ownsRow base e size v n xs) (hb : base' ≤ base) : w.ownsRow base' e size v n xs := by
 refine ⟨h.1, ?_⟩
 rcases h.2 with h2 | ⟨g, cap, cur, hv, hg, r⟩
 ·exact .inl h2
 ·exact .inr ⟨g, cap, cur, hv, Nat.le_trans hb hg, r⟩
theorem own_call {base : Nat} {e : TypeId} {size n : Nat} {v : Value} {xs : List Value} (h : w.ownsRow base e size v n xs) (hb : Below w.heap.size w w') : w'.ownsRow base e size v n xs :=
 h.kept (row := none) ⟨hb.os, hb.tape, hb.output, hb.size, fun k hk _ => hb.block k hk⟩ (by rcases v.ownBlock with _ | x <;> simp)
end

theorem wpList_push {P : Program} {W : World} {ops : Array Oper} {rest : List Oper} {o : Oper} {a : Act} {Q : Exit → Act → World → Prop} (hgd : o.guard = none) (s x : Operand) (t : TypeId)
  (ho : o.op = .call { callee := .builtin .append, args := #[s, x], argTypes := #[t, t] })
  (base : Nat) (e : TypeId) (i : TypeInfo) (z : Value) (size bytes : Nat) (ht : P.underlying t = some (.slice e)) (hi : P.info? e = some i) (hz : i.zero = some z)
  (hsize : i.size = size) (hby : i.bytes = bytes) (hzs : z.cells.size = size) (hsz : 0 < size)
  (v : Value) (n : Nat) (xs : List Value) (hs : a.eval s = v) (hown : W.ownsRow base e size v n xs)
  (news : List Value) (hl : news.length = size) (h1 : ∀ u ∈ news, u.oneCell' = true) (q : Nat) (hq : q = W.heap.size) (hx : a.eval x = .slice (some ⟨q, 0, none⟩) 1 1)
  (hbytes : (n + 1) * (bytes + 1) ≤ 140737488355328) (hbase : base ≤ W.heap.size)
  (h : ∀ v' w', w'.ownsRow base e size v' (n + 1) (xs ++ news) → W.grownBy w' v.ownBlock → v' ≠ .slice none 0 0 → wpList P ops Q rest (a.put o.dst v') w') :
  wpList P ops Q (o :: rest) a (W.alloc (.cells news.toArray e)) := by
 subst hq
 have hb1 : (n + 1) * bytes ≤ 140737488355328 := Nat.le_trans (Nat.mul_le_mul_left _ (by omega)) hbytes
 have hb2 : n + 1 ≤ maxLen := by
  have : (n + 1) * 1 ≤ (n + 1) * (bytes + 1) := Nat.mul_le_mul_left _ (by omega)
  unfold maxLen; omega
 refine wpList_append_own _ hgd s x t ho base e i z size bytes ht hi hz hsize hby hzs hsz v n xs hs (hown.alloc _) ⟨W.heap.size, 0, none⟩ 1 1 news hx (by omega) ?_ h1 hb2 hb1 (by simp; omega) ?_
 ·intro j u hu
  rw [Addr.add_lit]
  have := (HasO.new W (.cells news.toArray e)).cells j
  rw [Nat.zero_add, this]
  simpa using hu
 ·intro v' w' ho' hg hnil
  refine h v' w' ho' ⟨hg.os, hg.tape, hg.output, Nat.le_trans (by simp) hg.size, fun k hk hne => ?_⟩ (fun e => by have := hnil.1 e; omega)
  exact (hg.block k (by simp; omega) hne).trans (Below.heap_alloc _ _ _ hk)
theorem side_any (n : Int) (w : World) : Calls Tryz.prog 182 #[.int .i64 n] w fun e w' => e = .returned (.bool (sideB n)) ∧ w = w' := by
 go_enter Tryz.func182, Tryz.ntmps182
 go_wp2
 all_goals (go_ret; refine ⟨?_, rfl⟩; simp [sideB, *])
 omega
theorem side_t (n : Int) (w : World) (h : sideB n = true) : Calls Tryz.prog 182 #[.int .i64 n] w fun e w' => e = .returned (.bool true) ∧ w = w' := 
 (side_any n w).mono fun e w' ⟨h1, h2⟩ => ⟨by rw [h1, h], h2⟩
theorem side_f (n : Int) (w : World) (h : sideB n = false) : Calls Tryz.prog 182 #[.int .i64 n] w fun e w' => e = .returned (.bool false) ∧ w = w' := 
 (side_any n w).mono fun e w' ⟨h1, h2⟩ => ⟨by rw [h1, h], h2⟩

theorem validSize_any (f r : Int) (w : World) : Calls Tryz.prog 140 #[.agg #[.int .i64 f, .int .i64 r]] w fun e w' => e = .returned (.bool (sizeB f r)) ∧ Below w.heap.size w w' := by
 go_enter Tryz.func140, Tryz.ntmps140
 rcases h : sideB f with _ | _
 ·go_wp2_with fail
  refine (side_f _ _ h).mono ?_
  rintro e w' ⟨rfl, rfl⟩
  go_wp2_with fail
  go_ret
  exact ⟨by simp [sizeB, h], below_box _ _⟩
 ·go_wp2_with fail
  refine (side_t _ _ h).mono ?_
  rintro e w' ⟨rfl, rfl⟩
  go_wp2_with fail
  refine (side_any _ _).mono ?_
  rintro e w' ⟨rfl, rfl⟩
  go_wp2_with fail
  go_ret
  exact ⟨by simp [sizeB, h], below_box _ _⟩

theorem size_any (f r : Int) (w : World) : Calls Tryz.prog 112 #[.agg #[.int .i64 f, .int .i64 r]] w fun e w' => e = .returned (.bool (sizeB f r)) ∧ Below w.heap.size w w' := by
 go_enter Tryz.func112, Tryz.ntmps112
 go_wp2
 all_goals (go_ret; refine ⟨?_, below_box _ _⟩; simp [sizeB, sideB, *] <;> omega)

end Go.Proofs.YtefmplccbkmalaaGreatDoor
