import Derived.Test.YtefmplccbkmalaaGreatDoorH19
import GoSem.Step
import Derived.Control
import Derived.Calls
set_option maxHeartbeats 12800000
namespace Go.Proofs.YtefmplccbkmalaaGreatDoor
open Go

theorem ask_drawn {α : Type} (a : Ask α) : ∀ w : World, w.drawn ≤ (w.ask a).2.drawn := by
 induction a with
 | done a => intro w; exact Nat.le_refl _
 | ask what range k ih =>
  intro w
  simp only [World.ask]
  split
  ·exact ih _ w
  ·refine Nat.le_trans ?_ (ih _ _)
   exact Nat.le_succ _
theorem sys_drawn (w : World) (c : Sys) : w.drawn ≤ (w.sys c).2.drawn := by
 unfold World.sys
 have h := ask_drawn (Kernel.perform c w.os) w
 split
 ·exact Nat.le_refl _
 ·rename_i e
  rw [e] at h
  exact h
theorem freeze_drawn (w : World) (a : Addr) (n : Nat) : (w.freeze a n).drawn = w.drawn := by
 unfold World.freeze
 split <;> rfl
theorem viewStore_drawn {p : Program} {w : World} {a : Addr} {u : TypeId} {k : Addr} {v : Value} {at_ : Bool} {r : World × List Addr} (h : w.viewStore p a u k v at_ = .ok r) : r.1.drawn = w.drawn := by
 unfold World.viewStore at h
 simp only [bind, Except.bind, pure, Except.pure] at h
 repeat' (split at h)
 all_goals first | (cases h; done) | (injection h with h; subst h; rfl) | skip
theorem farStore_drawn {p : Program} {w : World} {a : Addr} {v : Value} {at_ : Bool} {r : World × List Addr} (h : w.farStore p a v at_ = .ok r) : r.1.drawn = w.drawn := by
 unfold World.farStore at h
 split at h
 ·split at h
  ·rename_i e
   injection h with h
   subst h
   exact viewStore_drawn e
  ·cases h
 ·cases h
def resGe {α : Type} (n : Nat) : Result α → Prop
 | .ok _ w => n ≤ w.drawn
 | .halt _ w => n ≤ w.drawn
theorem resGe_mono {α : Type} {n m : Nat} {r : Result α} (h : resGe m r) (hn : n ≤ m) : resGe n r := by
 cases r <;> exact Nat.le_trans hn h
theorem run_drawn {α : Type} (p : Program) (s : Sem α) : ∀ w : World, resGe w.drawn (s.run p w) := by
 induction s with
 | pure a => intro w; exact Nat.le_refl _
 | load m a k ih =>
  intro w
  simp only [Sem.run]
  split
  ·exact ih _ w
  ·split
   ·exact ih _ w
   ·exact Nat.le_refl _
 | store m a v k ih =>
  intro w
  have key : resGe w.drawn (match w.cell? a with
    | some _ => if w.frozen? a then (.halt (.unsupported (.unsafePointer "a write to bytes that a string shares")) w : Result α) else k.run p (w.setCell a v)
    | none => match w.farStore p a v (m == .atomic) with
     | .ok (w, _) => k.run p w
     | .error h => .halt h w) := by
   split
   ·split
    ·exact Nat.le_refl _
    ·exact ih (w.setCell a v)
   ·split
    ·rename_i e
     have h := farStore_drawn e
     rw [← h]
     exact ih _
    ·exact Nat.le_refl _
  cases v <;> simp only [Sem.run] <;> first | exact key | exact Nat.le_refl _
 | new o k ih => intro w; simp only [Sem.run]; exact ih _ _
 | shape r k ih => intro w; simp only [Sem.run]; exact ih _ _
 | freeze a n k ih => intro w; simp only [Sem.run]; rw [← freeze_drawn w a n]; exact ih _
 | frozen a k ih => intro w; simp only [Sem.run]; exact ih _ _
 | getObj r k ih =>
  intro w
  simp only [Sem.run]
  split
  ·exact Nat.le_refl _
  ·exact ih _ _
  ·exact Nat.le_refl _
 | setObj r o k ih =>
  intro w
  simp only [Sem.run]
  split
  ·exact Nat.le_refl _
  ·exact ih _
  ·exact Nat.le_refl _
 | choose q k ih =>
  intro w
  simp only [Sem.run]
  split
  ·exact ih _ w
  ·exact resGe_mono (ih _ _) (Nat.le_succ _)
 | sys c k ih => intro w; simp only [Sem.run]; exact resGe_mono (ih _ _) (sys_drawn w c)
 | program k ih => intro w; simp only [Sem.run]; exact ih _ _
 | mark m k ih => intro w; simp only [Sem.run]; exact ih _
 | halt h => intro w; exact Nat.le_refl _
theorem runT_drawn {α : Type} (p : Program) (s : Sem α) : ∀ (w : World) (es : Array Event), resGe w.drawn (s.runT p w es).1 := by
 induction s with
 | pure a => intro w es; exact Nat.le_refl _
 | load m a k ih =>
  intro w es
  simp only [Sem.runT]
  split
  ·exact ih _ w _
  ·split
   ·exact ih _ w _
   ·exact Nat.le_refl _
 | store m a v k ih =>
  intro w es
  have h1 : ∀ es, resGe w.drawn (k.runT p (w.setCell a v) es).1 := fun es => ih (w.setCell a v) es
  have h2 : ∀ w' l es, w.farStore p a v (m == .atomic) = .ok (w', l) → resGe w.drawn (k.runT p w' es).1 := fun w' l es e => by rw [← farStore_drawn e]; exact ih w' es
  cases v <;> simp only [Sem.runT] <;> (repeat' split) <;> first | exact Nat.le_refl _ | exact h1 _ | exact h2 _ _ _ (by assumption)
 | new o k ih => intro w es; simp only [Sem.runT]; exact ih _ _ _
 | shape r k ih => intro w es; simp only [Sem.runT]; exact ih _ _ _
 | freeze a n k ih => intro w es; simp only [Sem.runT]; rw [← freeze_drawn w a n]; exact ih _ _
 | frozen a k ih => intro w es; simp only [Sem.runT]; exact ih _ _ _
 | getObj r k ih =>
  intro w es
  simp only [Sem.runT]
  split
  ·exact Nat.le_refl _
  ·exact ih _ _ _
  ·exact Nat.le_refl _
 | setObj r o k ih =>
  intro w es
  simp only [Sem.runT]
  split
  ·exact Nat.le_refl _
  ·exact ih _ _
  ·exact Nat.le_refl _
 | choose q k ih =>
  intro w es
  simp only [Sem.runT]
  split
  ·exact ih _ w _
  ·exact resGe_mono (ih _ _ _) (Nat.le_succ _)
 | sys c k ih => intro w es; simp only [Sem.runT]; exact resGe_mono (ih _ _ _) (sys_drawn w c)
 | program k ih => intro w es; simp only [Sem.runT]; exact ih _ _ _
 | mark m k ih => intro w es; simp only [Sem.runT]; exact ih _ _
 | halt h => intro w es; exact Nat.le_refl _
section
variable {α : Type} {p : Program} {s : Sem α} {w w' : World} {n : Nat} {es es' : Array Event}
theorem run_ok (h : n ≤ w.drawn) {a : α} (e : s.run p w = .ok a w') : n ≤ w'.drawn := by
 have h2 := run_drawn p s w
 rw [e] at h2
 exact Nat.le_trans h h2
theorem run_halt (h : n ≤ w.drawn) {x : Halt} (e : s.run p w = .halt x w') : n ≤ w'.drawn := by
 have h2 := run_drawn p s w
 rw [e] at h2
 exact Nat.le_trans h h2
theorem runT_ok (h : n ≤ w.drawn) {a : α} (e : s.runT p w es = (.ok a w', es')) : n ≤ w'.drawn := by
 have h2 := runT_drawn p s w es
 rw [e] at h2
 exact Nat.le_trans h h2
theorem runT_halt (h : n ≤ w.drawn) {x : Halt} (e : s.runT p w es = (.halt x w', es')) : n ≤ w'.drawn := by
 have h2 := runT_drawn p s w es
 rw [e] at h2
 exact Nat.le_trans h h2
theorem runT_ok1 (h : n ≤ w.drawn) {a : α} (e : (s.runT p w es).1 = .ok a w') : n ≤ w'.drawn := by
 have h2 := runT_drawn p s w es
 rw [e] at h2
 exact Nat.le_trans h h2
theorem runT_halt1 (h : n ≤ w.drawn) {x : Halt} (e : (s.runT p w es).1 = .halt x w') : n ≤ w'.drawn := by
 have h2 := runT_drawn p s w es
 rw [e] at h2
 exact Nat.le_trans h h2
end
def gsGe (n : Nat) : GStep → Prop
 | .go _ w _ => n ≤ w.drawn
 | .comm _ _ _ _ w _ => n ≤ w.drawn
 | .spawn _ _ w _ => n ≤ w.drawn
 | .count _ w _ => n ≤ w.drawn
 | .timer _ _ w _ => n ≤ w.drawn
 | .alone _ _ w _ => n ≤ w.drawn
 | .newcoro _ _ _ w _ => n ≤ w.drawn
 | .coroswitch _ _ _ w _ => n ≤ w.drawn
 | .collect _ w _ => n ≤ w.drawn
 | .watch _ w _ => n ≤ w.drawn
 | .ended .. => True
theorem after_ge {n : Nat} {es : Array Event} {s : GStep} (h : gsGe n s) : gsGe n (GStep.after es s) := by
 cases s <;> exact h
theorem ite_ge {n : Nat} {c : Prop} [Decidable c] {a b : GStep} (ha : gsGe n a) (hb : gsGe n b) : gsGe n (if c then a else b) := by
 split
 ·exact ha
 ·exact hb
theorem elim_ge {α : Type} {n : Nat} {o : Option α} {a : GStep} {f : α → GStep} (ha : gsGe n a) (hf : ∀ x, gsGe n (f x)) : gsGe n (o.elim a f) := by
 cases o
 ·exact ha
 ·exact hf _
theorem endWith_ge (n : Nat) (w : World) (fd : Nat) (t : ByteArray) (o : Outcome) : gsGe n (endWith w fd t o) := by
 unfold endWith
 simp only []
 repeat' first
  | exact trivial
  | split
theorem endThrow_ge {n : Nat} {w : World} (h : n ≤ w.drawn) (fr : Frame) (m : String) : gsGe n (endThrow fr m w) := h
theorem endPrinting_ge {n : Nat} {w : World} (h : n ≤ w.drawn) (p : Program) (fr : Frame) (v : Value) : gsGe n (endPrinting p fr v w) := by
 unfold endPrinting
 simp only []
 repeat' first
  | exact trivial
  | exact endThrow_ge h _ _
  | split
theorem endFatal_ge {n : Nat} {w : World} (h : n ≤ w.drawn) (p : Program) (fr : Frame) (callers : List Frame) (dying : Option Dying) (m : String) : gsGe n (endFatal p fr callers dying m w) := by
 unfold endFatal
 simp only []
 split
 ·rename_i e
  exact run_ok h e
 iterate 2 exact trivial
theorem writeOn_ge {n : Nat} {w : World} (h : n ≤ w.drawn) (p : Program) (fr : Frame) (d : Dying) (f : Fatal) : gsGe n (writeOn p fr d f w) := by
 unfold writeOn
 simp only []
 split
 ·exact trivial
 ·split
  ·rename_i e; exact runT_ok h e
  ·rename_i e; exact runT_halt h e
  iterate 2 exact trivial
theorem die_ge {n : Nat} {w : World} (h : n ≤ w.drawn) (p : Program) (fr : Frame) (d : Dying) : gsGe n (die p fr d w) := by
 unfold die
 simp only []
 repeat' first
  | exact trivial
  | exact writeOn_ge h _ _ _ _
  | exact endWith_ge _ _ _ _ _
  | exact h
  | exact run_ok h (by assumption)
  | exact runT_ok h (by assumption)
  | exact endPrinting_ge (runT_halt h (by assumption)) _ _ _
  | exact endPrinting_ge (runT_halt1 h (by assumption)) _ _ _
  | exact runT_ok1 h (by assumption)
  | apply after_ge
  | split
theorem doReturn_ge {n : Nat} {w : World} (h : n ≤ w.drawn) (p : Program) (main : Bool) (fr : Frame) (callers : List Frame) (dying : Option Dying) (v : Value) : gsGe n (doReturn p main fr callers dying v w) := by
 unfold doReturn
 simp only []
 repeat' first
  | exact trivial
  | exact h
  | split
theorem callDeferred_ge {n : Nat} {w : World} (h : n ≤ w.drawn) (p : Program) (fr : Frame) (callers : List Frame) (dying : Option Dying) (d : Deferred) : gsGe n (callDeferred p fr callers dying d w) := by
 unfold callDeferred
 simp only []
 refine ite_ge trivial ?_
 have hr := runT_drawn p (invoke d.target d.args) w #[]
 generalize (invoke d.target d.args).runT p w #[] = re at *
 obtain ⟨r, es⟩ := re
 apply after_ge
 cases r with
 | ok x w' =>
  have h2 : n ≤ w'.drawn := Nat.le_trans h hr
  cases x
  case alone on v => cases on <;> first | exact h2 | exact trivial
  case coroswitch c ex => cases ex <;> first | exact h2 | exact trivial
  all_goals simp only []
  all_goals repeat' first
   | exact trivial
   | exact h2
   | split
 | halt x w' =>
  have h2 : n ≤ w'.drawn := Nat.le_trans h hr
  cases x <;> first | exact trivial | exact h2 | exact endFatal_ge h2 _ _ _ _ _ | exact endThrow_ge h2 _ _
theorem unwind_ge {n : Nat} {w : World} (h : n ≤ w.drawn) (p : Program) (main : Bool) (fr : Frame) (callers : List Frame) (dying : Option Dying) : gsGe n (unwind p main fr callers dying w) := by
 unfold unwind
 simp only []
 repeat' first
  | exact trivial
  | exact h
  | exact callDeferred_ge h _ _ _ _ _
  | exact doReturn_ge h _ _ _ _ _ _
  | exact doReturn_ge (runT_ok h (by assumption)) _ _ _ _ _ _
  | exact endPrinting_ge h _ _ _
  | exact run_ok h (by assumption)
  | exact runT_ok h (by assumption)
  | exact runT_ok1 h (by assumption)
  | exact doReturn_ge (runT_ok1 h (by assumption)) _ _ _ _ _ _
  | apply after_ge
  | split
theorem early_ge {n : Nat} {w : World} (h : n ≤ w.drawn) (p : Program) (fr : Frame) (callers : List Frame) (dying : Option Dying) (g : Nat) : gsGe n (early p fr callers dying g w) := by
 unfold early
 simp only []
 repeat' first
  | exact trivial
  | exact h
  | exact run_ok h (by assumption)
  | (rename_i e _ _ _ _; have h9 := run_ok h e; exact h9)
  | split
theorem apply_ge {n : Nat} {w : World} (h : n ≤ w.drawn) (p : Program) (listen : Bool) (fr : Frame) (callers : List Frame) (dying : Option Dying) (s : Sem Next) : gsGe n (stepG.apply p listen fr callers dying s w) := by
 unfold stepG.apply
 simp only []
 have hr : resGe w.drawn (if listen then s.runT p w #[] else (s.run p w, #[])).1 := by
  split
  ·exact runT_drawn p s w #[]
  ·exact run_drawn p s w
 generalize (if listen then s.runT p w #[] else (s.run p w, #[])) = re at *
 obtain ⟨r, es⟩ := re
 apply after_ge
 cases r with
 | ok x w' =>
  have h2 : n ≤ w'.drawn := Nat.le_trans h hr
  cases x <;> simp only []
  all_goals repeat' first
   | exact trivial
   | exact h2
   | exact endThrow_ge h2 _ _
   | split
 | halt x w' =>
  have h2 : n ≤ w'.drawn := Nat.le_trans h hr
  cases x
  case unsupported u => cases u <;> first | exact early_ge h2 _ _ _ _ _ | exact trivial
  all_goals first | exact trivial | exact h2 | exact endFatal_ge h2 _ _ _ _ _ | exact endThrow_ge h2 _ _
theorem oper_ge {n : Nat} {w : World} (h : n ≤ w.drawn) (p : Program) (listen : Bool) (fr : Frame) (callers : List Frame) (dying : Option Dying) : gsGe n (stepG.oper p listen fr callers dying w) := by
 unfold stepG.oper
 repeat' first
  | exact trivial
  | exact apply_ge h _ _ _ _ _ _
  | split
theorem exec_ge {n : Nat} {w : World} (h : n ≤ w.drawn) (p : Program) (main listen : Bool) (fr : Frame) (callers : List Frame) (dying : Option Dying) : gsGe n (stepG.exec p main listen fr callers dying w) := by
 unfold stepG.exec
 simp only []
 repeat' first
  | exact trivial
  | exact h
  | refine elim_ge ?_ (fun _ => ?_)
  | exact apply_ge h _ _ _ _ _ _
  | exact apply_ge (runT_ok h (by assumption)) _ _ _ _ _ _
  | exact oper_ge h _ _ _ _ _
  | exact doReturn_ge (runT_ok h (by assumption)) _ _ _ _ _ _
  | exact run_ok h (by assumption)
  | exact runT_ok h (by assumption)
  | exact runT_halt h (by assumption)
  | exact runT_ok1 h (by assumption)
  | exact runT_halt1 h (by assumption)
  | exact doReturn_ge (runT_ok1 h (by assumption)) _ _ _ _ _ _
  | exact apply_ge (runT_ok1 h (by assumption)) _ _ _ _ _ _
  | apply after_ge
  | split
theorem stepG_ge (p : Program) (main : Bool) (g : Goroutine) (w : World) (listen : Bool) : gsGe w.drawn (stepG p main g w listen) := by
 unfold stepG
 simp only []
 repeat' first
  | exact die_ge (Nat.le_refl _) _ _ _
  | exact exec_ge (Nat.le_refl _) _ _ _ _ _ _
  | exact unwind_ge (Nat.le_refl _) _ _ _ _ _
  | split
def stGe (n : Nat) (s : Stepped) : Prop := ∀ m, s = .next m → n ≤ m.world.drawn
theorem stGe_end {n : Nat} {o : Outcome} {w : World} : stGe n (.ended o w) := fun m h => by cases h
theorem stGe_next {n : Nat} {m : Machine} (h : n ≤ m.world.drawn) : stGe n (.next m) := fun m' h' => by injection h' with h'; subst h'; exact h
theorem waitingAt_drawn {rest : Rest} {cases : Array CommCase} {w w' : World} (h : waitingAt rest cases w = some w') : w'.drawn = w.drawn := by
 unfold waitingAt at h
 repeat' first
  | (cases h; done)
  | (injection h with h; subst h; rfl)
  | split at h
theorem communicate_drawn {n : Nat} (p : Program) (rest : Rest) (gs : Array Goroutine) (i : Nat) (g : Goroutine) (cases : Array CommCase) (blocking : Bool) (shape : CommShape) (w : World) (hn : n ≤ w.drawn) (m' : Machine)
  (h : (communicate p rest gs i g cases blocking shape w).1 = .next m') : n ≤ m'.world.drawn := by
 unfold communicate at h
 simp only [] at h
 repeat' first
  | (simp at h; done)
  | (simp only [Stepped.next.injEq] at h; subst h; exact hn)
  | (simp only [Stepped.next.injEq] at h; subst h; rename_i e; have h9 := waitingAt_drawn e; exact Nat.le_trans hn (Nat.le_of_eq h9.symm))
  | (simp only [Stepped.next.injEq] at h; subst h; have h9 := run_ok hn (by assumption); exact h9)
  | (simp only [Stepped.next.injEq] at h; subst h; have h9 := run_halt (run_ok hn (by assumption)) (by assumption); exact h9)
  | (simp only [Stepped.next.injEq] at h; subst h; have h9 := run_ok (run_ok hn (by assumption)) (by assumption); exact h9)
  | split at h
theorem look_drawn {n : Nat} {w : World} (hn : n ≤ w.drawn) (p : Program) (gs : Array Goroutine) (rest : Rest) (m' : Machine) (h : look p gs rest w = .next m') : n ≤ m'.world.drawn := by
 unfold look at h
 simp only [] at h
 repeat' first
  | (simp at h; done)
  | (simp only [Stepped.next.injEq] at h; subst h; have h9 := run_ok hn (by assumption); exact h9)
  | split at h
theorem drain_drawn (w : World) (c : Nat) : (drain w c).2.drawn = w.drawn := by
 unfold drain
 split <;> rfl
theorem retime_drawn (m : Machine) (k : Nat) (t : Timer) (when_ period : Nat) : (retime m k t when_ period).2.world.drawn = m.world.drawn := by
 unfold retime
 cases t.chan with
 | none => rfl
 | some c => exact drain_drawn m.world c
theorem opened_drawn {m m' : Machine} {var : Addr} (h : timerOp.opened m var = some m') : m'.world.drawn = m.world.drawn := by
 unfold timerOp.opened at h
 repeat' first
  | (cases h; done)
  | (injection h with h; subst h; rfl)
  | split at h
theorem named_drawn {n : Nat} {m : Machine} {var : Addr} {f : Nat → Timer → Value × Machine} (hf : ∀ k t, n ≤ (f k t).2.world.drawn) {r : Value × Machine} (h : timerOp.named m var f = .ok r) : n ≤ r.2.world.drawn := by
 unfold timerOp.named at h
 split at h
 ·injection h with h; subst h; exact hf _ _
 ·cases h
theorem timerOp_drawn {n : Nat} {m : Machine} (hn : n ≤ m.world.drawn) (op : TimerOp) {v : Value} {m' : Machine} (h : timerOp m op = .ok (v, m')) : n ≤ m'.world.drawn := by
 cases op <;> simp only [timerOp] at h
 case stop var => exact named_drawn (fun k t => by rw [retime_drawn]; exact hn) h
 case reset var wh pe =>
  split at h
  ·rename_i e
   exact named_drawn (fun k t => by rw [retime_drawn, opened_drawn e]; exact hn) h
  ·cases h
 all_goals repeat' first
  | (cases h; done)
  | (injection h with h; injection h with _ h; subst h; exact hn)
  | split at h
theorem runT_drawnM (p : Program) (m m' : Machine) (i : Nat) (b : Bool) (h : (Go.runT p m i b).1 = .next m') : m.world.drawn ≤ m'.world.drawn := by
 simp only [Go.runT] at h
 generalize m.gs.swapAt! _ _ = gg at h
 have hs := stepG_ge p (i == 0) gg.1 m.world b
 revert hs h
 generalize stepG p _ gg.1 m.world b = s
 intro h hs
 cases s <;> simp only [] at h
 all_goals first
  | (simp at h; done)
  | exact communicate_drawn _ _ _ _ _ _ _ _ _ hs _ h
  | exact look_drawn hs _ _ _ _ h
  | (simp only [Stepped.next.injEq] at h; subst h; exact hs)
  | (repeat' first
    | (simp at h; done)
    | (simp only [Stepped.next.injEq] at h; subst h; exact hs)
    | (simp only [Stepped.next.injEq] at h; subst h; rename_i e; have h9 := timerOp_drawn (m := _) hs _ e; exact h9)
    | (rename_i e; unfold endThrow dieOf at e; simp only [GStep.go.injEq] at e; simp only [Stepped.next.injEq] at h; subst h; rw [← e.2.1]; exact hs)
    | split at h)
theorem serve_drawn (p : Program) (m m' : Machine) (k : Nat) (h : serve p m k = .next m') : m.world.drawn ≤ m'.world.drawn := by
 unfold serve at h
 simp only [] at h
 repeat' first
  | (simp at h; done)
  | (simp only [Stepped.next.injEq] at h; subst h; exact Nat.le_refl _)
  | split at h
def mvGe (n : Nat) : Move → Prop
 | .goroutine m _ => n ≤ m.world.drawn
 | .machine s _ => stGe n s
theorem serve_ge {n : Nat} {p : Program} {m : Machine} (h : n ≤ m.world.drawn) (k : Nat) : stGe n (serve p m k) := fun m' e => Nat.le_trans h (serve_drawn p m m' k e)
theorem mv_ite {n : Nat} {c : Prop} [Decidable c] {a b : Move} (ha : mvGe n a) (hb : mvGe n b) : mvGe n (if c then a else b) := by
 split
 ·exact ha
 ·exact hb
theorem mvGe_mono {n k : Nat} {v : Move} (h : mvGe k v) (hn : n ≤ k) : mvGe n v := by
 cases v with
 | goroutine m i => exact Nat.le_trans hn h
 | machine s ops => exact fun m e => Nat.le_trans hn (h m e)
theorem askOn_ge (p : Program) (m : Machine) : mvGe m.world.drawn (askOn p m) := by
 have hk : ∀ {α : Type} {s : Sem α} {w w' : World} {a : α}, m.world.drawn ≤ w.drawn → s.run p w = .ok a w' → m.world.drawn ≤ w'.drawn := fun h e => run_ok h e
 unfold askOn
 simp only []
 repeat' first
  | exact stGe_end
  | exact serve_ge (hk (Nat.le_refl _) (by assumption)) _
  | exact stGe_next (hk (Nat.le_refl _) (by assumption))
  | refine mv_ite ?_ ?_
  | split
 all_goals first
  | (have h9 := hk (hk (hk (hk (Nat.le_refl _) (by assumption)) (by assumption)) (by assumption)) (by assumption); exact h9)
  | (have h9 := hk (hk (hk (Nat.le_refl _) (by assumption)) (by assumption)) (by assumption); first | exact h9 | exact stGe_next h9)
  | (have h9 := hk (hk (Nat.le_refl _) (by assumption)) (by assumption); first | exact h9 | exact stGe_next h9)
  | (have h9 := hk (Nat.le_refl _) (by assumption); first | exact h9 | exact stGe_next h9)
  | (have h1 := hk (hk (Nat.le_refl _) (by assumption)) (by assumption)
     have h2 := hk (w := (Machine.advanceTo { world := _, gs := m.gs, rest := m.rest } _).world) h1 (by assumption)
     first
      | exact h2
      | (have h3 := hk h2 (by assumption); exact h3))
theorem ask_ge (p : Program) (m : Machine) : mvGe m.world.drawn (Go.ask p m) := by
 unfold Go.ask
 split
 ·split
  ·exact stGe_end
  ·rename_i e
   have h1 := run_ok (Nat.le_refl _) e
   split
   ·rename_i e2
    have h2 := look_drawn h1 _ _ _ _ e2
    have h3 := askOn_ge p
    exact mvGe_mono (h3 _) h2
   ·rename_i s hne
    cases hs : look p m.gs m.rest _ with
    | next m2 => exact absurd hs (hne m2)
    | ended o w => exact stGe_end
  ·rename_i e
   have h1 := run_ok (Nat.le_refl _) e
   exact mvGe_mono (askOn_ge p _) h1
 ·exact askOn_ge p m
theorem move_ge (p : Program) (m : Machine) : mvGe m.world.drawn (Go.move p m) := by
 unfold Go.move
 repeat' first
  | exact stGe_end
  | exact ask_ge p m
  | exact ask_ge p { m with rest := { m.rest with slice := none } }
  | exact Nat.le_refl _
  | split
theorem step_drawn {p : Program} {m m' : Machine} (h : step p m = .next m') : m.world.drawn ≤ m'.world.drawn := by
 unfold step stepT at h
 have hm := move_ge p m
 split at h
 ·rename_i e
  rw [e] at hm
  exact Nat.le_trans hm (runT_drawnM p _ m' _ _ h)
 ·rename_i e
  rw [e] at hm
  exact hm m' h
theorem runN_drawn {p : Program} (n : Nat) : ∀ {m m' : Machine}, runN p n m = .next m' → m.world.drawn ≤ m'.world.drawn := by
 induction n with
 | zero => intro m m' h; injection h with h; subst h; exact Nat.le_refl _
 | succ n ih =>
  intro m m' h
  unfold runN at h
  split at h
  ·rename_i e
   exact Nat.le_trans (step_drawn e) (ih h)
  ·rename_i hne
   cases hs : step p m with
   | next m2 => exact absurd hs (hne m2)
   | ended o w => rw [hs] at h; cases h
theorem calls_drawn {P : Program} {f : FuncId} {args : Array Value} {w : World} {R : Ending → World → Prop} (h : Calls P f args w R) :
  Calls P f args w fun e w' => R e w' ∧ ∀ v, e = .returned v → w.drawn ≤ w'.drawn := by
 intro cs
 obtain ⟨e, w', fr, hR, hC, h1, h2⟩ := h cs
 refine ⟨e, w', fr, ⟨hR, ?_⟩, hC, h1, h2⟩
 rintro v rfl
 obtain ⟨n, hn⟩ := hC
 exact runN_drawn n hn
end Go.Proofs.YtefmplccbkmalaaGreatDoor
namespace Go.Proofs.YtefmplccbkmalaaGreatDoor
open Go.RowKit
attribute [local go_sem] Oper.semAt_some

theorem sgn_any (x : Int) (w : World) : Calls Tryz.prog 199 #[.int .i64 x] w fun e w' => e = .returned (.int .i64 (sgn3 x)) ∧ w = w' := by
 by_cases h1 : x < 0 <;> by_cases h2 : 0 < x
 all_goals first
  | (exfalso; omega)
  | (go_enter Tryz.func199, Tryz.ntmps199
     go_wp2
     go_ret
     exact ⟨ret_int (by unfold sgn3; (repeat' split) <;> omega), rfl⟩)
set_option maxRecDepth 100000 in
theorem dir_any (F R a b : Nat) (hF : 3 ≤ F ∧ F ≤ 8) (hR : 3 ≤ R ∧ R ≤ 8) (ha : a < F * R) (hb : b < F * R) (hab : a ≠ b) (hrk : b / F = a / F) (w : World) :
  Calls Tryz.prog 170 #[.agg #[.int .i64 F, .int .i64 R], .int .i64 a, .int .i64 b] w fun e w' => e = .returned (.tuple #[.int .i64 (sgn3 (((b % F : Nat) : Int) - (a % F : Nat))), .int .i64 0, .int .i64 0]) ∧ Below w.heap.size w w' := by
 have hA := HasO.new w (.cells #[.int .i64 (F : Int), .int .i64 (R : Int)] 23)
 have hB := below_box w (.cells #[.int .i64 (F : Int), .int .i64 (R : Int)] 23)
 have p1 := fun W => sqPlace_good F R a hF hR ha W
 have p2 := fun W => sqPlace_good F R b hF hR hb W
 rw [hrk] at p2
 have hf1 : a % F < 8 := Nat.lt_of_lt_of_le (Nat.mod_lt _ (by omega)) hF.2
 have hf2 : b % F < 8 := Nat.lt_of_lt_of_le (Nat.mod_lt _ (by omega)) hF.2
 have hr1 : a / F < 64 := Nat.lt_of_le_of_lt (Nat.div_le_self _ _) (Nat.lt_of_lt_of_le ha (Nat.mul_le_mul hF.2 hR.2))
 have hab' : (((a : Nat) : Int) == (b : Int)) = false := by simp; omega
 have hs := fun x W => sgn_any x W
 have hne : ((((b % F : Nat) : Int) - ((a % F : Nat) : Int)) != 0) = true := by
  have h1 := Nat.div_add_mod a F
  have h2 := Nat.div_add_mod b F
  rw [hrk] at h2
  simp only [bne_iff_ne, ne_eq]
  omega
 have h0 : sgn3 0 = 0 := rfl
 clear hrk
 generalize a % F = u at *
 generalize b % F = v at *
 generalize a / F = k at *
 have hc0 := hA.cells
 have hl0 := hA.lt
 go_enter Tryz.func170, Tryz.ntmps170
 go_wp2_with fail
 refine (p1 _).mono ?_
 rintro e w2 ⟨rfl, hb2⟩
 have hA2 := hA.call hb2
 have hB2 := below_call hB hB.size hb2
 clear hc0 hl0 hA hB hb2 p1
 have hc2 := hA2.cells
 have hl2 := hA2.lt
 go_wp2_with fail
 refine (p2 _).mono ?_
 rintro e w3 ⟨rfl, hb3⟩
 have hB3 := below_call hB2 hB2.size hb3
 clear hA2 hb3 p2 hc2 hl2
 have e1 : (k : Int) - k = 0 := by omega
 go_wp2_with fail
 refine (hs _ _).mono ?_
 rintro e w4 ⟨rfl, rfl⟩
 go_wp2_with fail
 refine (hs _ _).mono ?_
 rintro e w4 ⟨rfl, rfl⟩
 go_wp2_with fail
 go_ret3
 exact ⟨rfl, hB3⟩
def btI (w : World) (F R a b : Nat) (qs q1 : Nat) (dx dy : Int) (L : List Int) (fin : Nat) (c : Nat) (W : World) : Prop :=
 Below w.heap.size w W ∧ HasO W (w.heap.size + 1) (.cells #[.int .i64 (b : Int)] 3 (0, 0)) ∧ RayRd F R a dx dy q1 (q1 + 1) (q1 + 2) (q1 + 3) W ∧
 (∃ S : Nat, HasO W qs (.cells #[.int .u64 (S : Int)] 64 (0, 0)) ∧ S < 2 ^ 64 ∧ btwR b L S = fin) ∧ c ≤ W.heap.size
theorem btI_alt {w : World} {F R a b qs q1 : Nat} {dx dy : Int} {L : List Int} {fin c : Nat} {W W' : World} {lo hi : Nat} (h : btI w F R a b qs q1 dx dy L fin c W) (ha : Alt lo hi W W') (h1 : q1 + 4 ≤ lo) (h2 : w.heap.size + 2 ≤ lo) (h3 : qs < lo) : btI w F R a b qs q1 dx dy L fin c W' := by
 obtain ⟨b, i1, ⟨r1, r2, r3, r4⟩, ⟨S, s1, s2, s3⟩, i5⟩ := h
 exact ⟨ha.below b (by omega) b.size, ha.hasO i1 (by omega), ⟨ha.hasO r1 (by omega), ha.hasO r2 (by omega), ha.hasO r3 (by omega), ha.hasO r4 (by omega)⟩, ⟨S, ha.hasO s1 (by omega), s2, s3⟩, Nat.le_trans i5 ha.size⟩
theorem btI_set {w : World} {F R a b qs q1 : Nat} {dx dy : Int} {L L' : List Int} {fin c S' : Nat} {W : World} (h : btI w F R a b qs q1 dx dy L fin c W) (hs : S' < 2 ^ 64) (hf : btwR b L' S' = fin) (h1 : qs < q1) (h2 : w.heap.size + 2 ≤ qs) :
  btI w F R a b qs q1 dx dy L' fin c (W.setCell ⟨qs, 0, none⟩ (.int .u64 (S' : Int))).drew ∧ Alt qs (qs + 1) W (W.setCell ⟨qs, 0, none⟩ (.int .u64 (S' : Int))).drew := by
 obtain ⟨b, i1, ⟨r1, r2, r3, r4⟩, ⟨S, s1, s2, s3⟩, i5⟩ := h
 have ha : Alt qs (qs + 1) W (W.setCell ⟨qs, 0, none⟩ (.int .u64 (S' : Int))).drew := (Alt.setCell (by simp)).trans (Alt.drewN 1)
 exact ⟨⟨ha.below b (by omega) b.size, ha.hasO i1 (by omega), ⟨ha.hasO r1 (by omega), ha.hasO r2 (by omega), ha.hasO r3 (by omega), ha.hasO r4 (by omega)⟩, ⟨S', s1.set_ 0 (.int .u64 (S' : Int)), hs, hf⟩, Nat.le_trans i5 ha.size⟩, ha⟩
set_option maxRecDepth 100000 in
theorem between_any (F R a b : Nat) (hF : 3 ≤ F ∧ F ≤ 8) (hR : 3 ≤ R ∧ R ≤ 8) (ha : a < F * R) (hb : b < F * R) (hab : a ≠ b) (hrk : b / F = a / F) (w : World) :
  Calls Tryz.prog 118 #[.agg #[.int .i64 F, .int .i64 R], .int .i64 a, .int .i64 b] w fun e w' => e = .returned (.tuple #[.int .u64 (btwW F R a b : Nat), .int .i64 0]) ∧ Below w.heap.size w w' := by
 have hq64 : ∀ dx dy, ∀ x ∈ rayL F R a dx dy 8 1, 0 ≤ x ∧ x < 64 := by
  intro dx dy x hx
  have := rayL_sq x hx
  rw [← Int.natCast_mul] at this
  have h2 : F * R ≤ 64 := Nat.mul_le_mul hF.2 hR.2
  omega
 have hdr := fun W => dir_any F R a b hF hR ha hb hab hrk W
 have hV : btwW F R a b = btwR b (rayL F R a (sgn3 (((b % F : Nat) : Int) - (a % F : Nat))) 0 8 1) 0 := by
  unfold btwW
  rw [hrk, Int.sub_self]; rfl
 have hdx : (-1 ≤ sgn3 (((b % F : Nat) : Int) - (a % F : Nat)) ∧ sgn3 (((b % F : Nat) : Int) - (a % F : Nat)) ≤ 1) ∧ sgn3 (((b % F : Nat) : Int) - (a % F : Nat)) ≠ 0 := by
  have h1 := Nat.div_add_mod a F
  have h2 := Nat.div_add_mod b F
  rw [hrk] at h2
  unfold sgn3
  split
  ·omega
  ·split
   ·omega
   ·omega
 generalize btwW F R a b = V at *
 generalize sgn3 (((b % F : Nat) : Int) - (a % F : Nat)) = dx at *
 replace hV := Lib.hid hV
 refine (callsIn_wide (n := 3)).1 ?_
 refine callsIn_of_wp_marks Tryz.func118 rfl trivial ?_ rfl
 simp only [Tryz.ntmps118, List.size_toArray, List.length_cons, List.length_nil, Nat.reduceAdd, Nat.reduceSub, Array.replicate_succ, Array.replicate_zero, List.push_toArray, List.append_toArray, List.nil_append, List.cons_append]
 have hA := (HasO.new w (.cells #[.int .i64 (F : Int), .int .i64 (R : Int)] 23)).alloc (.cells #[.int .i64 (b : Int)] 3)
 have hO := HasO.new' (w.alloc (.cells #[.int .i64 (F : Int), .int .i64 (R : Int)] 23)) (.cells #[.int .i64 (b : Int)] 3) (q := w.heap.size + 1) (by simp)
 have hB := (below_box w (.cells #[.int .i64 (F : Int), .int .i64 (R : Int)] 23)).alloc (by simp) (.cells #[.int .i64 (b : Int)] 3)
 have hcA := hA.cells
 have hlA := hA.lt
 have hcO := hO.cells
 have hlO := hO.lt
 gi_wp2_with fail
 generalize (w.alloc (.cells #[.int .i64 (F : Int), .int .i64 (R : Int)] 23)).alloc (.cells #[.int .i64 (b : Int)] 3) = v0 at *
 refine ⟨trivial, (callsIn_wide.2 (hdr _)).mono ?_⟩
 rintro e w2 ⟨rfl, hb2⟩
 have hA2 := hA.call hb2
 have hO2 := hO.call hb2
 have hB2 := below_call hB hB.size hb2
 clear hcA hlA hcO hlO hA hO hB hb2 hdr
 have hcA := hA2.cells
 have hlA := hA2.lt
 have hb3 := below_box w2 (.cells #[.int .u64 0] 64)
 have hS := HasO.new w2 (.cells #[.int .u64 0] 64)
 have hA3 := hA2.call hb3
 have hO3 := hO2.call hb3
 have hB3 := below_call hB2 hB2.size hb3
 have hqs : w.heap.size + 2 ≤ w2.heap.size := by have := hO2.lt; omega
 gi_wp2_with fail
 refine ⟨trivial, (callsIn_wide.2 (ray_any F R a dx 0 _)).mono ?_⟩
 rintro e u0 ⟨rfl, hRd, hbu, hsu⟩
 obtain ⟨qs, hqq⟩ : ∃ q, q = w2.heap.size := ⟨_, rfl⟩
 rw [← hqq] at hS hqs ⊢
 obtain ⟨L0, hL0⟩ : ∃ L, L = rayL F R a dx 0 8 1 := ⟨_, rfl⟩
 rw [← hL0] at hV
 have hqL0 : ∀ x ∈ L0, 0 ≤ x ∧ x < 64 := by rw [hL0]; exact hq64 _ _
 have hOu := hO3.call hbu
 have hSu := hS.call hbu
 have hBu := below_call hB3 hB3.size hbu
 have hlSu := hSu.lt
 obtain ⟨q1, hq1⟩ : ∃ q, q = (w2.alloc (.cells #[.int .u64 0] 64)).heap.size := ⟨_, rfl⟩
 rw [← hq1] at hRd hsu ⊢
 have hq1l : qs < q1 := by rw [hq1, hqq]; simp
 have hI0 : btI w F R a b qs q1 dx 0 L0 V u0.heap.size u0 := ⟨hBu, hOu, hRd, ⟨0, hSu, by decide, hV.out.symm⟩, Nat.le_refl _⟩
 replace hq1 := Lib.hid hq1
 replace hL0 := Lib.hid hL0
 replace hqq := Lib.hid hqq
 clear hcA hlA hA2 hO2 hB2 hb3 hS hA3 hO3 hB3 hOu hSu hRd hbu hV hq64
 gi_wp2_with fail
 refine rangeFunc_law1 (gf := 200) (lb := #[.pointer (some ⟨q1, 0, none⟩), .pointer (some ⟨q1 + 1, 0, none⟩), .pointer (some ⟨q1 + 2, 0, none⟩), .pointer (some ⟨q1 + 3, 0, none⟩)]) 0 (fun a W h => h) rfl (enters_of Tryz.func200 (by kernel_rfl) rfl) (ray_seq F R a dx 0 q1 (q1 + 1) (q1 + 2) (q1 + 3) hF hR ha hdx.1 (by omega) (fun h => hdx.2 h.1) L0 hL0.out) (fun _ _ => rfl)
  (fun c k W => btI w F R a b qs q1 dx 0 (L0.drop k) V c W) (fun c W => btI w F R a b qs q1 dx 0 [] V c W) ?hst0 ?hstx0 ?hRd0 ?hsz0 ?hszx0 ?h00 ?hbody0 ?hfin0 ?hcont0
 case hst0 => intro c k W W' hc h ha; exact btI_alt h ha (by omega) (by omega) (by omega)
 case hstx0 => intro c W W' hc h ha; exact btI_alt h ha (by omega) (by omega) (by omega)
 case hRd0 => intro c k W hc h; exact h.2.2.1
 case hsz0 => intro c k W hc h; exact h.2.2.2.2
 case hszx0 => intro c W hc h; exact h.2.2.2.2
 case hfin0 => intro c W h; rw [List.drop_length] at h; exact h
 case h00 =>
  intro c W hb hc hz
  obtain ⟨b, i1, ⟨r1, r2, r3, r4⟩, ⟨S, s1, s2, s3⟩, i5⟩ := btI_alt hI0 (Alt.call (lo := u0.heap.size) (hi := u0.heap.size) hb) (by omega) (by omega) (by omega)
  exact ⟨b, i1, ⟨r1, r2, r3, r4⟩, ⟨S, s1, s2, s3⟩, by omega⟩
 case hbody0 =>
  rintro c k W hc hk h hT
  have hkm : L0[k]?.getD 0 ∈ L0 := by rw [List.getElem?_eq_getElem hk]; exact List.getElem_mem hk
  have hxb := hqL0 _ hkm
  have hdr : L0.drop k = (L0[k]?.getD 0) :: L0.drop (k + 1) := by rw [List.getElem?_eq_getElem hk]; exact List.drop_eq_getElem_cons hk
  obtain ⟨x, hx⟩ : ∃ x : Nat, L0[k]?.getD 0 = x := ⟨(L0[k]?.getD 0).toNat, by omega⟩
  rw [hx] at hdr hxb
  simp only [hx]
  have hx64 : (x : Int) < 64 := by omega
  clear hkm
  replace hk := Lib.hid hk
  replace hx := Lib.hid hx
  gi_wp2_with fail
  refine ⟨fun q o _ h => h, fun W2 ha hz hrec => ?_⟩
  have h2 := btI_alt h ha (by omega) (by omega) (by omega)
  have h2' := h2
  obtain ⟨b0, i1, ir, ⟨S, s1, s2, s3⟩, i5⟩ := h2'
  have c9 := s1.cells 0
  have f9 := s1.frozen
  have l9 := s1.lt
  have cO := i1.cells 0
  have lO := i1.lt
  replace hz := Lib.hid hz
  rw [hdr] at s3
  simp only [btwR, Int.toNat_natCast] at s3
  have wo : bits .or .u64 (S : Int) (IntKind.u64.wrap (2 ^ x)) = ((S ||| 2 ^ x : Nat) : Int) := or_bit s2 (by omega)
  have s4 : S ||| 2 ^ x < 2 ^ 64 := Nat.or_lt_two_pow s2 (Nat.pow_lt_pow_right (by decide) (by omega))
  rcases z1 : ((x : Int) == (b : Int)) with _ | _
  ·have z2 : ¬ (x : Int) = b := by simpa using z1
   rw [if_neg z2] at s3
   replace s3 := Lib.hid s3
   clear z2
   gi_wp2_with fail
   gi_region
   all_goals
    replace wo := Lib.hid wo
    obtain ⟨h3, h4⟩ := btI_set (L' := L0.drop (k + 1)) (S' := S ||| 2 ^ x) h2 s4 s3.out hq1l hqs
    generalize (W2.setCell ⟨qs, 0, none⟩ (.int .u64 ((S ||| 2 ^ x : Nat) : Int))).drew = W3 at *
    clear c9 f9 l9 i1 ir s1 b0 h2 i5 cO lO
    gi_wp2_with fail
    exact ⟨fun q o hq ho => h4.hasO ho (.inr (by rcases hq with h | h | h <;> omega)), h3⟩
  ·have z2 : (x : Int) = b := by simpa using z1
   rw [if_pos z2] at s3
   have h3 : btI w F R a b qs q1 dx 0 [] V c W2 := ⟨b0, i1, ir, ⟨S, s1, s2, s3⟩, i5⟩
   replace s3 := Lib.hid s3
   clear z2
   gi_wp2_with fail
   exact ⟨fun q o hq ho => ho, rfl, h3⟩
 intro c0 v1 hcc hJ hD
 obtain ⟨hB, hO, _, ⟨S1, hS, hS1l, hS1⟩, _⟩ := hJ
 replace hS1 : Hid (S1 = V) := Lib.hid hS1
 obtain ⟨D0, hDD0⟩ : ∃ D, D = u0.heap.size := ⟨_, rfl⟩
 rw [← hDD0] at hD ⊢
 have c9 := hS.cells 0
 have l9 := hS.lt
 have hDl : w.heap.size ≤ D0 := by rw [hDD0]; exact hBu.size
 replace hDD0 := Lib.hid hDD0
 gi_wp2_with fail
 refine ⟨by simp, .inl ⟨_, _, rfl, run_takeDeferred hD, ?_⟩⟩
 refine ⟨_, results_tmp2 rfl _ _ _, ret_v ?_, ?_⟩
 ·rw [hS1.out]; rfl
 ·exact below_putObj hB hDl hB.size
end Go.Proofs.YtefmplccbkmalaaGreatDoor
