import Derived.Shelf.SlSortCmp.WholeK
import Derived.Test.YtnpomigmeieofaaGreatDoorProg
import GoSem.Step
import Derived.Control
import Derived.Calls
namespace Go.Proofs
open Go.Shelf
def Tryz.srt_ren : Go.Shelf.Ren := ⟨fun | 6 => 69 | 15 => 124 | 14 => 123 | 28 => 162 | 29 => 163 | 20 => 154 | 21 => 155 | 22 => 156 | 23 => 157 | 24 => 158 | 25 => 159 | 26 => 160 | 27 => 161 | 46 => 183 | 47 => 184 | 48 => 185 | 49 => 186 | 50 => 187 | 57 => 202 | n => n, fun | 22 => 57 | 24 => 26 | 25 => 112 | 3 => 3 | 39 => 156 | 0 => 0 | 53 => 191 | 55 => 169 | 4 => 4 | 46 => 184 | 45 => 183 | 50 => 188 | 5 => 5 | 9 => 9 | 66 => 208 | 70 => 212 | 76 => 223 | 77 => 44 | n => n, fun | n => n⟩
theorem Tryz.srt : Go.Proofs.SlLaysF0.n6 Tryz.prog Tryz.srt_ren := {
 mixed := by kernel_rfl
 f6 := ⟨Tryz.f69.name, by decide, Tryz.func69.trans (congrArg some (by kernel_rfl))⟩
 f14 := ⟨Tryz.f123.name, by decide, Tryz.func123.trans (congrArg some (by kernel_rfl))⟩
 f15 := Tryz.func124.trans (congrArg some (by kernel_rfl))
 f20 := ⟨Tryz.f154.name, by decide, Tryz.func154.trans (congrArg some (by kernel_rfl))⟩
 f21 := ⟨Tryz.f155.name, by decide, Tryz.func155.trans (congrArg some (by kernel_rfl))⟩
 f22 := ⟨Tryz.f156.name, by decide, Tryz.func156.trans (congrArg some (by kernel_rfl))⟩
 f23 := ⟨Tryz.f157.name, by decide, Tryz.func157.trans (congrArg some (by kernel_rfl))⟩
 f24 := ⟨Tryz.f158.name, by decide, Tryz.func158.trans (congrArg some (by kernel_rfl))⟩
 f25 := ⟨Tryz.f159.name, by decide, Tryz.func159.trans (congrArg some (by kernel_rfl))⟩
 f26 := ⟨Tryz.f160.name, by decide, Tryz.func160.trans (congrArg some (by kernel_rfl))⟩
 f27 := ⟨Tryz.f161.name, by decide, Tryz.func161.trans (congrArg some (by kernel_rfl))⟩
 f28 := Tryz.func162.trans (congrArg some (by kernel_rfl))
 f29 := Tryz.func163.trans (congrArg some (by kernel_rfl))
 f46 := ⟨Tryz.f183.name, by decide, Tryz.func183.trans (congrArg some (by kernel_rfl))⟩
 f47 := Tryz.func184.trans (congrArg some (by kernel_rfl))
 f48 := Tryz.func185.trans (congrArg some (by kernel_rfl))
 f49 := ⟨Tryz.f186.name, by decide, Tryz.func186.trans (congrArg some (by kernel_rfl))⟩
 f50 := ⟨Tryz.f187.name, by decide, Tryz.func187.trans (congrArg some (by kernel_rfl))⟩
 f57 := ⟨Tryz.f202.name, by decide, Tryz.func202.trans (congrArg some (by kernel_rfl))⟩
 t0 := Tryz.underlying0
 a0 := Tryz.isAgg0
 z0 := Tryz.sizeOf0
 v0 := Tryz.zeroValue0
 t3 := Tryz.underlying3
 a3 := Tryz.isAgg3
 z3 := Tryz.sizeOf3
 v3 := Tryz.zeroValue3
 t4 := Tryz.underlying4
 a4 := Tryz.isAgg4
 z4 := Tryz.sizeOf4
 v4 := Tryz.zeroValue4
 t5 := Tryz.underlying5
 a5 := Tryz.isAgg5
 z5 := Tryz.sizeOf5
 v5 := Tryz.zeroValue5
 t9 := Tryz.underlying9
 a9 := Tryz.isAgg9
 z9 := Tryz.sizeOf9
 v9 := Tryz.zeroValue9
 t22 := Tryz.underlying57
 a22 := Tryz.isAgg57
 z22 := Tryz.sizeOf57
 v22 := Tryz.zeroValue57
 t25 := Tryz.underlying112
 a25 := Tryz.isAgg112
 z25 := Tryz.sizeOf112
 v25 := Tryz.zeroValue112
 t39 := Tryz.underlying156
 a39 := Tryz.isAgg156
 z39 := Tryz.sizeOf156
 v39 := Tryz.zeroValue156
 t45 := Tryz.underlying183
 a45 := Tryz.isAgg183
 z45 := Tryz.sizeOf183
 v45 := Tryz.zeroValue183
 t46 := Tryz.underlying184
 a46 := Tryz.isAgg184
 z46 := Tryz.sizeOf184
 v46 := Tryz.zeroValue184
 t50 := Tryz.underlying188
 a50 := Tryz.isAgg188
 z50 := Tryz.sizeOf188
 v50 := Tryz.zeroValue188
 t53 := Tryz.underlying191
 a53 := Tryz.isAgg191
 z53 := Tryz.sizeOf191
 v53 := Tryz.zeroValue191
 t55 := Tryz.underlying169
 a55 := Tryz.isAgg169
 z55 := Tryz.sizeOf169
 v55 := Tryz.zeroValue169
 t66 := Tryz.underlying208
 a66 := Tryz.isAgg208
 z66 := Tryz.sizeOf208
 v66 := Tryz.zeroValue208
 t70 := Tryz.underlying212
 a70 := Tryz.isAgg212
 z70 := Tryz.sizeOf212
 v70 := Tryz.zeroValue212
 t76 := Tryz.underlying223
 a76 := Tryz.isAgg223
 z76 := Tryz.sizeOf223
 v76 := Tryz.zeroValue223
 t77 := Tryz.underlying44
 a77 := Tryz.isAgg44
 z77 := Tryz.sizeOf44
 v77 := Tryz.zeroValue44 }
end Go.Proofs
namespace Go.Proofs.YtnpomigmeieofaaGreatDoor
open Go

theorem ask_drawn {α : Type} (a : Ask α) : ∀ w : World, w.drawn ≤ (w.ask a).2.drawn := by
 induction a with
 | done a => intro w; exact Nat.le_refl _
 | ask what range k ih =>
  intro w
  simp only [World.ask]
  split
  ·exact ih _ w
  ·refine Nat.le_trans ?_ (ih _ _)
   exact Nat.le_succ _
theorem sys_drawn (w : World) (c : Sys) : w.drawn ≤ (w.sys c).2.drawn := by
 unfold World.sys
 have h := ask_drawn (Kernel.perform c w.os) w
 split
 ·exact Nat.le_refl _
 ·rename_i e
  rw [e] at h
  exact h
theorem freeze_drawn (w : World) (a : Addr) (n : Nat) : (w.freeze a n).drawn = w.drawn := by
 unfold World.freeze
 split <;> rfl
theorem viewStore_drawn {p : Program} {w : World} {a : Addr} {u : TypeId} {k : Addr} {v : Value} {at_ : Bool} {r : World × List Addr} (h : w.viewStore p a u k v at_ = .ok r) : r.1.drawn = w.drawn := by
 unfold World.viewStore at h
 simp only [bind, Except.bind, pure, Except.pure] at h
 repeat' (split at h)
 all_goals first | (cases h; done) | (injection h with h; subst h; rfl) | skip
theorem farStore_drawn {p : Program} {w : World} {a : Addr} {v : Value} {at_ : Bool} {r : World × List Addr} (h : w.farStore p a v at_ = .ok r) : r.1.drawn = w.drawn := by
 unfold World.farStore at h
 split at h
 ·split at h
  ·rename_i e
   injection h with h
   subst h
   exact viewStore_drawn e
  ·cases h
 ·cases h
def resGe {α : Type} (n : Nat) : Result α → Prop
 | .ok _ w => n ≤ w.drawn
 | .halt _ w => n ≤ w.drawn
theorem resGe_mono {α : Type} {n m : Nat} {r : Result α} (h : resGe m r) (hn : n ≤ m) : resGe n r := by
 cases r <;> exact Nat.le_trans hn h
theorem run_drawn {α : Type} (p : Program) (s : Sem α) : ∀ w : World, resGe w.drawn (s.run p w) := by
 induction s with
 | pure a => intro w; exact Nat.le_refl _
 | load m a k ih =>
  intro w
  simp only [Sem.run]
  split
  ·exact ih _ w
  ·split
   ·exact ih _ w
   ·exact Nat.le_refl _
 | store m a v k ih =>
  intro w
  have key : resGe w.drawn (match w.cell? a with
    | some _ => if w.frozen? a then (.halt (.unsupported (.unsafePointer "a write to bytes that a string shares")) w : Result α) else k.run p (w.setCell a v)
    | none => match w.farStore p a v (m == .atomic) with
     | .ok (w, _) => k.run p w
     | .error h => .halt h w) := by
   split
   ·split
    ·exact Nat.le_refl _
    ·exact ih (w.setCell a v)
   ·split
    ·rename_i e
     have h := farStore_drawn e
     rw [← h]
     exact ih _
    ·exact Nat.le_refl _
  cases v <;> simp only [Sem.run] <;> first | exact key | exact Nat.le_refl _
 | new o k ih => intro w; simp only [Sem.run]; exact ih _ _
 | shape r k ih => intro w; simp only [Sem.run]; exact ih _ _
 | freeze a n k ih => intro w; simp only [Sem.run]; rw [← freeze_drawn w a n]; exact ih _
 | frozen a k ih => intro w; simp only [Sem.run]; exact ih _ _
 | getObj r k ih =>
  intro w
  simp only [Sem.run]
  split
  ·exact Nat.le_refl _
  ·exact ih _ _
  ·exact Nat.le_refl _
 | setObj r o k ih =>
  intro w
  simp only [Sem.run]
  split
  ·exact Nat.le_refl _
  ·exact ih _
  ·exact Nat.le_refl _
 | choose q k ih =>
  intro w
  simp only [Sem.run]
  split
  ·exact ih _ w
  ·exact resGe_mono (ih _ _) (Nat.le_succ _)
 | sys c k ih => intro w; simp only [Sem.run]; exact resGe_mono (ih _ _) (sys_drawn w c)
 | program k ih => intro w; simp only [Sem.run]; exact ih _ _
 | mark m k ih => intro w; simp only [Sem.run]; exact ih _
 | halt h => intro w; exact Nat.le_refl _
theorem runT_drawn {α : Type} (p : Program) (s : Sem α) : ∀ (w : World) (es : Array Event), resGe w.drawn (s.runT p w es).1 := by
 induction s with
 | pure a => intro w es; exact Nat.le_refl _
 | load m a k ih =>
  intro w es
  simp only [Sem.runT]
  split
  ·exact ih _ w _
  ·split
   ·exact ih _ w _
   ·exact Nat.le_refl _
 | store m a v k ih =>
  intro w es
  have h1 : ∀ es, resGe w.drawn (k.runT p (w.setCell a v) es).1 := fun es => ih (w.setCell a v) es
  have h2 : ∀ w' l es, w.farStore p a v (m == .atomic) = .ok (w', l) → resGe w.drawn (k.runT p w' es).1 := fun w' l es e => by rw [← farStore_drawn e]; exact ih w' es
  cases v <;> simp only [Sem.runT] <;> (repeat' split) <;> first | exact Nat.le_refl _ | exact h1 _ | exact h2 _ _ _ (by assumption)
 | new o k ih => intro w es; simp only [Sem.runT]; exact ih _ _ _
 | shape r k ih => intro w es; simp only [Sem.runT]; exact ih _ _ _
 | freeze a n k ih => intro w es; simp only [Sem.runT]; rw [← freeze_drawn w a n]; exact ih _ _
 | frozen a k ih => intro w es; simp only [Sem.runT]; exact ih _ _ _
 | getObj r k ih =>
  intro w es
  simp only [Sem.runT]
  split
  ·exact Nat.le_refl _
  ·exact ih _ _ _
  ·exact Nat.le_refl _
 | setObj r o k ih =>
  intro w es
  simp only [Sem.runT]
  split
  ·exact Nat.le_refl _
  ·exact ih _ _
  ·exact Nat.le_refl _
 | choose q k ih =>
  intro w es
  simp only [Sem.runT]
  split
  ·exact ih _ w _
  ·exact resGe_mono (ih _ _ _) (Nat.le_succ _)
 | sys c k ih => intro w es; simp only [Sem.runT]; exact resGe_mono (ih _ _ _) (sys_drawn w c)
 | program k ih => intro w es; simp only [Sem.runT]; exact ih _ _ _
 | mark m k ih => intro w es; simp only [Sem.runT]; exact ih _ _
 | halt h => intro w es; exact Nat.le_refl _
section
variable {α : Type} {p : Program} {s : Sem α} {w w' : World} {n : Nat} {es es' : Array Event}
theorem run_ok (h : n ≤ w.drawn) {a : α} (e : s.run p w = .ok a w') : n ≤ w'.drawn := by
 have h2 := run_drawn p s w
 rw [e] at h2
 exact Nat.le_trans h h2
theorem run_halt (h : n ≤ w.drawn) {x : Halt} (e : s.run p w = .halt x w') : n ≤ w'.drawn := by
 have h2 := run_drawn p s w
 rw [e] at h2
 exact Nat.le_trans h h2
theorem runT_ok (h : n ≤ w.drawn) {a : α} (e : s.runT p w es = (.ok a w', es')) : n ≤ w'.drawn := by
 have h2 := runT_drawn p s w es
 rw [e] at h2
 exact Nat.le_trans h h2
theorem runT_halt (h : n ≤ w.drawn) {x : Halt} (e : s.runT p w es = (.halt x w', es')) : n ≤ w'.drawn := by
 have h2 := runT_drawn p s w es
 rw [e] at h2
 exact Nat.le_trans h h2
theorem runT_ok1 (h : n ≤ w.drawn) {a : α} (e : (s.runT p w es).1 = .ok a w') : n ≤ w'.drawn := by
 have h2 := runT_drawn p s w es
 rw [e] at h2
 exact Nat.le_trans h h2
theorem runT_halt1 (h : n ≤ w.drawn) {x : Halt} (e : (s.runT p w es).1 = .halt x w') : n ≤ w'.drawn := by
 have h2 := runT_drawn p s w es
 rw [e] at h2
 exact Nat.le_trans h h2
end
def gsGe (n : Nat) : GStep → Prop
 | .go _ w _ => n ≤ w.drawn
 | .comm _ _ _ _ w _ => n ≤ w.drawn
 | .spawn _ _ w _ => n ≤ w.drawn
 | .count _ w _ => n ≤ w.drawn
 | .timer _ _ w _ => n ≤ w.drawn
 | .alone _ _ w _ => n ≤ w.drawn
 | .newcoro _ _ _ w _ => n ≤ w.drawn
 | .coroswitch _ _ _ w _ => n ≤ w.drawn
 | .collect _ w _ => n ≤ w.drawn
 | .watch _ w _ => n ≤ w.drawn
 | .ended .. => True
theorem after_ge {n : Nat} {es : Array Event} {s : GStep} (h : gsGe n s) : gsGe n (GStep.after es s) := by
 cases s <;> exact h
theorem ite_ge {n : Nat} {c : Prop} [Decidable c] {a b : GStep} (ha : gsGe n a) (hb : gsGe n b) : gsGe n (if c then a else b) := by
 split
 ·exact ha
 ·exact hb
theorem elim_ge {α : Type} {n : Nat} {o : Option α} {a : GStep} {f : α → GStep} (ha : gsGe n a) (hf : ∀ x, gsGe n (f x)) : gsGe n (o.elim a f) := by
 cases o
 ·exact ha
 ·exact hf _
theorem endWith_ge (n : Nat) (w : World) (fd : Nat) (t : ByteArray) (o : Outcome) : gsGe n (endWith w fd t o) := by
 unfold endWith
 simp only []
 repeat' first
  | exact trivial
  | split
theorem endThrow_ge {n : Nat} {w : World} (h : n ≤ w.drawn) (fr : Frame) (m : String) : gsGe n (endThrow fr m w) := h
theorem endPrinting_ge {n : Nat} {w : World} (h : n ≤ w.drawn) (p : Program) (fr : Frame) (v : Value) : gsGe n (endPrinting p fr v w) := by
 unfold endPrinting
 simp only []
 repeat' first
  | exact trivial
  | exact endThrow_ge h _ _
  | split
theorem endFatal_ge {n : Nat} {w : World} (h : n ≤ w.drawn) (p : Program) (fr : Frame) (callers : List Frame) (dying : Option Dying) (m : String) : gsGe n (endFatal p fr callers dying m w) := by
 unfold endFatal
 simp only []
 split
 ·rename_i e
  exact run_ok h e
 iterate 2 exact trivial
theorem writeOn_ge {n : Nat} {w : World} (h : n ≤ w.drawn) (p : Program) (fr : Frame) (d : Dying) (f : Fatal) : gsGe n (writeOn p fr d f w) := by
 unfold writeOn
 simp only []
 split
 ·exact trivial
 ·split
  ·rename_i e; exact runT_ok h e
  ·rename_i e; exact runT_halt h e
  iterate 2 exact trivial
theorem die_ge {n : Nat} {w : World} (h : n ≤ w.drawn) (p : Program) (fr : Frame) (d : Dying) : gsGe n (die p fr d w) := by
 unfold die
 simp only []
 repeat' first
  | exact trivial
  | exact writeOn_ge h _ _ _ _
  | exact endWith_ge _ _ _ _ _
  | exact h
  | exact run_ok h (by assumption)
  | exact runT_ok h (by assumption)
  | exact endPrinting_ge (runT_halt h (by assumption)) _ _ _
  | exact endPrinting_ge (runT_halt1 h (by assumption)) _ _ _
  | exact runT_ok1 h (by assumption)
  | apply after_ge
  | split
theorem doReturn_ge {n : Nat} {w : World} (h : n ≤ w.drawn) (p : Program) (main : Bool) (fr : Frame) (callers : List Frame) (dying : Option Dying) (v : Value) : gsGe n (doReturn p main fr callers dying v w) := by
 unfold doReturn
 simp only []
 repeat' first
  | exact trivial
  | exact h
  | split
theorem callDeferred_ge {n : Nat} {w : World} (h : n ≤ w.drawn) (p : Program) (fr : Frame) (callers : List Frame) (dying : Option Dying) (d : Deferred) : gsGe n (callDeferred p fr callers dying d w) := by
 unfold callDeferred
 simp only []
 refine ite_ge trivial ?_
 have hr := runT_drawn p (invoke d.target d.args) w #[]
 generalize (invoke d.target d.args).runT p w #[] = re at *
 obtain ⟨r, es⟩ := re
 apply after_ge
 cases r with
 | ok x w' =>
  have h2 : n ≤ w'.drawn := Nat.le_trans h hr
  cases x
  case alone on v => cases on <;> first | exact h2 | exact trivial
  case coroswitch c ex => cases ex <;> first | exact h2 | exact trivial
  all_goals simp only []
  all_goals repeat' first
   | exact trivial
   | exact h2
   | split
 | halt x w' =>
  have h2 : n ≤ w'.drawn := Nat.le_trans h hr
  cases x <;> first | exact trivial | exact h2 | exact endFatal_ge h2 _ _ _ _ _ | exact endThrow_ge h2 _ _
theorem unwind_ge {n : Nat} {w : World} (h : n ≤ w.drawn) (p : Program) (main : Bool) (fr : Frame) (callers : List Frame) (dying : Option Dying) : gsGe n (unwind p main fr callers dying w) := by
 unfold unwind
 simp only []
 repeat' first
  | exact trivial
  | exact h
  | exact callDeferred_ge h _ _ _ _ _
  | exact doReturn_ge h _ _ _ _ _ _
  | exact doReturn_ge (runT_ok h (by assumption)) _ _ _ _ _ _
  | exact endPrinting_ge h _ _ _
  | exact run_ok h (by assumption)
  | exact runT_ok h (by assumption)
  | exact runT_ok1 h (by assumption)
  | exact doReturn_ge (runT_ok1 h (by assumption)) _ _ _ _ _ _
  | apply after_ge
  | split
theorem early_ge {n : Nat} {w : World} (h : n ≤ w.drawn) (p : Program) (fr : Frame) (callers : List Frame) (dying : Option Dying) (g : Nat) : gsGe n (early p fr callers dying g w) := by
 unfold early
 simp only []
 repeat' first
  | exact trivial
  | exact h
  | exact run_ok h (by assumption)
  | (rename_i e _ _ _ _; have h9 := run_ok h e; exact h9)
  | split
theorem apply_ge {n : Nat} {w : World} (h : n ≤ w.drawn) (p : Program) (listen : Bool) (fr : Frame) (callers : List Frame) (dying : Option Dying) (s : Sem Next) : gsGe n (stepG.apply p listen fr callers dying s w) := by
 unfold stepG.apply
 simp only []
 have hr : resGe w.drawn (if listen then s.runT p w #[] else (s.run p w, #[])).1 := by
  split
  ·exact runT_drawn p s w #[]
  ·exact run_drawn p s w
 generalize (if listen then s.runT p w #[] else (s.run p w, #[])) = re at *
 obtain ⟨r, es⟩ := re
 apply after_ge
 cases r with
 | ok x w' =>
  have h2 : n ≤ w'.drawn := Nat.le_trans h hr
  cases x <;> simp only []
  all_goals repeat' first
   | exact trivial
   | exact h2
   | exact endThrow_ge h2 _ _
   | split
 | halt x w' =>
  have h2 : n ≤ w'.drawn := Nat.le_trans h hr
  cases x
  case unsupported u => cases u <;> first | exact early_ge h2 _ _ _ _ _ | exact trivial
  all_goals first | exact trivial | exact h2 | exact endFatal_ge h2 _ _ _ _ _ | exact endThrow_ge h2 _ _
theorem oper_ge {n : Nat} {w : World} (h : n ≤ w.drawn) (p : Program) (listen : Bool) (fr : Frame) (callers : List Frame) (dying : Option Dying) : gsGe n (stepG.oper p listen fr callers dying w) := by
 unfold stepG.oper
 repeat' first
  | exact trivial
  | exact apply_ge h _ _ _ _ _ _
  | split
theorem exec_ge {n : Nat} {w : World} (h : n ≤ w.drawn) (p : Program) (main listen : Bool) (fr : Frame) (callers : List Frame) (dying : Option Dying) : gsGe n (stepG.exec p main listen fr callers dying w) := by
 unfold stepG.exec
 simp only []
 repeat' first
  | exact trivial
  | exact h
  | refine elim_ge ?_ (fun _ => ?_)
  | exact apply_ge h _ _ _ _ _ _
  | exact apply_ge (runT_ok h (by assumption)) _ _ _ _ _ _
  | exact oper_ge h _ _ _ _ _
  | exact doReturn_ge (runT_ok h (by assumption)) _ _ _ _ _ _
  | exact run_ok h (by assumption)
  | exact runT_ok h (by assumption)
  | exact runT_halt h (by assumption)
  | exact runT_ok1 h (by assumption)
  | exact runT_halt1 h (by assumption)
  | exact doReturn_ge (runT_ok1 h (by assumption)) _ _ _ _ _ _
  | exact apply_ge (runT_ok1 h (by assumption)) _ _ _ _ _ _
  | apply after_ge
  | split
theorem stepG_ge (p : Program) (main : Bool) (g : Goroutine) (w : World) (listen : Bool) : gsGe w.drawn (stepG p main g w listen) := by
 unfold stepG
 simp only []
 repeat' first
  | exact die_ge (Nat.le_refl _) _ _ _
  | exact exec_ge (Nat.le_refl _) _ _ _ _ _ _
  | exact unwind_ge (Nat.le_refl _) _ _ _ _ _
  | split
def stGe (n : Nat) (s : Stepped) : Prop := ∀ m, s = .next m → n ≤ m.world.drawn
theorem stGe_end {n : Nat} {o : Outcome} {w : World} : stGe n (.ended o w) := fun m h => by cases h
theorem stGe_next {n : Nat} {m : Machine} (h : n ≤ m.world.drawn) : stGe n (.next m) := fun m' h' => by injection h' with h'; subst h'; exact h
theorem waitingAt_drawn {rest : Rest} {cases : Array CommCase} {w w' : World} (h : waitingAt rest cases w = some w') : w'.drawn = w.drawn := by
 unfold waitingAt at h
 repeat' first
  | (cases h; done)
  | (injection h with h; subst h; rfl)
  | split at h
theorem communicate_drawn {n : Nat} (p : Program) (rest : Rest) (gs : Array Goroutine) (i : Nat) (g : Goroutine) (cases : Array CommCase) (blocking : Bool) (shape : CommShape) (w : World) (hn : n ≤ w.drawn) (m' : Machine)
  (h : (communicate p rest gs i g cases blocking shape w).1 = .next m') : n ≤ m'.world.drawn := by
 unfold communicate at h
 simp only [] at h
 repeat' first
  | (simp at h; done)
  | (simp only [Stepped.next.injEq] at h; subst h; exact hn)
  | (simp only [Stepped.next.injEq] at h; subst h; rename_i e; have h9 := waitingAt_drawn e; exact Nat.le_trans hn (Nat.le_of_eq h9.symm))
  | (simp only [Stepped.next.injEq] at h; subst h; have h9 := run_ok hn (by assumption); exact h9)
  | (simp only [Stepped.next.injEq] at h; subst h; have h9 := run_halt (run_ok hn (by assumption)) (by assumption); exact h9)
  | (simp only [Stepped.next.injEq] at h; subst h; have h9 := run_ok (run_ok hn (by assumption)) (by assumption); exact h9)
  | split at h
theorem look_drawn {n : Nat} {w : World} (hn : n ≤ w.drawn) (p : Program) (gs : Array Goroutine) (rest : Rest) (m' : Machine) (h : look p gs rest w = .next m') : n ≤ m'.world.drawn := by
 unfold look at h
 simp only [] at h
 repeat' first
  | (simp at h; done)
  | (simp only [Stepped.next.injEq] at h; subst h; have h9 := run_ok hn (by assumption); exact h9)
  | split at h
theorem drain_drawn (w : World) (c : Nat) : (drain w c).2.drawn = w.drawn := by
 unfold drain
 split <;> rfl
theorem retime_drawn (m : Machine) (k : Nat) (t : Timer) (when_ period : Nat) : (retime m k t when_ period).2.world.drawn = m.world.drawn := by
 unfold retime
 cases t.chan with
 | none => rfl
 | some c => exact drain_drawn m.world c
theorem opened_drawn {m m' : Machine} {var : Addr} (h : timerOp.opened m var = some m') : m'.world.drawn = m.world.drawn := by
 unfold timerOp.opened at h
 repeat' first
  | (cases h; done)
  | (injection h with h; subst h; rfl)
  | split at h
theorem named_drawn {n : Nat} {m : Machine} {var : Addr} {f : Nat → Timer → Value × Machine} (hf : ∀ k t, n ≤ (f k t).2.world.drawn) {r : Value × Machine} (h : timerOp.named m var f = .ok r) : n ≤ r.2.world.drawn := by
 unfold timerOp.named at h
 split at h
 ·injection h with h; subst h; exact hf _ _
 ·cases h
theorem timerOp_drawn {n : Nat} {m : Machine} (hn : n ≤ m.world.drawn) (op : TimerOp) {v : Value} {m' : Machine} (h : timerOp m op = .ok (v, m')) : n ≤ m'.world.drawn := by
 cases op <;> simp only [timerOp] at h
 case stop var => exact named_drawn (fun k t => by rw [retime_drawn]; exact hn) h
 case reset var wh pe =>
  split at h
  ·rename_i e
   exact named_drawn (fun k t => by rw [retime_drawn, opened_drawn e]; exact hn) h
  ·cases h
 all_goals repeat' first
  | (cases h; done)
  | (injection h with h; injection h with _ h; subst h; exact hn)
  | split at h
theorem runT_drawnM (p : Program) (m m' : Machine) (i : Nat) (b : Bool) (h : (Go.runT p m i b).1 = .next m') : m.world.drawn ≤ m'.world.drawn := by
 simp only [Go.runT] at h
 generalize m.gs.swapAt! _ _ = gg at h
 have hs := stepG_ge p (i == 0) gg.1 m.world b
 revert hs h
 generalize stepG p _ gg.1 m.world b = s
 intro h hs
 cases s <;> simp only [] at h
 all_goals first
  | (simp at h; done)
  | exact communicate_drawn _ _ _ _ _ _ _ _ _ hs _ h
  | exact look_drawn hs _ _ _ _ h
  | (simp only [Stepped.next.injEq] at h; subst h; exact hs)
  | (repeat' first
    | (simp at h; done)
    | (simp only [Stepped.next.injEq] at h; subst h; exact hs)
    | (simp only [Stepped.next.injEq] at h; subst h; rename_i e; have h9 := timerOp_drawn (m := _) hs _ e; exact h9)
    | (rename_i e; unfold endThrow dieOf at e; simp only [GStep.go.injEq] at e; simp only [Stepped.next.injEq] at h; subst h; rw [← e.2.1]; exact hs)
    | split at h)
theorem serve_drawn (p : Program) (m m' : Machine) (k : Nat) (h : serve p m k = .next m') : m.world.drawn ≤ m'.world.drawn := by
 unfold serve at h
 simp only [] at h
 repeat' first
  | (simp at h; done)
  | (simp only [Stepped.next.injEq] at h; subst h; exact Nat.le_refl _)
  | split at h
def mvGe (n : Nat) : Move → Prop
 | .goroutine m _ => n ≤ m.world.drawn
 | .machine s _ => stGe n s
theorem serve_ge {n : Nat} {p : Program} {m : Machine} (h : n ≤ m.world.drawn) (k : Nat) : stGe n (serve p m k) := fun m' e => Nat.le_trans h (serve_drawn p m m' k e)
theorem mv_ite {n : Nat} {c : Prop} [Decidable c] {a b : Move} (ha : mvGe n a) (hb : mvGe n b) : mvGe n (if c then a else b) := by
 split
 ·exact ha
 ·exact hb
theorem mvGe_mono {n k : Nat} {v : Move} (h : mvGe k v) (hn : n ≤ k) : mvGe n v := by
 cases v with
 | goroutine m i => exact Nat.le_trans hn h
 | machine s ops => exact fun m e => Nat.le_trans hn (h m e)
theorem askOn_ge (p : Program) (m : Machine) : mvGe m.world.drawn (askOn p m) := by
 have hk : ∀ {α : Type} {s : Sem α} {w w' : World} {a : α}, m.world.drawn ≤ w.drawn → s.run p w = .ok a w' → m.world.drawn ≤ w'.drawn := fun h e => run_ok h e
 unfold askOn
 simp only []
 repeat' first
  | exact stGe_end
  | exact serve_ge (hk (Nat.le_refl _) (by assumption)) _
  | exact stGe_next (hk (Nat.le_refl _) (by assumption))
  | refine mv_ite ?_ ?_
  | split
 all_goals first
  | (have h9 := hk (hk (hk (hk (Nat.le_refl _) (by assumption)) (by assumption)) (by assumption)) (by assumption); exact h9)
  | (have h9 := hk (hk (hk (Nat.le_refl _) (by assumption)) (by assumption)) (by assumption); first | exact h9 | exact stGe_next h9)
  | (have h9 := hk (hk (Nat.le_refl _) (by assumption)) (by assumption); first | exact h9 | exact stGe_next h9)
  | (have h9 := hk (Nat.le_refl _) (by assumption); first | exact h9 | exact stGe_next h9)
  | (have h1 := hk (hk (Nat.le_refl _) (by assumption)) (by assumption)
     have h2 := hk (w := (Machine.advanceTo { world := _, gs := m.gs, rest := m.rest } _).world) h1 (by assumption)
     first
      | exact h2
      | (have h3 := hk h2 (by assumption); exact h3))
theorem ask_ge (p : Program) (m : Machine) : mvGe m.world.drawn (Go.ask p m) := by
 unfold Go.ask
 split
 ·split
  ·exact stGe_end
  ·rename_i e
   have h1 := run_ok (Nat.le_refl _) e
   split
   ·rename_i e2
    have h2 := look_drawn h1 _ _ _ _ e2
    have h3 := askOn_ge p
    exact mvGe_mono (h3 _) h2
   ·rename_i s hne
    cases hs : look p m.gs m.rest _ with
    | next m2 => exact absurd hs (hne m2)
    | ended o w => exact stGe_end
  ·rename_i e
   have h1 := run_ok (Nat.le_refl _) e
   exact mvGe_mono (askOn_ge p _) h1
 ·exact askOn_ge p m
theorem move_ge (p : Program) (m : Machine) : mvGe m.world.drawn (Go.move p m) := by
 unfold Go.move
 repeat' first
  | exact stGe_end
  | exact ask_ge p m
  | exact ask_ge p { m with rest := { m.rest with slice := none } }
  | exact Nat.le_refl _
  | split
theorem step_drawn {p : Program} {m m' : Machine} (h : step p m = .next m') : m.world.drawn ≤ m'.world.drawn := by
 unfold step stepT at h
 have hm := move_ge p m
 split at h
 ·rename_i e
  rw [e] at hm
  exact Nat.le_trans hm (runT_drawnM p _ m' _ _ h)
 ·rename_i e
  rw [e] at hm
  exact hm m' h
theorem runN_drawn {p : Program} (n : Nat) : ∀ {m m' : Machine}, runN p n m = .next m' → m.world.drawn ≤ m'.world.drawn := by
 induction n with
 | zero => intro m m' h; injection h with h; subst h; exact Nat.le_refl _
 | succ n ih =>
  intro m m' h
  unfold runN at h
  split at h
  ·rename_i e
   exact Nat.le_trans (step_drawn e) (ih h)
  ·rename_i hne
   cases hs : step p m with
   | next m2 => exact absurd hs (hne m2)
   | ended o w => rw [hs] at h; cases h
theorem calls_drawn {P : Program} {f : FuncId} {args : Array Value} {w : World} {R : Ending → World → Prop} (h : Calls P f args w R) :
  Calls P f args w fun e w' => R e w' ∧ ∀ v, e = .returned v → w.drawn ≤ w'.drawn := by
 intro cs
 obtain ⟨e, w', fr, hR, hC, h1, h2⟩ := h cs
 refine ⟨e, w', fr, ⟨hR, ?_⟩, hC, h1, h2⟩
 rintro v rfl
 obtain ⟨n, hn⟩ := hC
 exact runN_drawn n hn
end Go.Proofs.YtnpomigmeieofaaGreatDoor
