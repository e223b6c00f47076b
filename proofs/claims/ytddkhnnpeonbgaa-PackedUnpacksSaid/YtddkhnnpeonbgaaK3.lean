/- A range over a function whose list is known ahead: one law for the caller, one form of contract for the iterator (which may keep cells of its own, and may panic). -/
import Derived.Test.YtddkhnnpeonbgaaK1
import Derived.RangeFuncNested
import Derived.RangeFuncBound
import Derived.RangeFuncCalls
import Derived.RangeFuncLeaves
import Derived.OwnWalkIn
import Derived.TacticsInMore
import Derived.LoopNIn
import Derived.LoopIn
namespace Go.Proofs.Ytddkhnnpeonbgaa
open Go.RowKit

/-- only blocks from lo up to hi, and new ones, may differ -/
structure Alt (lo hi : Nat) (w w' : World) : Prop where
  os : w'.os = w.os
  tape : w'.tape = w.tape
  output : w'.output = w.output
  size : w.heap.size ≤ w'.heap.size
  block : ∀ k, k < w.heap.size → (k < lo ∨ hi ≤ k) → w'.heap[k]? = w.heap[k]?
section
variable {lo hi q B : Nat} {w w' w2 : World} {o : Obj}
theorem Alt.refl (lo hi : Nat) (w : World) : Alt lo hi w w := ⟨rfl, rfl, rfl, Nat.le_refl _, fun _ _ _ => rfl⟩
theorem Alt.trans (h : Alt lo hi w w') (k : Alt lo hi w' w2) : Alt lo hi w w2 :=
  ⟨k.os.trans h.os, k.tape.trans h.tape, k.output.trans h.output, Nat.le_trans h.size k.size, fun i hi hr => (k.block i (Nat.lt_of_lt_of_le hi h.size) hr).trans (h.block i hi hr)⟩
theorem Alt.hasO (h : Alt lo hi w w') (hq : HasO w q o) (hr : q < lo ∨ hi ≤ q) : HasO w' q o := (h.block q hq.lt hr).trans hq
theorem Alt.below (h : Alt lo hi w w') {w0 : World} (hb : Below B w0 w) (hB : B ≤ lo) (hB2 : B ≤ w.heap.size) : Below B w0 w' :=
  hb.trans ⟨h.os, h.tape, h.output, h.size, fun k hk => h.block k (by omega) (.inl (by omega))⟩
theorem Alt.own (h : Alt lo hi w w') {base : Nat} {e : TypeId} {size n : Nat} {v : Value} {xs : List Value} (ho : w.ownsRow base e size v n xs) (hr : ∀ g, v.ownBlock = some g → g < lo ∨ hi ≤ g) : w'.ownsRow base e size v n xs := by
  refine ⟨ho.1, ?_⟩
  rcases ho.2 with h2 | ⟨g, cap, cur, hv, hg, hh, r⟩
  · exact .inl h2
  · refine .inr ⟨g, cap, cur, hv, hg, ?_, r⟩
    have := HasO.lt (w := w) (q := g) (o := .cells cur e (0, 0)) hh
    rw [h.block g this (hr g (by rw [hv]; rfl))]; exact hh
theorem Alt.putObj (hq : lo ≤ q ∧ q < hi) : Alt lo hi w (w.putObj q o) :=
  ⟨rfl, rfl, rfl, by simp, fun k _ hr => World.putObj_heap_other (by omega)⟩
theorem Alt.below_ (h : Below lo w w') (hs : w.heap.size ≤ hi) : Alt lo hi w w' := ⟨h.os, h.tape, h.output, h.size, fun k hk hr => h.block k (by omega)⟩
theorem Alt.mono {lo' hi' : Nat} (h : Alt lo hi w w') (h1 : lo' ≤ lo) (h2 : hi ≤ hi') : Alt lo' hi' w w' := ⟨h.os, h.tape, h.output, h.size, fun k hk hr => h.block k hk (by omega)⟩
theorem Alt.setCell {p : Addr} {u : Value} (hq : lo ≤ p.block ∧ p.block < hi) : Alt lo hi w (w.setCell p u) :=
  ⟨rfl, rfl, rfl, by simp [World.setCell], fun k _ hr => Below.heap_setCell _ _ _ _ (by omega)⟩
theorem Alt.drewN (n : Nat) : Alt lo hi w (w.drewN n) := ⟨rfl, rfl, rfl, Nat.le_refl _, fun _ _ _ => rfl⟩
theorem Alt.call (h : Below w.heap.size w w') : Alt lo hi w w' := ⟨h.os, h.tape, h.output, h.size, fun k hk _ => h.block k hk⟩
theorem Alt.alloc (o : Obj) : Alt lo hi w (w.alloc o) := Alt.call (below_box w o)
end

theorem roundIn_any {n m : Nat} {P : Program} {l : Nat} {f : FuncId} {tmps : Array Value} {assign body : Code} {w : World} {R : Ending → World → Prop} (h : RoundIn Fence.wide n P l f tmps assign body w R) : RoundIn Fence.wide m P l f tmps assign body w R :=
  ⟨h.1, fun c cs _ => h.2 c cs (room_wide _)⟩

/-- the blocks from lo up to c are no rows of cells but of the types in T -/
def OwnT (T : TypeId → Prop) (lo c : Nat) (W : World) : Prop := ∀ q, lo ≤ q → q < c → ∃ o, HasO W q o ∧ ∀ cs t fr, o = .cells cs t fr → T t
theorem OwnT.not_row {T : TypeId → Prop} {lo c : Nat} {W W' : World} (h : OwnT T lo c W) (hk : ∀ q o, lo ≤ q ∧ q < c → HasO W q o → HasO W' q o) {base : Nat} {e : TypeId} {size n : Nat} {v : Value} {xs : List Value} (ho : W'.ownsRow base e size v n xs) (he : ¬ T e) :
    ∀ g, v.ownBlock = some g → g < lo ∨ c ≤ g := by
  intro g hg
  rcases Nat.lt_or_ge g lo with h1 | h1
  · exact .inl h1
  · rcases Nat.lt_or_ge g c with h2 | h2
    · exfalso
      obtain ⟨o, hq, hT⟩ := h g h1 h2
      refine own_ne ho (hk g o ⟨h1, h2⟩ hq) (fun cs ec => ?_) hg
      exact he (hT cs e (0, 0) ec)
    · exact .inr h2

theorem OwnT.turn {T : TypeId → Prop} {lo c l : Nat} {W W' : World} {r : Loop} (h : OwnT T lo c W) (ha : Alt l (l + 1) W W') (hr : HasO W' l (.loop r)) : OwnT T lo c W' := by
  intro q h1 h2
  by_cases e : q = l
  · subst e; exact ⟨_, hr, by simp⟩
  · obtain ⟨o, hq, ht⟩ := h q h1 h2
    exact ⟨o, ha.hasO hq (by omega), ht⟩

/-- the iterator 'gf' with what it has captured yields 'encs 0', 'encs 1' .. up to N, reading what 'Rd' says; it may end by a panic of the kind Pn, at place k. Blocks from the heap's size at its call up to 'c' are its own. -/
def SeqI (P : Program) (gf : Nat) (lb : Array Value) (N : Nat) (encs : Nat → Array Value) (Rd : World → Prop) (Pn : Nat → List PanicEntry → Prop) (T : TypeId → Prop) : Prop :=
  ∀ (n l : Nat) (J : Nat → Nat → World → Prop) (Jx : Nat → Nat → World → Prop) (W0 : World),
    (∀ c k W W', W0.heap.size ≤ c → J c k W → Alt W0.heap.size c W W' → J c k W') →
    (∀ c k W W', W0.heap.size ≤ c → Jx c k W → Alt W0.heap.size c W W' → Jx c k W') →
    (∀ c k W, J c k W → Rd W) → (∀ c k W, J c k W → c ≤ W.heap.size) → (∀ c k W, Jx c k W → c ≤ W.heap.size) →
    (∀ c W, Below W0.heap.size W0 W → W0.heap.size ≤ c → W.heap.size = c → J c 0 W) →
    (∀ c k W, W0.heap.size ≤ c → k < N → J c k W → OwnT T W0.heap.size c W → YieldAt Fence.wide n P l (encs k) W fun e W' => (e = .returned (.bool true) ∧ J c (k + 1) W' ∧ (∀ q o, W0.heap.size ≤ q → q < c → HasO W q o → HasO W' q o)) ∨ (e = .returned (.bool false) ∧ Jx c k W')) →
    CallsIn Fence.wide n P gf (#[.func (.yield l) #[] #[]] ++ lb) W0 fun e W' => ∃ c, W0.heap.size ≤ c ∧ (((∃ v, e = .returned v) ∧ (J c N W' ∨ ∃ k, k < N ∧ Jx c k W')) ∨ (∃ ch k, e = .panicked ch ∧ Pn k ch ∧ J c k W'))

/-- how the body of a round may be left -/
def bodyI (l D : Nat) (I : Nat → World → Prop) (Ix : Code → World → Prop) (k : Nat) (own : Nat → Nat → Prop) (W : World) : Exit → Act → World → Prop
  | .normal, _, W' => (∀ q o, (q = l ∨ q = D ∨ own D q) → HasO W q o → HasO W' q o) ∧ I (k + 1) W'
  | .ret, _, W' => (∀ q o, (q = l ∨ q = D) → HasO W q o → HasO W' q o) ∧ Ix .ret W'
  | .exit id, _, W' => (∀ q o, (q = l ∨ q = D) → HasO W q o → HasO W' q o) ∧ Ix (.exit id) W'
  | .goto t, _, W' => (∀ q o, (q = l ∨ q = D) → HasO W q o → HasO W' q o) ∧ Ix (.goto t) W'
  | .panic _, _, _ => False
  | .outgrown, _, _ => False

theorem rangeFunc_law {n : Nat} {P : Program} {g : Operand} {ps : Array Tmp} {assign body : Code} {Q : Exit → Act → World → Prop} {a : Act} {w : World}
    {gf : Nat} {lb : Array Value} {N : Nat} {encs : Nat → Array Value} {Rd : World → Prop} {Pn : Nat → List PanicEntry → Prop} {T : TypeId → Prop}
    (hg : a.eval g = .func (.func gf) #[] lb) (eg : ∀ args w, (callFunc gf args).run P w = .ok (.enter gf args) w)
    (hseq : SeqI P gf lb N encs Rd Pn T) (hps : ∀ k, k < N → (encs k).size = ps.size)
    (I : Nat → Nat → World → Prop) (Ix : Nat → Code → Nat → World → Prop)
    (hst : ∀ c k W W', w.heap.size + 2 ≤ c → I c k W → Alt w.heap.size c W W' → I c k W')
    (hstx : ∀ c j k W W', w.heap.size + 2 ≤ c → Ix c j k W → Alt w.heap.size c W W' → Ix c j k W')
    (hRd : ∀ c k W, w.heap.size + 2 ≤ c → I c k W → Rd W) (hsz : ∀ c k W, w.heap.size + 2 ≤ c → I c k W → c ≤ W.heap.size) (hszx : ∀ c j k W, w.heap.size + 2 ≤ c → Ix c j k W → c ≤ W.heap.size)
    (h0 : ∀ c W, Below w.heap.size w W → w.heap.size + 2 ≤ c → W.heap.size = c → I c 0 W)
    (hbody : ∀ c k W, w.heap.size + 2 ≤ c → k < N → I c k W → OwnT T w.heap.size c W →
      assign.wpIn (Fence.wide.inRound (w.heap.size + 1)) n P (Exit.then (fun a₁ W₁ => (∀ q o, (w.heap.size ≤ q ∧ q < c) → HasO W q o → HasO W₁ q o) ∧
          ∀ W₂, Alt (w.heap.size + 1) (w.heap.size + 2) W₁ W₂ → W₂.heap.size = W₁.heap.size → (∃ r, HasO W₂ (w.heap.size + 1) (.loop r)) →
            body.wpIn (Fence.wide.inRound (w.heap.size + 1)) n P (bodyI (w.heap.size + 1) w.heap.size (I c) (fun j => Ix c j k) k (fun D q => D + 2 ≤ q ∧ q < c) W₂) a₁ W₂) (fun _ _ _ => False))
        { tmps := (ps.zip (encs k)).foldl (fun t (p, v) => t.setIfInBounds p v) a.tmps, defers := [] } W)
    (hdone : ∀ c W, w.heap.size + 2 ≤ c → I c N W → HasO W w.heap.size (.deferred (some [])) → Q .normal { a with defers := { target := .collected w.heap.size, args := #[] } :: a.defers } W)
    (hstop : ∀ c j k W, w.heap.size + 2 ≤ c → k < N → Ix c j k W → HasO W w.heap.size (.deferred (some [])) → j.wpIn Fence.wide n P Q { a with defers := { target := .collected w.heap.size, args := #[] } :: a.defers } W)
    (hpanic : ∀ c k ch W, w.heap.size + 2 ≤ c → Pn k ch → I c k W → HasO W w.heap.size (.deferred (some [])) → Q (.panic ch) { a with defers := { target := .collected w.heap.size, args := #[] } :: a.defers } W) :
    (Code.rangeFunc g ps assign body).wpIn Fence.wide n P Q a w := by
  refine wpIn_rangeFunc ?_
  intro fn hfn
  obtain ⟨rec, hrec⟩ : ∃ rec : LoopState → Option Code → Loop, rec = fun st pe => { state := st, pending := pe, fn, tmps := a.tmps, params := ps, assign, body, defers := w.heap.size } := ⟨_, rfl⟩
  obtain ⟨W1, hW1⟩ : ∃ W1, (w.alloc (.deferred (some []))).alloc (.loop (rec .ready none)) = W1 := ⟨_, rfl⟩
  have hL1 : HasO W1 (w.heap.size + 1) (.loop (rec .ready none)) := by rw [← hW1]; exact HasO.new' _ _ (by simp)
  have hK1 : HasO W1 w.heap.size (.deferred (some [])) := by rw [← hW1]; exact (HasO.new _ _).alloc _
  have hb1 : Below w.heap.size w W1 := by rw [← hW1]; exact (below_box _ _).alloc (by simp) _
  have hz1 : W1.heap.size = w.heap.size + 2 := by rw [← hW1]; simp
  refine ⟨w.heap.size + 1, [{ target := .collected w.heap.size, args := #[] }], W1, { target := .fn (.func gf) lb, args := #[.func (.yield (w.heap.size + 1)) #[] #[]] }, W1, gf,
    #[.func (.yield (w.heap.size + 1)) #[] #[]] ++ lb, W1, ?_, ?_, ?_, ?_, fun h => by simp [Fence.wide] at h, ?_⟩
  · rw [← hW1, hrec]; exact run_enterLoop_outer _ _ _ _ _
  · simp only [resolve, hg]
    simp [go_sem]
  · intro f' _; trivial
  · simp [invoke, go_sem, eg]
  · refine (callsIn_wide.2 (callsIn_wide.1 (hseq n (w.heap.size + 1)
      (fun c k W => I c k W ∧ w.heap.size + 2 ≤ c ∧ HasO W (w.heap.size + 1) (.loop (rec .ready none)) ∧ HasO W w.heap.size (.deferred (some [])))
      (fun c k W => ∃ j, Ix c j k W ∧ w.heap.size + 2 ≤ c ∧ HasO W (w.heap.size + 1) (.loop (rec .done (some j))) ∧ HasO W w.heap.size (.deferred (some [])))
      W1 ?_ ?_ ?_ ?_ ?_ ?_ ?_))).mono ?_
    · rintro c k W W' hc ⟨hi, h2, hl, hd⟩ ha
      rw [hz1] at ha
      exact ⟨hst c k W W' h2 hi (ha.mono (by omega) (Nat.le_refl _)), h2, ha.hasO hl (by omega), ha.hasO hd (by omega)⟩
    · rintro c k W W' hc ⟨j, hi, h2, hl, hd⟩ ha
      rw [hz1] at ha
      exact ⟨j, hstx c j k W W' h2 hi (ha.mono (by omega) (Nat.le_refl _)), h2, ha.hasO hl (by omega), ha.hasO hd (by omega)⟩
    · rintro c k W ⟨hi, h2, _⟩; exact hRd c k W h2 hi
    · rintro c k W ⟨hi, h2, _⟩; exact hsz c k W h2 hi
    · rintro c k W ⟨j, hi, h2, _⟩; exact hszx c j k W h2 hi
    · intro c W hb hc hs
      rw [hz1] at hc
      exact ⟨h0 c W (hb1.trans (hb.mono (by omega))) hc hs, hc, hL1.call hb, hK1.call hb⟩
    · rintro c k W hc hk ⟨hi, h2, hl, hd⟩ hT
      have hy := run_yield (P := P) (args := encs k) hl (by rw [hrec]; exact hps k hk)
      rw [hrec] at hy
      have hT2 : OwnT T w.heap.size c W := by
        intro q hq1 hq2
        rcases (by omega : q = w.heap.size ∨ q = w.heap.size + 1 ∨ w.heap.size + 2 ≤ q) with rfl | rfl | h3
        · exact ⟨_, hd, by simp⟩
        · exact ⟨_, hl, by simp⟩
        · exact hT q (by omega) hq2
      refine ⟨fn, _, assign, body, hy, roundIn_of_wpIn hfn (wpIn_mono (hbody c k W h2 hk hi hT2) ?_)⟩
      intro e a₁ W₁ he
      cases e with
      | normal =>
        obtain ⟨hkeep, hgo⟩ := he
        have hl1 := hkeep _ _ (by omega) hl
        have hd1 := hkeep _ _ (by omega) hd
        refine ⟨_, run_beginRound (P := P) hl1 (by rw [hrec]), ?_⟩
        have hl2 : HasO (W₁.putObj (w.heap.size + 1) (.loop { rec .ready none with state := .busy })) (w.heap.size + 1) (.loop { rec .ready none with state := .busy }) := World.putObj_heap_same hl1.lt
        have hd2 : HasO (W₁.putObj (w.heap.size + 1) (.loop { rec .ready none with state := .busy })) w.heap.size (.deferred (some [])) := (World.putObj_heap_other (by omega)).trans hd1
        refine wpIn_mono (hgo _ (Alt.putObj ⟨Nat.le_refl _, by omega⟩) (by simp) ⟨_, hl2⟩) ?_
        have fin : ∀ (jump : Option Code) (W3 : World), (∀ q o, (q = w.heap.size + 1 ∨ q = w.heap.size) → HasO (W₁.putObj (w.heap.size + 1) (.loop { rec .ready none with state := .busy })) q o → HasO W3 q o) →
            (Instr.endRound (w.heap.size + 1) jump).run P W3 = .ok (.bool jump.isNone) (W3.putObj (w.heap.size + 1) (.loop (rec (if jump.isNone then .ready else .done) jump))) ∧
            HasO (W3.putObj (w.heap.size + 1) (.loop (rec (if jump.isNone then .ready else .done) jump))) (w.heap.size + 1) (.loop (rec (if jump.isNone then .ready else .done) jump)) ∧
            HasO (W3.putObj (w.heap.size + 1) (.loop (rec (if jump.isNone then .ready else .done) jump))) w.heap.size (.deferred (some [])) := fun jump W3 hk3 => by
          have hl3 := hk3 _ _ (.inl rfl) hl2
          have hd3 := hk3 _ _ (.inr rfl) hd2
          have := run_endRound (P := P) jump hl3
          rw [hrec] at this ⊢
          exact ⟨this, World.putObj_heap_same hl3.lt, (World.putObj_heap_other (by omega)).trans hd3⟩
        rintro e a3 W3 hp
        cases e with
        | normal =>
          obtain ⟨hk3, hi3⟩ := hp
          obtain ⟨hr, hl4, hd4⟩ := fin none W3 (fun q o hq => hk3 q o (by rcases hq with h | h <;> simp [h]))
          refine ⟨_, _, hr, .inl ⟨rfl, ⟨hst c _ _ _ h2 hi3 (Alt.putObj (by omega)), h2, hl4, hd4⟩, fun q o hq1 hq2 hq => ?_⟩⟩
          rw [hz1] at hq1
          refine (World.putObj_heap_other (by omega)).trans (hk3 q o (.inr (.inr ⟨hq1, hq2⟩)) ?_)
          exact (World.putObj_heap_other (by omega)).trans (hkeep q o ⟨by omega, hq2⟩ hq)
        | ret =>
          obtain ⟨hk3, hi3⟩ := hp
          obtain ⟨hr, hl4, hd4⟩ := fin (some .ret) W3 hk3
          exact ⟨_, _, hr, .inr ⟨rfl, .ret, hstx c _ _ _ _ h2 hi3 (Alt.putObj (by omega)), h2, hl4, hd4⟩⟩
        | exit id =>
          obtain ⟨hk3, hi3⟩ := hp
          obtain ⟨hr, hl4, hd4⟩ := fin (some (.exit id)) W3 hk3
          exact ⟨_, _, hr, .inr ⟨rfl, .exit id, hstx c _ _ _ _ h2 hi3 (Alt.putObj (by omega)), h2, hl4, hd4⟩⟩
        | goto t =>
          obtain ⟨hk3, hi3⟩ := hp
          obtain ⟨hr, hl4, hd4⟩ := fin (some (.goto t)) W3 hk3
          exact ⟨_, _, hr, .inr ⟨rfl, .goto t, hstx c _ _ _ _ h2 hi3 (Alt.putObj (by omega)), h2, hl4, hd4⟩⟩
        | panic ch => exact hp.elim
        | outgrown => exact hp.elim
      | ret => exact he.elim
      | exit id => exact he.elim
      | goto t => exact he.elim
      | panic ch => exact he.elim
      | outgrown => exact he.elim
    · rintro e W2 ⟨c, hc, (⟨⟨v, rfl⟩, (⟨hi, h2, hl, hd⟩ | ⟨k, hk, j, hi, h2, hl, hd⟩)⟩ | ⟨ch, k, rfl, hp, hi, h2, hl, hd⟩)⟩
      · exact ⟨none, _, by have := run_endLoop (P := P) hl (by rw [hrec]; simp); rw [hrec] at this; exact this, hdone c _ h2 (hst c _ _ _ h2 hi (Alt.putObj (by omega))) ((World.putObj_heap_other (by omega)).trans hd)⟩
      · exact ⟨some j, _, by have := run_endLoop (P := P) hl (by rw [hrec]; simp); rw [hrec] at this; exact this, hstop c j k _ h2 hk (hstx c _ _ _ _ h2 hi (Alt.putObj (by omega))) ((World.putObj_heap_other (by omega)).trans hd)⟩
      · exact hpanic c k ch _ h2 hp hi hd
end Go.Proofs.Ytddkhnnpeonbgaa
