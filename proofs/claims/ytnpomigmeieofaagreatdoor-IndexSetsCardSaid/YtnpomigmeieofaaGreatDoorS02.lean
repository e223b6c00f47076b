import Derived.WalkKit
import Derived.Below
import Derived.Deep.Draws
import Derived.Laws.OwnMore
import Derived.Laws.RangeString
import Derived.Laws.Rows
import Derived.RegionTactic
import Derived.Lib.Hide
import Derived.RangeFuncNested
import Derived.RangeFuncBox
import Derived.Test.YtnpomigmeieofaaGreatDoorProg
import Derived.Deep.QuietTactic
import Derived.BigQuiet
import Derived.WalkLawsBesides
import Derived.WalkSpells
import Derived.Outline
import Derived.LoopTactic
import Derived.Deep.LoopGhost
namespace Go.Proofs.YtnpomigmeieofaaGreatDoor
open Go.RowKit

def sideB (n : Int) : Bool := decide (3 ≤ n) && decide (n ≤ 8)
def sizeB (f r : Int) : Bool := sideB f && sideB r

structure Men where
 (f r w0 w1 w2 w3 w4 b0 b1 b2 b3 b4 : Int)
deriving DecidableEq
abbrev Men.cs (m : Men) : List Value := [.int .i64 m.f, .int .i64 m.r, .int .i64 m.w0, .int .i64 m.w1, .int .i64 m.w2, .int .i64 m.w3, .int .i64 m.w4, .int .i64 m.b0, .int .i64 m.b1, .int .i64 m.b2, .int .i64 m.b3, .int .i64 m.b4]

def Men.sw (m : Men) (k : Nat) : Int := match k with | 0 => m.w0 | 1 => m.w1 | 2 => m.w2 | 3 => m.w3 | _ => m.w4
def Men.sb (m : Men) (k : Nat) : Int := match k with | 0 => m.b0 | 1 => m.b1 | 2 => m.b2 | 3 => m.b3 | _ => m.b4
def Men.upto (m : Men) : Nat → Int | 0 => 0 | k + 1 => m.upto k + (m.sw k + m.sb k)

theorem five {k : Nat} (h : k < 5) : k = 0 ∨ k = 1 ∨ k = 2 ∨ k = 3 ∨ k = 4 := by omega
theorem ten {k : Nat} (h : k < 10) : k = 0 ∨ k = 1 ∨ k = 2 ∨ k = 3 ∨ k = 4 ∨ k = 5 ∨ k = 6 ∨ k = 7 ∨ k = 8 ∨ k = 9 := by omega
theorem Men.cs_w (m : Men) {k : Nat} (h : k < 5) : m.cs[2 + k]? = some (.int .i64 (m.sw k)) := by rcases five h with rfl | rfl | rfl | rfl | rfl <;> rfl
theorem Men.cs_b (m : Men) {k : Nat} (h : k < 5) : m.cs[7 + k]? = some (.int .i64 (m.sb k)) := by rcases five h with rfl | rfl | rfl | rfl | rfl <;> rfl

def Men.okAt (m : Men) (k : Nat) : Bool := decide (0 ≤ m.sw k) && decide (m.sw k ≤ 4) && decide (0 ≤ m.sb k) && decide (m.sb k ≤ 4)
def menOk (m : Men) : Bool := m.okAt 0 && m.okAt 1 && m.okAt 2 && m.okAt 3 && m.okAt 4
theorem menOk_iff (m : Men) : menOk m = true ↔ ∀ k, k < 5 → m.okAt k = true := by
 constructor
 ·intro h k hk
  simp only [menOk, Bool.and_eq_true] at h
  rcases five hk with rfl | rfl | rfl | rfl | rfl <;> simp [h]
 ·intro h
  simp [menOk, h]
theorem menOk_false (m : Men) {k : Nat} (hk : k < 5) (h : m.okAt k = false) : menOk m = false := by
 rcases hm : menOk m with _ | _
 ·rfl
 ·rw [(menOk_iff m).1 hm k hk] at h; cases h
theorem okAt_bounds {m : Men} {k : Nat} (h : m.okAt k = true) : 0 ≤ m.sw k ∧ m.sw k ≤ 4 ∧ 0 ≤ m.sb k ∧ m.sb k ≤ 4 := by
 simpa [Men.okAt, and_assoc] using h
theorem menOk_at {m : Men} (h : menOk m = true) {k : Nat} (hk : k < 5) : 0 ≤ m.sw k ∧ m.sw k ≤ 4 ∧ 0 ≤ m.sb k ∧ m.sb k ≤ 4 := okAt_bounds ((menOk_iff m).1 h k hk)
theorem upto_bd {m : Men} (h : menOk m = true) {k : Nat} (hk : k ≤ 5) : 0 ≤ m.upto k ∧ m.upto k ≤ 8 * k := by
 induction k with
 | zero => simp [Men.upto]
 | succ k ih =>
  have := ih (by omega)
  have := menOk_at h (k := k) (by omega)
  simp only [Men.upto]; omega

def pawnB (m : Men) : Bool := decide (m.w0 = 0) || decide (m.b0 = 0) || decide (m.r < 6)
def validB (m : Men) : Bool := menOk m && sizeB m.f m.r && decide (m.upto 5 ≤ 4) && pawnB m

def PN : ByteArray := { data := #[80, 78, 66, 82, 81] }

def ch (n k : Nat) : Nat := match k with | 0 => 1 | 1 => n | 2 => n * (n - 1) / 2 | 3 => n * (n - 1) * (n - 2) / 6 | 4 => n * (n - 1) * (n - 2) * (n - 3) / 24 | _ => 0
theorem ch_succ {n k : Nat} (hn : n < 64) (hk : k < 4) : ch (n + 1) (k + 1) = ch n k + ch n (k + 1) := by
 have h : ∀ n, n < 64 → ∀ k, k < 4 → ch (n + 1) (k + 1) = ch n k + ch n (k + 1) := by decide +kernel
 exact h n hn k hk
theorem ch_le {n k : Nat} (hn : n ≤ 64) (hk : k ≤ 4) : ch n k ≤ 635376 := by
 have h : ∀ n, n < 65 → ∀ k, k < 5 → ch n k ≤ 635376 := by decide +kernel
 exact h n (by omega) k (by omega)
def chT (j : Nat) : Int := ch (j / 5) (j % 5)
theorem chT_at (n k : Nat) (hk : k < 5) : chT (n * 5 + k) = ch n k := by
 unfold chT; rw [show (n * 5 + k) / 5 = n by omega, show (n * 5 + k) % 5 = k by omega]

def Men.grp (m : Men) (j : Nat) : Int := if j < 5 then m.sw j else m.sb (j - 5)
def grpPiece (j : Nat) : Int := if j < 5 then (j : Int) + 1 else -((j : Int) - 5 + 1)
def grpCells (m : Men) : Nat → List Value | 0 => [] | j + 1 => grpCells m j ++ [.int .i8 (grpPiece j), .int .i64 (m.grp j)]
theorem grpCells_len (m : Men) (j : Nat) : (grpCells m j).length = j * 2 := by
 induction j with
 | zero => rfl
 | succ j ih => simp [grpCells, ih]; omega
theorem grpCells_get (m : Men) {i j : Nat} (h : i < j) : (grpCells m j)[2 * i]? = some (.int .i8 (grpPiece i)) ∧ (grpCells m j)[2 * i + 1]? = some (.int .i64 (m.grp i)) := by
 induction j with
 | zero => omega
 | succ j ih =>
  have hl := grpCells_len m j
  simp only [grpCells]
  by_cases h2 : i < j
  ·rw [List.getElem?_append_left (by omega), List.getElem?_append_left (by omega)]
   exact ih h2
  ·obtain rfl : i = j := by omega
   rw [List.getElem?_append_right (by omega), List.getElem?_append_right (by omega), hl]
   exact ⟨by rw [show 2 * i - i * 2 = 0 by omega]; rfl, by rw [show 2 * i + 1 - i * 2 = 1 by omega]; rfl⟩

theorem grp_bd {m : Men} (h : menOk m = true) {j : Nat} (hj : j < 10) : 0 ≤ m.grp j ∧ m.grp j ≤ 4 := by
 unfold Men.grp
 by_cases h5 : j < 5
 ·rw [if_pos h5]; have := menOk_at h h5; omega
 ·rw [if_neg h5]; have := menOk_at h (k := j - 5) (by omega); omega
def Men.sq (m : Men) : Nat := (m.f * m.r).toNat
def Men.prod (m : Men) : Nat → Nat | 0 => 2 * m.sq * m.sq | k + 1 => m.prod k * ch m.sq (m.grp k).toNat
def countN (m : Men) : Nat := m.prod 10

theorem sideB_bd {n : Int} (h : sideB n = true) : 3 ≤ n ∧ n ≤ 8 := by simpa [sideB] using h
theorem validB_ok {m : Men} (h : validB m = true) : menOk m = true := by simp only [validB, Bool.and_eq_true] at h; exact h.1.1.1
theorem validB_size {m : Men} (h : validB m = true) : 3 ≤ m.f ∧ m.f ≤ 8 ∧ 3 ≤ m.r ∧ m.r ≤ 8 := by
 simp only [validB, sizeB, Bool.and_eq_true] at h
 have h1 := sideB_bd h.1.1.2.1
 have h2 := sideB_bd h.1.1.2.2
 omega
theorem validB_sum {m : Men} (h : validB m = true) : m.upto 5 ≤ 4 := by
 simp only [validB, Bool.and_eq_true, decide_eq_true_eq] at h
 exact h.1.2
theorem mul_small {a b : Int} (h1 : 3 ≤ a) (h2 : a ≤ 8) (h3 : 3 ≤ b) (h4 : b ≤ 8) : 9 ≤ a * b ∧ a * b ≤ 64 := by
 have := Int.mul_le_mul h1 h3 (by omega) (by omega)
 have := Int.mul_le_mul h2 h4 (by omega) (by omega)
 omega
theorem validB_sq {m : Men} (h : validB m = true) : m.f * m.r = (m.sq : Int) ∧ 9 ≤ m.sq ∧ m.sq ≤ 64 := by
 have h1 := validB_size h
 have h2 := mul_small h1.1 h1.2.1 h1.2.2.1 h1.2.2.2
 unfold Men.sq
 omega
def Men.gsum (m : Men) : Nat → Nat | 0 => 0 | k + 1 => m.gsum k + (m.grp k).toNat
theorem gsum_le {m : Men} (h : validB m = true) {k : Nat} (hk : k ≤ 10) : m.gsum k ≤ 4 := by
 have hs := validB_sum h
 have ho := validB_ok h
 have hg := fun j (hj : j < 10) => grp_bd ho hj
 have hm : ∀ a b, a ≤ b → m.gsum a ≤ m.gsum b := by
  intro a b hab
  induction b with
  | zero => simp [show a = 0 by omega]
  | succ b ih =>
   by_cases e : a = b + 1
   ·subst e; omega
   ·have := ih (by omega); simp only [Men.gsum]; omega
 have h10 : (m.gsum 10 : Int) = m.upto 5 := by
  have g : ∀ j, j < 10 → ((m.grp j).toNat : Int) = m.grp j := fun j hj => Int.toNat_of_nonneg (hg j hj).1
  have e0 := g 0 (by omega); have e1 := g 1 (by omega); have e2 := g 2 (by omega); have e3 := g 3 (by omega); have e4 := g 4 (by omega)
  have e5 := g 5 (by omega); have e6 := g 6 (by omega); have e7 := g 7 (by omega); have e8 := g 8 (by omega); have e9 := g 9 (by omega)
  simp only [Men.gsum, Men.upto, Int.natCast_add]
  simp only [e0, e1, e2, e3, e4, e5, e6, e7, e8, e9]
  simp [Men.grp]
  omega
 have := hm k 10 hk
 omega
theorem ch_pow {n k : Nat} (hn : n ≤ 64) (hk : k ≤ 4) : ch n k ≤ 64 ^ k := by
 have h : ∀ n, n < 65 → ∀ k, k < 5 → ch n k ≤ 64 ^ k := by decide +kernel
 exact h n (by omega) k (by omega)
theorem prod_le {m : Men} (h : validB m = true) {k : Nat} (hk : k ≤ 10) : m.prod k ≤ 8192 * 64 ^ m.gsum k := by
 have hs := validB_sq h
 induction k with
 | zero =>
  simp only [Men.prod, Men.gsum]
  have := Nat.mul_le_mul (Nat.mul_le_mul_left 2 hs.2.2) hs.2.2
  omega
 | succ k ih =>
  have := grp_bd (validB_ok h) (j := k) (by omega)
  have := ch_pow hs.2.2 (k := (m.grp k).toNat) (by omega)
  simp only [Men.prod, Men.gsum, Nat.pow_add]
  calc m.prod k * ch m.sq (m.grp k).toNat ≤ (8192 * 64 ^ m.gsum k) * 64 ^ (m.grp k).toNat := Nat.mul_le_mul (ih (by omega)) this
   _ = _ := by rw [Nat.mul_assoc]
theorem prod_bd {m : Men} (h : validB m = true) {k : Nat} (hk : k ≤ 10) : m.prod k ≤ 137438953472 := by
 have h1 := prod_le h hk
 have h2 : 64 ^ m.gsum k ≤ 64 ^ 4 := Nat.pow_le_pow_right (by omega) (gsum_le h hk)
 omega

def cntE (m : Men) : Int × Int := if validB m = true then (if countN m ≤ 1048576 then ((countN m : Int), 0) else (0, 7)) else (0, 2)

def pnL : List UInt8 := [80, 78, 66, 82, 81]
def str (l : List UInt8) : ByteArray := ⟨l.toArray⟩
def sideN (g : Nat → Int) : Nat → List UInt8 | 0 => [75] | j + 1 => sideN g j ++ List.replicate (g (4 - j)).toNat (pnL[4 - j]?.getD 0)
def sideL (g : Nat → Int) : List UInt8 := sideN g 5
def textL (m : Men) : List UInt8 := [UInt8.ofNat (48 + m.f.toNat), 120, UInt8.ofNat (48 + m.r.toNat), 32] ++ (sideL m.sw ++ sideL m.sb)
theorem str_append (a b : List UInt8) : str a ++ str b = str (a ++ b) := by
 simp [str, ByteArray.ext_iff]
theorem str_size (l : List UInt8) : (str l).size = l.length := by simp [str, ByteArray.size]
theorem pn_cut {i : Nat} (h : i < 5) : ({ data := #[80, 78, 66, 82, 81] } : ByteArray).extract i (i + 1) = str [pnL[i]?.getD 0] := by
 rcases five h with rfl | rfl | rfl | rfl | rfl <;> decide
theorem sideN_step (a : List UInt8) (k : Nat) {i : Nat} (h : i < 5) : str (a ++ List.replicate k (pnL[i]?.getD 0)) ++ ({ data := #[80, 78, 66, 82, 81] } : ByteArray).extract i (i + 1) = str (a ++ List.replicate (k + 1) (pnL[i]?.getD 0)) := by
 rw [pn_cut h, str_append, List.append_assoc, List.replicate_succ']
theorem sideN_len {g : Nat → Int} (hg : ∀ j, j < 5 → 0 ≤ g j ∧ g j ≤ 4) {j : Nat} (hj : j ≤ 5) : (sideN g j).length ≤ 1 + 4 * j := by
 induction j with
 | zero => simp [sideN]
 | succ j ih =>
  have := ih (by omega)
  have := hg (4 - j) (by omega)
  simp only [sideN, List.length_append, List.length_replicate]; omega
theorem below_drewN {B : Nat} {w w' : World} (h : Below B w w') (n : Nat) : Below B w (w'.drewN n) := ⟨h.os, h.tape, h.output, h.size, h.block⟩
theorem below_undrew {B : Nat} {w w' : World} (h : Below B w.drew w') : Below B w w' := ⟨h.os, h.tape, h.output, h.size, h.block⟩
theorem below_box (w : World) (o : Obj) : Below w.heap.size w (w.alloc o) := (Below.refl _ _).alloc (Nat.le_refl _) _
theorem below_call {w0 w w' : World} {B : Nat} (h : Below B w0 w) (hB : B ≤ w.heap.size) (hb : Below w.heap.size w w') : Below B w0 w' := h.trans (hb.mono hB)
theorem below_iter (w : World) (o : Obj) (s : ByteArray) (k n : Nat) : Below w.heap.size w (((w.alloc o).iter s k).drewN n) :=
 below_drewN ((below_box _ _).alloc (by simp) _) _
theorem ret_bool {a b : Bool} (h : a = b) : Ending.returned (.bool a) = .returned (.bool b) := by rw [h]
theorem ret_v {a b : Value} (h : a = b) : Ending.returned a = .returned b := by rw [h]
@[simp] theorem iter_size (w : World) (s : ByteArray) (k : Nat) : (w.iter s k).heap.size = w.heap.size + 1 := by simp [World.iter]

def HasO (w : World) (q : Nat) (o : Obj) : Prop := w.heap[q]? = some o
section
variable {w w' : World} {q B : Nat} {o : Obj}
theorem HasO.lt (h : HasO w q o) : q < w.heap.size := (Array.getElem?_eq_some_iff.1 h).1
theorem HasO.new (w : World) (o : Obj) : HasO (w.alloc o) w.heap.size o := World.alloc_heap_new w o
theorem HasO.new' (w : World) (o : Obj) {q : Nat} (hq : q = w.heap.size) : HasO (w.alloc o) q o := by subst hq; exact HasO.new w o
theorem HasO.drewN (h : HasO w q o) (n : Nat) : HasO (w.drewN n) q o := h
theorem HasO.drew (h : HasO w q o) : HasO w.drew q o := h
theorem HasO.alloc (h : HasO w q o) (o' : Obj) : HasO (w.alloc o') q o := (Below.heap_alloc w o' q h.lt).trans h
theorem HasO.far (h : HasO w q o) {p : Addr} (hp : q ≠ p.block) (u : Value) : HasO (w.setCell p u) q o := (Below.heap_setCell w p u q hp).trans h
theorem HasO.below (h : HasO w q o) (hb : Below B w w') (hq : q < B) : HasO w' q o := (hb.block q hq).trans h
theorem HasO.call (h : HasO w q o) (hb : Below w.heap.size w w') : HasO w' q o := h.below hb h.lt
theorem HasO.grown (h : HasO w q o) {row : Option Nat} (hg : w.grownBy w' row) (hr : row ≠ some q) : HasO w' q o := (hg.block q h.lt (fun e => hr e.symm)).trans h
theorem HasO.iter (h : HasO w q o) (s : ByteArray) (k : Nat) : HasO (w.iter s k) q o := h.alloc _
theorem HasO.cells {cs : Array Value} {t : TypeId} (h : HasO w q (.cells cs t (0, 0))) (j : Nat) : w.cell? ⟨q, j, none⟩ = cs[j]? := cell_of_row w q j cs t (0, 0) h
theorem HasO.frozen {cs : Array Value} {t : TypeId} (h : HasO w q (.cells cs t (0, 0))) (j : Nat) : w.frozen? ⟨q, j, none⟩ = false := by
 unfold HasO at h; simp [World.frozen?, h]
theorem HasO.set_ {cs : Array Value} {t : TypeId} (h : HasO w q (.cells cs t (0, 0))) (i : Nat) (u : Value) : HasO (w.setCell ⟨q, i, none⟩ u) q (.cells (cs.setIfInBounds i u) t (0, 0)) := by
 unfold HasO at h ⊢
 simp [World.setCell, Array.getElem?_modify, h]
theorem HasO.ne_ {q' : Nat} {o' : Obj} (h : HasO w q o) (h' : HasO w q' o') (hne : o ≠ o') : q ≠ q' := by
 rintro rfl
 exact hne (Option.some.inj (h.symm.trans h'))
theorem own_ne {base : Nat} {e : TypeId} {size n : Nat} {v : Value} {xs : List Value} (h : w.ownsRow base e size v n xs) (hq : HasO w q o) (ho : ∀ c, o ≠ .cells c e (0, 0)) : v.ownBlock ≠ some q := by
 rcases h.2 with ⟨rfl, _⟩ | ⟨g, cap, cur, rfl, _, hh, _⟩
 ·simp [Value.ownBlock]
 ·intro he
  have : g = q := by simpa [Value.ownBlock] using he
  subst this
  exact ho cur (Option.some.inj (hq.symm.trans hh))
theorem own_mono {base base' : Nat} {e : TypeId} {size n : Nat} {v : Value} {xs : List Value} (h : w.ownsRow base e size v n xs) (hb : base' ≤ base) : w.ownsRow base' e size v n xs := by
 refine ⟨h.1, ?_⟩
 rcases h.2 with h2 | ⟨g, cap, cur, hv, hg, r⟩
 ·exact .inl h2
 ·exact .inr ⟨g, cap, cur, hv, Nat.le_trans hb hg, r⟩
theorem own_call {base : Nat} {e : TypeId} {size n : Nat} {v : Value} {xs : List Value} (h : w.ownsRow base e size v n xs) (hb : Below w.heap.size w w') : w'.ownsRow base e size v n xs :=
 h.kept (row := none) ⟨hb.os, hb.tape, hb.output, hb.size, fun k hk _ => hb.block k hk⟩ (by rcases v.ownBlock with _ | x <;> simp)
end

theorem next_at {P : Program} {w : World} {q : Nat} {s : ByteArray} {pos : Nat} (hq : HasO w q (.stringIter s pos)) (h : pos < s.size) (ha : (s[pos]'h).toNat < 128) (ty : TypeId) :
  ∃ w', (Instr.next (.pointer (some ⟨q, 0, none⟩)) true ty).run P w = .ok (.tuple #[.bool true, .int .i64 pos, .int .i32 (s[pos]'h).toNat]) w' ∧
   HasO w' q (.stringIter s (pos + 1)) ∧ w.grownBy w' (some q) ∧ w'.heap.size = w.heap.size := by
 have hlt := hq.lt
 refine ⟨{ w with heap := w.heap.setIfInBounds q (.stringIter s (pos + 1)) }, ?_, ?_, ⟨rfl, rfl, rfl, by simp, fun k hk hne => ?_⟩, by simp⟩
 ·unfold HasO at hq
  simp only [Instr.next, getObj, setObj, Sem.run_bind, Sem.run, hq, Result.andThen, h, if_true, decode_ascii s pos h ha]
  simp [goInt]
 ·simp [HasO, hlt]
 ·have : q ≠ k := fun e => hne (by rw [e])
  simp [this]
theorem next_at_end {P : Program} {w : World} {q : Nat} {s : ByteArray} {pos : Nat} (hq : HasO w q (.stringIter s pos)) (h : ¬ pos < s.size) (ty : TypeId) :
  (Instr.next (.pointer (some ⟨q, 0, none⟩)) true ty).run P w = .ok (.tuple #[.bool false]) w := by
 unfold HasO at hq
 simp [Instr.next, getObj, Sem.run, hq, h]

theorem wpList_push {P : Program} {W : World} {ops : Array Oper} {rest : List Oper} {o : Oper} {a : Act} {Q : Exit → Act → World → Prop} (hgd : o.guard = none) (s x : Operand) (t : TypeId)
  (ho : o.op = .call { callee := .builtin .append, args := #[s, x], argTypes := #[t, t] })
  (base : Nat) (e : TypeId) (i : TypeInfo) (z : Value) (size bytes : Nat) (ht : P.underlying t = some (.slice e)) (hi : P.info? e = some i) (hz : i.zero = some z)
  (hsize : i.size = size) (hby : i.bytes = bytes) (hzs : z.cells.size = size) (hsz : 0 < size)
  (v : Value) (n : Nat) (xs : List Value) (hs : a.eval s = v) (hown : W.ownsRow base e size v n xs)
  (news : List Value) (hl : news.length = size) (h1 : ∀ u ∈ news, u.oneCell' = true) (q : Nat) (hq : q = W.heap.size) (hx : a.eval x = .slice (some ⟨q, 0, none⟩) 1 1)
  (hbytes : (n + 1) * (bytes + 1) ≤ 140737488355328) (hbase : base ≤ W.heap.size)
  (h : ∀ v' w', w'.ownsRow base e size v' (n + 1) (xs ++ news) → W.grownBy w' v.ownBlock → v' ≠ .slice none 0 0 → wpList P ops Q rest (a.put o.dst v') w') :
  wpList P ops Q (o :: rest) a (W.alloc (.cells news.toArray e)) := by
 subst hq
 have hb1 : (n + 1) * bytes ≤ 140737488355328 := Nat.le_trans (Nat.mul_le_mul_left _ (by omega)) hbytes
 have hb2 : n + 1 ≤ maxLen := by
  have : (n + 1) * 1 ≤ (n + 1) * (bytes + 1) := Nat.mul_le_mul_left _ (by omega)
  unfold maxLen; omega
 refine wpList_append_own _ hgd s x t ho base e i z size bytes ht hi hz hsize hby hzs hsz v n xs hs (hown.alloc _) ⟨W.heap.size, 0, none⟩ 1 1 news hx (by omega) ?_ h1 hb2 hb1 (by simp; omega) ?_
 ·intro j u hu
  rw [Addr.add_lit]
  have := (HasO.new W (.cells news.toArray e)).cells j
  rw [Nat.zero_add, this]
  simpa using hu
 ·intro v' w' ho' hg hnil
  refine h v' w' ho' ⟨hg.os, hg.tape, hg.output, Nat.le_trans (by simp) hg.size, fun k hk hne => ?_⟩ (fun e => by have := hnil.1 e; omega)
  exact (hg.block k (by simp; omega) hne).trans (Below.heap_alloc _ _ _ hk)
theorem side_any (n : Int) (w : World) : Calls Tryz.prog 90 #[.int .i64 n] w fun e w' => e = .returned (.bool (sideB n)) ∧ w = w' := by
 go_enter Tryz.func90, Tryz.ntmps90
 go_wp2
 all_goals (go_ret; refine ⟨?_, rfl⟩; simp [sideB, *])
 omega
theorem side_t (n : Int) (w : World) (h : sideB n = true) : Calls Tryz.prog 90 #[.int .i64 n] w fun e w' => e = .returned (.bool true) ∧ w = w' := 
 (side_any n w).mono fun e w' ⟨h1, h2⟩ => ⟨by rw [h1, h], h2⟩
theorem side_f (n : Int) (w : World) (h : sideB n = false) : Calls Tryz.prog 90 #[.int .i64 n] w fun e w' => e = .returned (.bool false) ∧ w = w' := 
 (side_any n w).mono fun e w' ⟨h1, h2⟩ => ⟨by rw [h1, h], h2⟩

theorem validSize_any (f r : Int) (w : World) : Calls Tryz.prog 37 #[.agg #[.int .i64 f, .int .i64 r]] w fun e w' => e = .returned (.bool (sizeB f r)) ∧ Below w.heap.size w w' := by
 go_enter Tryz.func37, Tryz.ntmps37
 rcases h : sideB f with _ | _
 ·go_wp2_with fail
  refine (side_f _ _ h).mono ?_
  rintro e w' ⟨rfl, rfl⟩
  go_wp2_with fail
  go_ret
  exact ⟨by simp [sizeB, h], below_box _ _⟩
 ·go_wp2_with fail
  refine (side_t _ _ h).mono ?_
  rintro e w' ⟨rfl, rfl⟩
  go_wp2_with fail
  refine (side_any _ _).mono ?_
  rintro e w' ⟨rfl, rfl⟩
  go_wp2_with fail
  go_ret
  exact ⟨by simp [sizeB, h], below_box _ _⟩

theorem size_any (f r : Int) (w : World) : Calls Tryz.prog 39 #[.agg #[.int .i64 f, .int .i64 r]] w fun e w' => e = .returned (.bool (sizeB f r)) ∧ Below w.heap.size w w' := by
 go_enter Tryz.func39, Tryz.ntmps39
 go_wp2
 all_goals (go_ret; refine ⟨?_, below_box _ _⟩; simp [sizeB, sideB, *] <;> omega)

theorem next_pn (w : World) (b k n : Nat) (hb : w.heap.size = b) (hk : k < 5) (ty : TypeId) :
  ∃ c, (Instr.next (.pointer (some ⟨b, 0, none⟩)) true ty).run Tryz.prog ((w.iter PN k).drewN n) =
   .ok (.tuple #[.bool true, .int .i64 k, .int .i32 c]) ((w.iter PN (k + 1)).drewN n) := by
 subst hb
 have h1 : k < PN.size := hk
 have ha : (PN[k]'h1).toNat < 128 := by
  rcases five hk with rfl | rfl | rfl | rfl | rfl <;> decide +revert
 have := run_next_ascii (P := Tryz.prog) (w.drewN n) PN k ty h1 ha
 exact ⟨_, this⟩
theorem next_pn_end (w : World) (b n : Nat) (hb : w.heap.size = b) (ty : TypeId) :
  (Instr.next (.pointer (some ⟨b, 0, none⟩)) true ty).run Tryz.prog ((w.iter PN 5).drewN n) =
   .ok (.tuple #[.bool false]) ((w.iter PN 5).drewN n) := by
 subst hb
 exact run_next_end (P := Tryz.prog) (w.drewN n) PN 5 ty (by decide)

theorem men_cell (m : Men) (w : World) (k : Nat) (j : Nat) : ((w.alloc (Obj.cells m.cs.toArray 26)).iter PN k).cell? ⟨w.heap.size, j, none⟩ = m.cs[j]? := by
 unfold World.iter
 rw [World.cell?_alloc_past _ _ _ (by simp), World.cell?_alloc_at _ _ _ _ rfl]
 simp
theorem men_cell_w (m : Men) (w : World) (k : Nat) {j : Nat} (hj : j < 5) : ((w.alloc (Obj.cells m.cs.toArray 26)).iter PN k).cell? ⟨w.heap.size, 2 + j, none⟩ = some (.int .i64 (m.sw j)) := by
 rw [men_cell, Men.cs_w _ hj]
theorem men_cell_b (m : Men) (w : World) (k : Nat) {j : Nat} (hj : j < 5) : ((w.alloc (Obj.cells m.cs.toArray 26)).iter PN k).cell? ⟨w.heap.size, 7 + j, none⟩ = some (.int .i64 (m.sb j)) := by
 rw [men_cell, Men.cs_b _ hj]
theorem men_any (m : Men) (w : World) (hm : menOk m = true) : Calls Tryz.prog 38 #[.agg m.cs.toArray] w fun e w' => e = .returned (.int .i64 (m.upto 5)) ∧ Below w.heap.size w w' := by
 replace hm := Lib.hid hm
 go_enter Tryz.func38, Tryz.ntmps38
 go_wp2_with fail
 go_loopg [3] 5 (fun g n wr => ∃ k d, g + k = 5 ∧ wr = ((w.alloc (.cells m.cs.toArray 26)).iter PN k).drewN d ∧ n = .int .i64 (m.upto k))
 case atStart => exact ⟨0, 0, rfl, rfl, rfl⟩
 case round =>
  obtain ⟨k, d, hg, rfl, rfl⟩ := hrel
  by_cases hk : k < 5
  ·obtain ⟨c, hn⟩ := next_pn (w.alloc (.cells m.cs.toArray 26)) (w.heap.size + 1) k d (by simp) hk 0
   have hw1 := men_cell_w m w (k+1) hk
   have hw2 := men_cell_b m w (k+1) hk
   have hk1 : (k : Int) < 5 := by omega
   have h1 := upto_bd hm.out (k := k) (by omega)
   have h2 := menOk_at hm.out hk
   go_wp2_with fail
   go_quiet (fail)
   go_wp2_with fail
   go_roundg (gk - 1)
   case measure => omega
   case rel => exact ⟨k+1, _, by omega, World.drewN_drewN .., rfl⟩
  ·obtain rfl : k = 5 := by omega
   have hn := next_pn_end (w.alloc (.cells m.cs.toArray 26)) (w.heap.size + 1) d (by simp) 0
   go_wp2_with fail
   go_ret
   exact ⟨rfl, below_iter _ _ _ _ _⟩

theorem validB_bad {m : Men} {k : Nat} (hk : k < 5) (h : m.okAt k = false) : validB m = false := by
 simp [validB, menOk_false m hk h]

theorem valid_any (m : Men) (w : World) : Calls Tryz.prog 9 #[.agg m.cs.toArray] w fun e w' => e = .returned (.bool (validB m)) ∧ Below w.heap.size w w' := by
 go_enter Tryz.func9, Tryz.ntmps9
 go_wp2_with fail
 go_loopg [3] 5 (fun g n wr => ∃ k d, g + k = 5 ∧ wr = ((w.alloc (.cells m.cs.toArray 26)).iter PN k).drewN d ∧ (∀ j, j < k → Hid (m.okAt j = true)))
 case atStart => exact ⟨0, 0, rfl, rfl, fun j h => by omega⟩
 case round =>
  obtain ⟨k, d, hg, rfl, hok⟩ := hrel
  replace hok := Lib.hid hok
  by_cases hk : k < 5
  ·obtain ⟨c, hn⟩ := next_pn (w.alloc (.cells m.cs.toArray 26)) (w.heap.size + 1) k d (by simp) hk 0
   have hw1 := men_cell_w m w (k+1) hk
   have hw2 := men_cell_b m w (k+1) hk
   have hk1 : (k : Int) < 5 := by omega
   rcases hb : m.okAt k with _ | _
   ·have hb2 := Lib.hid (validB_bad hk hb)
    replace hb := Lib.hid hb
    by_cases h1 : m.sw k < 0
    ·go_wp2_with fail
     go_ret
     exact ⟨ret_bool hb2.out.symm, below_iter _ _ _ _ _⟩
    by_cases h2 : 4 < m.sw k
    ·go_wp2_with fail
     go_ret
     exact ⟨ret_bool hb2.out.symm, below_iter _ _ _ _ _⟩
    by_cases h3 : m.sb k < 0
    ·go_wp2_with fail
     go_ret
     exact ⟨ret_bool hb2.out.symm, below_iter _ _ _ _ _⟩
    by_cases h4 : 4 < m.sb k
    ·go_wp2_with fail
     go_ret
     exact ⟨ret_bool hb2.out.symm, below_iter _ _ _ _ _⟩
    exfalso
    have := hb.out
    simp [Men.okAt] at this
    omega
   ·have h2 := okAt_bounds hb
    replace hb := Lib.hid hb
    go_wp2_with fail
    go_roundg (gk - 1)
    case measure => omega
    case rel => exact ⟨k+1, d, by omega, rfl, fun j hj => by
     by_cases hjk : j < k
     ·exact hok.out j hjk
     ·obtain rfl : j = k := by omega
      exact hb⟩
  ·obtain rfl : k = 5 := by omega
   have hn := next_pn_end (w.alloc (.cells m.cs.toArray 26)) (w.heap.size + 1) d (by simp) 0
   have hm : menOk m = true := (menOk_iff m).2 (fun j hj => hok.out j hj)
   replace hm := Lib.hid hm
   have c0 := men_cell m w 5
   have hbase := below_iter w (.cells m.cs.toArray 26) PN 5 d
   rcases hs : sizeB m.f m.r with _ | _
   all_goals
    go_wp2_with fail
    refine (validSize_any _ _ _).mono ?_
    rintro e w1 ⟨rfl, hb1⟩
    have hb0 : Below w.heap.size w w1 := hbase.trans (hb1.mono hbase.size)
    have hz1 : w.heap.size + 2 ≤ w1.heap.size := by have := hb1.size; simpa using this
    have hM : ∀ j, w1.cell? ⟨w.heap.size, j, none⟩ = m.cs[j]? := fun j => (hb1.cell (by simp; omega)).trans (c0 j)
    clear c0 hn hb1 hbase
   ·go_wp2_with fail
    go_ret
    exact ⟨ret_bool (by simp [validB, hs]), hb0⟩
   ·have hu := upto_bd hm.out (k := 5) (by omega)
    go_wp2_with fail
    refine (men_any m _ hm.out).mono ?_
    rintro e w2 ⟨rfl, hb2⟩
    have hb0 := hb0.trans (hb2.mono hb0.size)
    replace hM : ∀ j, w2.cell? ⟨w.heap.size, j, none⟩ = m.cs[j]? := fun j => (hb2.cell (by simp; omega)).trans (hM j)
    clear hb2
    by_cases h4 : m.upto 5 ≤ 4
    ·by_cases h5 : m.w0 = 0
     ·have h5' : (m.w0 == 0) = true := by simp [h5]
      replace h5 := Lib.hid h5
      go_wp2_with fail
      go_ret
      exact ⟨ret_bool (by simp [validB, hs, hm.out, h4, pawnB, h5.out]), hb0⟩
     ·have h5' : (m.w0 == 0) = false := by simp [h5]
      by_cases h6 : m.b0 = 0
      ·have h6' : (m.b0 == 0) = true := by simp [h6]
       replace h6 := Lib.hid h6
       go_wp2_with fail
       go_ret
       exact ⟨ret_bool (by simp [validB, hs, hm.out, h4, pawnB, h5, h6.out]), hb0⟩
      ·have h6' : (m.b0 == 0) = false := by simp [h6]
       go_wp2_with fail
       go_ret
       exact ⟨ret_bool (by simp [validB, hs, hm.out, h4, pawnB, h5, h6]), hb0⟩
    ·go_wp2_with fail
     go_ret
     exact ⟨ret_bool (by have h4' : decide (m.upto 5 ≤ 4) = false := decide_eq_false (by omega); simp [validB, h4']), hb0⟩
end Go.Proofs.YtnpomigmeieofaaGreatDoor
