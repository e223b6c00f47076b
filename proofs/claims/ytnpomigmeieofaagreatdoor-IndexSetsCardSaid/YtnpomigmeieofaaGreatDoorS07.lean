import Derived.Test.YtnpomigmeieofaaGreatDoorS03
import Derived.Test.YtnpomigmeieofaaGreatDoorS06
import Derived.Shelf.Abstract
import Derived.Shelf.RegionOpen
import Derived.Shelf.Strings.Builder1
import Derived.Shelf.Strings.Builder2
import Derived.Shelf.Small.Bits
import Derived.Shelf.Small.Strs
import Derived.Shelf.Small.Wraps
import Derived.Shelf.Strings.BuilderF
import Derived.Shelf.Strings.BuilderK
import Derived.Shelf.Utf8.RuneCount
import Derived.Shelf.Strconv.Itoa0
import Derived.Shelf.Strings.Search1
import Derived.Shelf.Strings.Search2
import Derived.Shelf.Strings.Search3
import Derived.Shelf.Strings.Cut
import Derived.Shelf.Strings.Count
import Derived.Shelf.LaysM
import Derived.Shelf.Strings.Shaped
import Derived.Shelf.Strings.Prefix
import Derived.Shelf.Strings.Split
import Derived.Shelf.Strings.RuneCount
import Derived.Shelf.Bits.Mul64
import Derived.Shelf.Strings.Repeat
import Derived.Test.YtnpomigmeieofaaGreatDoorProg
set_option maxHeartbeats 12800000
namespace Go.Proofs.YtnpomigmeieofaaGreatDoor
open Go.RowKit

def g5 (a b c d e : Int) (j : Nat) : Int := match j with | 0 => a | 1 => b | 2 => c | 3 => d | _ => e
theorem g5_sw (m : Men) : g5 m.w0 m.w1 m.w2 m.w3 m.w4 = m.sw := rfl
theorem g5_sb (m : Men) : g5 m.b0 m.b1 m.b2 m.b3 m.b4 = m.sb := rfl

theorem side5 (a b c d e : Int) (hg : Hid (∀ j, j < 5 → 0 ≤ g5 a b c d e j ∧ g5 a b c d e j ≤ 4)) (w : World) : Calls Tryz.prog 41 #[.agg #[.int .i64 a, .int .i64 b, .int .i64 c, .int .i64 d, .int .i64 e]] w fun e' w' => e' = .returned (.string (str (sideL (g5 a b c d e)))) ∧ Below w.heap.size w w' :=
 side_any2 (g5 a b c d e) hg.out w

def Men12 (w : World) (B : Nat) (m : Men) : Prop :=
 w.cell? ⟨B, 0, none⟩ = some (.int .i64 m.f) ∧ w.cell? ⟨B, 1, none⟩ = some (.int .i64 m.r) ∧
 w.cell? ⟨B, 2, none⟩ = some (.int .i64 m.w0) ∧ w.cell? ⟨B, 3, none⟩ = some (.int .i64 m.w1) ∧ w.cell? ⟨B, 4, none⟩ = some (.int .i64 m.w2) ∧ w.cell? ⟨B, 5, none⟩ = some (.int .i64 m.w3) ∧ w.cell? ⟨B, 6, none⟩ = some (.int .i64 m.w4) ∧
 w.cell? ⟨B, 7, none⟩ = some (.int .i64 m.b0) ∧ w.cell? ⟨B, 8, none⟩ = some (.int .i64 m.b1) ∧ w.cell? ⟨B, 9, none⟩ = some (.int .i64 m.b2) ∧ w.cell? ⟨B, 10, none⟩ = some (.int .i64 m.b3) ∧ w.cell? ⟨B, 11, none⟩ = some (.int .i64 m.b4)

def Loc (w0 : World) (B : Nat) (o : Obj) (W : World) : Prop := Below w0.heap.size w0 W ∧ HasO W B o
theorem Loc.call {w0 W w' : World} {B : Nat} {o : Obj} (h : Loc w0 B o W) (hb : Below W.heap.size W w') : Loc w0 B o w' := ⟨below_call h.1 h.1.size hb, h.2.call hb⟩
theorem Loc.drew {w0 W : World} {B : Nat} {o : Obj} (h : Loc w0 B o W) : Loc w0 B o W.drew := ⟨h.1.drew, h.2⟩
theorem Loc.drewN {w0 W : World} {B : Nat} {o : Obj} (h : Loc w0 B o W) (n : Nat) : Loc w0 B o (W.drewN n) := ⟨below_drewN h.1 n, h.2⟩
theorem Loc.alloc {w0 W : World} {B : Nat} {o : Obj} (h : Loc w0 B o W) (o' : Obj) : Loc w0 B o (W.alloc o') := ⟨h.1.alloc h.1.size o', h.2.alloc o'⟩
theorem Loc.new (w : World) (o : Obj) : Loc w w.heap.size o (w.alloc o) := ⟨below_box w o, HasO.new w o⟩

theorem men12_of {w : World} {B : Nat} {m : Men} (h : HasO w B (.cells m.cs.toArray 26 (0, 0))) : Men12 w B m :=
 ⟨h.cells 0, h.cells 1, h.cells 2, h.cells 3, h.cells 4, h.cells 5, h.cells 6, h.cells 7, h.cells 8, h.cells 9, h.cells 10, h.cells 11⟩

theorem load_bytes {W : World} {q : Nat} {cs : Array Value} {t : TypeId} (ns : List Int) (h : HasO W q (.cells cs t (0, 0))) (hc : cs = (ns.map (Value.int .u8)).toArray) (P : Program) : (loadCells ⟨q, 0, none⟩ ns.length).run P W = .ok (ns.map (Value.int .u8)).toArray W := by
 subst hc
 have := run_loadCells_list (P := P) (w := W) ⟨q, 0, none⟩ (ns.map (Value.int .u8)) (fun j v hv => by
  rw [Addr.add_lit, Nat.zero_add, h.cells j]; simpa using hv)
 simpa using this
theorem foldl_str (ns : List Int) : ns.foldl (fun r n => r.push (UInt8.ofNat n.toNat)) ByteArray.empty = str (ns.map fun n => UInt8.ofNat n.toNat) := by
 have h : ∀ (ns : List Int) (a : List UInt8), ns.foldl (fun r n => r.push (UInt8.ofNat n.toNat)) (str a) = str (a ++ ns.map fun n => UInt8.ofNat n.toNat) := by
  intro ns
  induction ns with
  | nil => intro a; simp
  | cons n ns ih =>
   intro a
   have e : (str a).push (UInt8.ofNat n.toNat) = str (a ++ [UInt8.ofNat n.toNat]) := by simp [str, ByteArray.push]
   simp only [List.foldl_cons, e, ih, List.map_cons, List.append_assoc, List.singleton_append]
 exact h ns []
theorem conv_bytes {W : World} {q : Nat} {cs : Array Value} {t : TypeId} (ns : List Int) (h : HasO W q (.cells cs t (0, 0))) (hc : cs = (ns.map (Value.int .u8)).toArray) (n c : Nat) (hn : n = ns.length) :
  (convert 71 9 (.slice (some ⟨q, 0, none⟩) n c)).run Tryz.prog W = .ok (.string (str (ns.map fun n => UInt8.ofNat n.toNat))) W := by
 subst hn
 rw [run_convert_bytes_string W 71 9 5 _ _ _ Tryz.underlying71 Tryz.underlying5 Tryz.underlying9, run_bytesToString W _ _ _ ns (load_bytes ns h hc _), foldl_str]

theorem u8_in {n : Int} (h0 : 0 ≤ n) (h1 : n < 256) : IntKind.u8.wrap n = n := by
 have e : ((2 : Int) ^ IntKind.u8.bits) = 256 := by decide
 have e2 : IntKind.u8.signed = false := rfl
 simp [IntKind.wrap, e, e2]
 omega
theorem conv4 {W : World} {q : Nat} {x y z t : Int} (h : HasO W q (.cells #[.int .u8 x, .int .u8 y, .int .u8 z, .int .u8 t] 5 (0, 0))) :
  (convert 71 9 (.slice (some ⟨q, 0, none⟩) 4 4)).run Tryz.prog W = .ok (.string (str [UInt8.ofNat x.toNat, UInt8.ofNat y.toNat, UInt8.ofNat z.toNat, UInt8.ofNat t.toNat])) W :=
 conv_bytes [x, y, z, t] h rfl _ _ rfl
abbrev textHd (m : Men) : List Value := [.int .u8 (48 + m.f), .int .u8 120, .int .u8 (48 + m.r), .int .u8 32]
def refTextW (m : Men) (B : Nat) : Nat → Value → World → Prop
 | 0, v, _ => v = .pointer (some ⟨B, 0, none⟩)
 | 1, v, _ => v = .pointer (some ⟨B, 0, none⟩)
 | 2, v, _ => v = .int .i64 m.f
 | 3, v, _ => v = .int .i64 (48 + m.f)
 | 4, v, _ => v = .int .u8 (48 + m.f)
 | 5, v, _ => v = .pointer (some ⟨B, 0, none⟩)
 | 6, v, _ => v = .pointer (some ⟨B, 1, none⟩)
 | 7, v, _ => v = .int .i64 m.r
 | 8, v, _ => v = .int .i64 (48 + m.r)
 | 9, v, _ => v = .int .u8 (48 + m.r)
 | 10, v, w => ∃ q, v = .slice (some ⟨q, 0, none⟩) 4 4 ∧ HasO w q (.cells (textHd m).toArray 5 (0, 0))
 | 11, v, _ => v = .string (str [UInt8.ofNat (48 + m.f).toNat, 120, UInt8.ofNat (48 + m.r).toNat, 32])
 | 12, v, _ => v = .pointer (some ⟨B, 2, none⟩)
 | 13, v, _ => v = .agg #[.int .i64 m.w0, .int .i64 m.w1, .int .i64 m.w2, .int .i64 m.w3, .int .i64 m.w4]
 | 14, v, _ => v = .string (str (sideL m.sw))
 | 15, v, _ => v = .string (str [UInt8.ofNat (48 + m.f).toNat, 120, UInt8.ofNat (48 + m.r).toNat, 32] ++ str (sideL m.sw))
 | 16, v, _ => v = .pointer (some ⟨B, 7, none⟩)
 | 17, v, _ => v = .agg #[.int .i64 m.b0, .int .i64 m.b1, .int .i64 m.b2, .int .i64 m.b3, .int .i64 m.b4]
 | 18, v, _ => v = .string (str (sideL m.sb))
 | 19, v, _ => v = .string (str [UInt8.ofNat (48 + m.f).toNat, 120, UInt8.ofNat (48 + m.r).toNat, 32] ++ str (sideL m.sw) ++ str (sideL m.sb))
 | 20, v, _ => v = .string (str [UInt8.ofNat (48 + m.f).toNat, 120, UInt8.ofNat (48 + m.r).toNat, 32] ++ str (sideL m.sw) ++ str (sideL m.sb))
 | _, _, _ => True

set_option maxRecDepth 100000 in
theorem refText_any (m : Men) (w : World) (hm : Hid (validB m = true)) : Calls Tryz.prog 11 #[.agg m.cs.toArray] w fun e w' => e = .returned (.string (str (textL m))) ∧ Below w.heap.size w w' := by
 have hg1 : Hid (∀ j, j < 5 → 0 ≤ g5 m.w0 m.w1 m.w2 m.w3 m.w4 j ∧ g5 m.w0 m.w1 m.w2 m.w3 m.w4 j ≤ 4) := fun j hj => by
  have := menOk_at (validB_ok hm.out) hj; rw [g5_sw]; omega
 have hg2 : Hid (∀ j, j < 5 → 0 ≤ g5 m.b0 m.b1 m.b2 m.b3 m.b4 j ∧ g5 m.b0 m.b1 m.b2 m.b3 m.b4 j ≤ 4) := fun j hj => by
  have := menOk_at (validB_ok hm.out) hj; rw [g5_sb]; omega
 have hs := validB_size hm.out
 have hz1 : (str (sideL m.sw)).size ≤ 21 := by
  have := sideN_len (j := 5) hg1.out (Nat.le_refl _); rw [str_size]; exact this
 have hz2 : (str (sideL m.sb)).size ≤ 21 := by
  have := sideN_len (j := 5) hg2.out (Nat.le_refl _); rw [str_size]; exact this
 have hz4 : ∀ a b c d, (str [a, b, c, d]).size = 4 := fun a b c d => by rw [str_size]; rfl
 have hall := Loc.new w (.cells m.cs.toArray 26)
 go_enter Tryz.func11, Tryz.ntmps11
 go_wp2_with fail
 generalize w.alloc (.cells m.cs.toArray 26) = wq at *
 refine wp_region_ag (by kernel_rfl) (by kernel_rfl) (fun f => { tmps := #[.agg m.cs.toArray, .pointer (some ⟨w.heap.size, 0, none⟩), f 20, f 0, f 1, f 2, f 3, f 4, f 5, f 6, f 7, f 8, f 9, f 10, f 11, f 12, f 13, f 14, f 15, f 16, f 17, f 18, f 19], defers := [] })
  (fun i => if i = 20 then .string { data := #[] } else undef) rfl ?hfr (Loc w w.heap.size (.cells m.cs.toArray 26)) (fun a b => Below a.heap.size a b) (refTextW m w.heap.size) ?hstab hall.drew ?hstep ?hend
 case hfr =>
  intro i hi f u
  have hi : i < 21 := hi
  rcases (by omega : i = 0 ∨ i = 1 ∨ i = 2 ∨ i = 3 ∨ i = 4 ∨ i = 5 ∨ i = 6 ∨ i = 7 ∨ i = 8 ∨ i = 9 ∨ i = 10 ∨ i = 11 ∨ i = 12 ∨ i = 13 ∨ i = 14 ∨ i = 15 ∨ i = 16 ∨ i = 17 ∨ i = 18 ∨ i = 19 ∨ i = 20) with rfl | rfl | rfl | rfl | rfl | rfl | rfl | rfl | rfl | rfl | rfl | rfl | rfl | rfl | rfl | rfl | rfl | rfl | rfl | rfl | rfl <;> rfl
 case hstab =>
  intro i v w1 w2 hC hle h
  by_cases e : i = 10
  ·subst e
   obtain ⟨q, h1, h2⟩ := h
   exact ⟨q, h1, h2.call hle⟩
  ·unfold refTextW at h ⊢
   split at h <;> first | exact h | (exfalso; exact e rfl) | simp_all
 case hend =>
  intro f w1 hC hW
  have h20 : f 20 = _ := hW 20 (by decide)
  rw [h20]
  go_wp2_with fail
  go_ret
  refine ⟨ret_v ?_, hC.1⟩
  show Value.string _ = _
  rw [str_append, str_append, textL, List.append_assoc, Int.toNat_add (by omega) (by omega), Int.toNat_add (by omega) (by omega)]
  rfl
 case hstep =>
  have e1 : IntKind.i64.wrap (48 + m.f) = 48 + m.f := IntWalk.i64_in _ (by omega)
  have e2 : IntKind.i64.wrap (48 + m.r) = 48 + m.r := IntWalk.i64_in _ (by omega)
  have e3 : IntKind.u8.wrap (48 + m.f) = 48 + m.f := u8_in (by omega) (by omega)
  have e4 : IntKind.u8.wrap (48 + m.r) = 48 + m.r := u8_in (by omega) (by omega)
  have hb15 : ¬ 9223372036854775807 < 4 + (str (sideL m.sw)).size := by omega
  have hb19 : ¬ 9223372036854775807 < 4 + (str (sideL m.sw)).size + (str (sideL m.sb)).size := by omega
  intro i o f w1 ho hi hC hpre K hK
  obtain ⟨c0, c1, c2, c3, c4, c5, c6, c7, c8, c9, c10, c11⟩ := men12_of hC.2
  have hi : i < 21 := hi
  rcases (by omega : i = 0 ∨ i = 1 ∨ i = 2 ∨ i = 3 ∨ i = 4 ∨ i = 5 ∨ i = 6 ∨ i = 7 ∨ i = 8 ∨ i = 9 ∨ i = 10 ∨ i = 11 ∨ i = 12 ∨ i = 13 ∨ i = 14 ∨ i = 15 ∨ i = 16 ∨ i = 17 ∨ i = 18 ∨ i = 19 ∨ i = 20) with rfl | rfl | rfl | rfl | rfl | rfl | rfl | rfl | rfl | rfl | rfl | rfl | rfl | rfl | rfl | rfl | rfl | rfl | rfl | rfl | rfl
  all_goals (injection ho with ho; subst ho; simp [refTextW, Region.binds] at hpre)
  case' inr.inr.inr.inr.inr.inr.inr.inr.inr.inr.inr.inl => obtain ⟨q, hq1, hq2⟩ := hpre; have hcv := conv4 hq2; simp only [hq1] at hK
  all_goals (try simp only [hpre] at hK)
  all_goals go_simp
  all_goals (first | exact hK _ _ hC (Below.refl _ _) rfl | skip)
  case inr.inr.inr.inr.inr.inr.inr.inr.inr.inr.inl => exact hK _ _ (hC.alloc _) (below_box _ _) ⟨_, rfl, HasO.new _ _⟩
  case inr.inr.inr.inr.inr.inr.inr.inr.inr.inr.inr.inr.inr.inr.inl =>
   refine (side5 _ _ _ _ _ hg1 _).mono ?_
   rintro e w' ⟨rfl, hb⟩
   exact hK _ _ (hC.call hb) hb rfl
  case inr.inr.inr.inr.inr.inr.inr.inr.inr.inr.inr.inr.inr.inr.inr.inr.inr.inr.inl =>
   refine (side5 _ _ _ _ _ hg2 _).mono ?_
   rintro e w' ⟨rfl, hb⟩
   exact hK _ _ (hC.call hb) hb rfl
end Go.Proofs.YtnpomigmeieofaaGreatDoor
namespace Go.Proofs.YtnpomigmeieofaaGreatDoor
open Go.RowKit
attribute [local go_sem] Oper.semAt_some

def BackRd (bx g o cap : Nat) (xs : List Int) (W : World) : Prop :=
 W.cell? ⟨bx, 0, none⟩ = some (.slice (some ⟨g, o, none⟩) xs.length cap) ∧ ∀ i x, xs[i]? = some x → W.cell? ⟨g, o + i, none⟩ = some (.int .i64 x)

theorem back_seq (bx g o cap : Nat) (xs : List Int) (hx : xs.length ≤ 1000000) :
  SeqI Tryz.prog 131 #[.pointer (some ⟨bx, 0, none⟩)] xs.length (fun k => #[.int .i64 ((xs.length : Int) - 1 - k), .int .i64 (xs[xs.length - 1 - k]?.getD 0)]) (BackRd bx g o cap xs) (fun _ _ => False) (fun _ => False) := by
 intro n l J Jx W0 hst hstx hRd hsz hszx h0 hy
 have hJ0 := h0 W0.heap.size W0 (Below.refl _ _) (Nat.le_refl _) rfl
 obtain ⟨hr1, hr2⟩ := hRd _ _ _ hJ0
 refine callsIn_of_wp Tryz.func131 rfl trivial ?_ rfl
 simp only [Tryz.ntmps131, List.size_toArray, List.length_cons, List.length_nil, Nat.reduceAdd, Nat.reduceSub, Array.replicate_succ, Array.replicate_zero, List.push_toArray, List.append_toArray, List.nil_append, List.cons_append]
 gi_wp2
 gi_loopw [3] (fun i wr => ∃ k : Nat, k ≤ xs.length ∧ i = .int .i64 ((xs.length : Int) - 1 - k) ∧ J W0.heap.size k wr) (fun i wr => (intOf i + 1).toNat)
 case atStart => exact ⟨0, by omega, by simp, hJ0⟩
 case round =>
  clear hr1 hr2
  obtain ⟨k, hk, rfl, hJ⟩ := hrel
  obtain ⟨hr1, hr2⟩ := hRd _ _ _ hJ
  by_cases hlt : k < xs.length
  ·have hc := hr2 (xs.length - 1 - k) (xs[xs.length - 1 - k]?.getD 0) (by rw [List.getElem?_eq_getElem (by omega)]; rfl)
   have h1 : (0 : Int) ≤ (xs.length : Int) - 1 - k := by omega
   clear hr2
   obtain ⟨fn, tmps, assign, body, hy1, hR⟩ := hy W0.heap.size k wr (Nat.le_refl _) hlt hJ (fun q h1 h2 => by omega)
   gi_wp2
   refine ⟨fun h => by simp [Fence.wide] at h, (roundIn_any hR).mono ?_⟩
   rintro e W' (⟨rfl, hJ', _⟩ | ⟨rfl, hJx⟩)
   ·gi_wp2
    go_roundw
    case rel => exact ⟨k + 1, by omega, by go_num, hJ'⟩
    case measure => simp [intOf]; omega
   ·gi_wp2
    refine bodyPost_ret (results_none rfl _ _ _) rfl ?_
    exact ⟨W0.heap.size, Nat.le_refl _, .inl ⟨⟨_, rfl⟩, .inr ⟨k, hlt, hJx⟩⟩⟩
  ·obtain rfl : k = xs.length := by omega
   gi_wp2
   go_end0
   exact ⟨W0.heap.size, Nat.le_refl _, .inl ⟨⟨_, rfl⟩, .inl hJ⟩⟩
end Go.Proofs.YtnpomigmeieofaaGreatDoor
/-
 DERIVED: THE SHELF's CONTRACTS AT THIS DUMP, IN PLAIN WORDS (tools/lay-plain.mjs out of 'TryzShelf.lean', which tools/lay-shelf.mjs wrote): THE SAME DECLARATIONS UNDER THE SAME NAMES: 'import', 'namespace', 'open', 'def', 'theorem' AND NOTHING ELSE: no command of the shelf's: FOR A HAND-IN. Each laying: the table of numbers ('.._ren') and one theorem, a field a fact of the dump's own or the kernel's comparison; each contract: ONE APPLICATION.
-/
namespace Go.Proofs
open Go.Shelf
def Tryz.lays125_ren : Go.Shelf.Ren := ⟨fun | 125 => 124 | 128 => 162 | 129 => 163 | n => n, fun | 46 => 156 | 3 => 3 | 51 => 191 | 53 => 169 | 4 => 4 | 5 => 5 | 9 => 9 | n => n, fun | n => n⟩
theorem Tryz.lays125 : Go.Proofs.Lays.n125 Tryz.prog Tryz.lays125_ren := {
 mixed := by kernel_rfl
 f125 := Tryz.func124.trans (congrArg some (by kernel_rfl))
 f128 := Tryz.func162.trans (congrArg some (by kernel_rfl))
 f129 := Tryz.func163.trans (congrArg some (by kernel_rfl))
 t3 := Tryz.underlying3
 a3 := Tryz.isAgg3
 z3 := Tryz.sizeOf3
 v3 := Tryz.zeroValue3
 t4 := Tryz.underlying4
 a4 := Tryz.isAgg4
 z4 := Tryz.sizeOf4
 v4 := Tryz.zeroValue4
 t5 := Tryz.underlying5
 a5 := Tryz.isAgg5
 z5 := Tryz.sizeOf5
 v5 := Tryz.zeroValue5
 t9 := Tryz.underlying9
 a9 := Tryz.isAgg9
 z9 := Tryz.sizeOf9
 v9 := Tryz.zeroValue9
 t46 := Tryz.underlying156
 a46 := Tryz.isAgg156
 z46 := Tryz.sizeOf156
 v46 := Tryz.zeroValue156
 t51 := Tryz.underlying191
 a51 := Tryz.isAgg191
 z51 := Tryz.sizeOf191
 v51 := Tryz.zeroValue191
 t53 := Tryz.underlying169
 a53 := Tryz.isAgg169
 z53 := Tryz.sizeOf169
 v53 := Tryz.zeroValue169 }
theorem Tryz.bits_Len (x : Int) (w : World) (h0 : 0 ≤ x) (h1 : x ≤ 18446744073709551615) :
  Calls Tryz.prog 124 #[.int .u64 x] w fun e w' => e = .returned (.int .i64 (Lib.bitLen x.toNat)) ∧ w' = w := Any.bits_Len Tryz.lays125 x w h0 h1
def Tryz.lays106_ren : Go.Shelf.Ren := ⟨fun | 106 => 73 | 213 => 126 | 265 => 164 | n => n, fun | 9 => 9 | 3 => 3 | n => n, fun | n => n⟩
theorem Tryz.lays106 : Go.Proofs.Lays.n106 Tryz.prog Tryz.lays106_ren := {
 mixed := by kernel_rfl
 f106 := Tryz.func73.trans (congrArg some (by kernel_rfl))
 f213 := Tryz.func126.trans (congrArg some (by kernel_rfl))
 f265 := Tryz.func164.trans (congrArg some (by kernel_rfl))
 t3 := Tryz.underlying3
 a3 := Tryz.isAgg3
 z3 := Tryz.sizeOf3
 v3 := Tryz.zeroValue3
 t9 := Tryz.underlying9
 a9 := Tryz.isAgg9
 z9 := Tryz.sizeOf9
 v9 := Tryz.zeroValue9 }
open Go.RowKit in
theorem Tryz.strings_Compare (a b : ByteArray) (w : World) :
  Calls Tryz.prog 73 #[.string a, .string b] w fun e w' => e = .returned (.int .i64 (Lib.compareBytes a.data.toList b.data.toList)) ∧ w' = w := Any.strings_Compare Tryz.lays106 a b w
def Tryz.lays215_ren : Go.Shelf.Ren := ⟨fun | 215 => 125 | n => n, fun | 3 => 3 | 4 => 4 | n => n, fun | n => n⟩
theorem Tryz.lays215 : Go.Proofs.Lays.n215 Tryz.prog Tryz.lays215_ren := {
 mixed := by kernel_rfl
 f215 := Tryz.func125.trans (congrArg some (by kernel_rfl))
 t3 := Tryz.underlying3
 a3 := Tryz.isAgg3
 z3 := Tryz.sizeOf3
 v3 := Tryz.zeroValue3
 t4 := Tryz.underlying4
 a4 := Tryz.isAgg4
 z4 := Tryz.sizeOf4
 v4 := Tryz.zeroValue4 }
open Go.RowKit in
theorem Tryz.cmp_isNaN_int (x : Int) (w : World) :
  Calls Tryz.prog 125 #[.int .i64 x] w fun e w' => e = .returned (.bool false) ∧ w' = w := Any.cmp_isNaN_int Tryz.lays215 x w
def Tryz.lays145_ren : Go.Shelf.Ren := ⟨fun | 145 => 42 | 220 => 91 | 219 => 136 | 217 => 171 | 225 => 172 | 224 => 173 | 267 => 174 | 266 => 189 | 314 => 190 | n => n, fun | 9 => 9 | 4 => 4 | 59 => 73 | 3 => 3 | 5 => 5 | 46 => 156 | 146 => 196 | 51 => 191 | n => n, fun | 1 => 0 | n => n⟩
theorem Tryz.lays145 : Go.Proofs.Lays.n145 Tryz.prog Tryz.lays145_ren := {
 mixed := by kernel_rfl
 f145 := Tryz.func42.trans (congrArg some (by kernel_rfl))
 f217 := Tryz.func171.trans (congrArg some (by kernel_rfl))
 f219 := Tryz.func136.trans (congrArg some (by kernel_rfl))
 f220 := Tryz.func91.trans (congrArg some (by kernel_rfl))
 f224 := Tryz.func173.trans (congrArg some (by kernel_rfl))
 f225 := Tryz.func172.trans (congrArg some (by kernel_rfl))
 f266 := Tryz.func189.trans (congrArg some (by kernel_rfl))
 f267 := Tryz.func174.trans (congrArg some (by kernel_rfl))
 f314 := Tryz.func190.trans (congrArg some (by kernel_rfl))
 t3 := Tryz.underlying3
 a3 := Tryz.isAgg3
 z3 := Tryz.sizeOf3
 v3 := Tryz.zeroValue3
 t4 := Tryz.underlying4
 a4 := Tryz.isAgg4
 z4 := Tryz.sizeOf4
 v4 := Tryz.zeroValue4
 t5 := Tryz.underlying5
 a5 := Tryz.isAgg5
 z5 := Tryz.sizeOf5
 v5 := Tryz.zeroValue5
 t9 := Tryz.underlying9
 a9 := Tryz.isAgg9
 z9 := Tryz.sizeOf9
 v9 := Tryz.zeroValue9
 t46 := Tryz.underlying156
 a46 := Tryz.isAgg156
 z46 := Tryz.sizeOf156
 v46 := Tryz.zeroValue156
 t51 := Tryz.underlying191
 a51 := Tryz.isAgg191
 z51 := Tryz.sizeOf191
 v51 := Tryz.zeroValue191
 t59 := Tryz.underlying73
 a59 := Tryz.isAgg73
 z59 := Tryz.sizeOf73
 v59 := Tryz.zeroValue73
 t146 := Tryz.underlying196
 a146 := Tryz.isAgg196
 z146 := Tryz.sizeOf196
 v146 := Tryz.zeroValue196
 g1 := by kernel_rfl }
open Go.RowKit Go.Lib in
theorem Tryz.strings_Cut (s sep : ByteArray) (m : Int) (w : World) (hs : s.size < 4294967281) (hm : w.cell? ⟨0, 0, none⟩ = some (.int .i64 m)) :
  Calls Tryz.prog 42 #[.string s, .string sep] w fun e w' => e = .returned (.tuple #[.string ⟨(Lib.cut s.data.toList sep.data.toList).1.toArray⟩, .string ⟨(Lib.cut s.data.toList sep.data.toList).2.1.toArray⟩, .bool (Lib.cut s.data.toList sep.data.toList).2.2]) ∧ ∃ n, w' = w.drewN n := Any.strings_Cut Tryz.lays145 s sep m w hs hm
def Tryz.lays138_ren : Go.Shelf.Ren := ⟨fun | 138 => 43 | 195 => 92 | 218 => 93 | 143 => 94 | 219 => 136 | 217 => 171 | 225 => 172 | 224 => 173 | 267 => 174 | 266 => 189 | 314 => 190 | n => n, fun | 9 => 9 | 3 => 3 | 4 => 4 | 5 => 5 | 0 => 0 | 46 => 156 | 146 => 196 | 51 => 191 | n => n, fun | 1 => 0 | n => n⟩
theorem Tryz.lays138 : Go.Proofs.Lays.n138 Tryz.prog Tryz.lays138_ren := {
 mixed := by kernel_rfl
 f138 := Tryz.func43.trans (congrArg some (by kernel_rfl))
 f143 := Tryz.func94.trans (congrArg some (by kernel_rfl))
 f195 := Tryz.func92.trans (congrArg some (by kernel_rfl))
 f217 := Tryz.func171.trans (congrArg some (by kernel_rfl))
 f218 := Tryz.func93.trans (congrArg some (by kernel_rfl))
 f219 := Tryz.func136.trans (congrArg some (by kernel_rfl))
 f224 := Tryz.func173.trans (congrArg some (by kernel_rfl))
 f225 := Tryz.func172.trans (congrArg some (by kernel_rfl))
 f266 := Tryz.func189.trans (congrArg some (by kernel_rfl))
 f267 := Tryz.func174.trans (congrArg some (by kernel_rfl))
 f314 := Tryz.func190.trans (congrArg some (by kernel_rfl))
 t0 := Tryz.underlying0
 a0 := Tryz.isAgg0
 z0 := Tryz.sizeOf0
 v0 := Tryz.zeroValue0
 t3 := Tryz.underlying3
 a3 := Tryz.isAgg3
 z3 := Tryz.sizeOf3
 v3 := Tryz.zeroValue3
 t4 := Tryz.underlying4
 a4 := Tryz.isAgg4
 z4 := Tryz.sizeOf4
 v4 := Tryz.zeroValue4
 t5 := Tryz.underlying5
 a5 := Tryz.isAgg5
 z5 := Tryz.sizeOf5
 v5 := Tryz.zeroValue5
 t9 := Tryz.underlying9
 a9 := Tryz.isAgg9
 z9 := Tryz.sizeOf9
 v9 := Tryz.zeroValue9
 t46 := Tryz.underlying156
 a46 := Tryz.isAgg156
 z46 := Tryz.sizeOf156
 v46 := Tryz.zeroValue156
 t51 := Tryz.underlying191
 a51 := Tryz.isAgg191
 z51 := Tryz.sizeOf191
 v51 := Tryz.zeroValue191
 t146 := Tryz.underlying196
 a146 := Tryz.isAgg196
 z146 := Tryz.sizeOf196
 v146 := Tryz.zeroValue196
 g1 := by kernel_rfl }
open Go.RowKit Go.Lib in
theorem Tryz.strings_Count_any (s sep : ByteArray) (m : Int) (w : World) (hs : s.size < 4294967281) (hm : w.cell? ⟨0, 0, none⟩ = some (.int .i64 m)) (h1 : 1 ≤ sep.size) :
  Calls Tryz.prog 43 #[.string s, .string sep] w fun e w' => e = .returned (.int .i64 (Lib.countB s sep)) ∧ w' = w := Any.strings_Count_any Tryz.lays138 s sep m w hs hm h1
def Tryz.lays105_ren : Go.Shelf.Ren := ⟨fun | 105 => 88 | 212 => 132 | 99 => 133 | 165 => 134 | 166 => 87 | 170 => 135 | 169 => 89 | 263 => 167 | 264 => 168 | 206 => 169 | 240 => 130 | 241 => 170 | 276 => 166 | 277 => 188 | n => n, fun | 9 => 9 | 3 => 3 | 4 => 4 | 20 => 20 | 0 => 0 | 46 => 156 | 109 => 160 | 5 => 5 | 72 => 124 | 76 => 127 | 51 => 191 | 146 => 196 | 53 => 169 | 148 => 198 | 70 => 122 | 37 => 71 | 75 => 126 | 127 => 165 | 164 => 194 | 80 => 135 | n => n, fun | n => n⟩
theorem Tryz.lays105 : Go.Proofs.Lays.n105 Tryz.prog Tryz.lays105_ren := {
 mixed := by kernel_rfl
 f99 := Tryz.func133.trans (congrArg some (by kernel_rfl))
 f105 := Tryz.func88.trans (congrArg some (by kernel_rfl))
 f165 := Tryz.func134.trans (congrArg some (by kernel_rfl))
 f166 := Tryz.func87.trans (congrArg some (by kernel_rfl))
 f169 := Tryz.func89.trans (congrArg some (by kernel_rfl))
 f170 := Tryz.func135.trans (congrArg some (by kernel_rfl))
 f206 := Tryz.func169.trans (congrArg some (by kernel_rfl))
 f212 := Tryz.func132.trans (congrArg some (by kernel_rfl))
 f240 := Tryz.func130.trans (congrArg some (by kernel_rfl))
 f241 := Tryz.func170.trans (congrArg some (by kernel_rfl))
 f263 := Tryz.func167.trans (congrArg some (by kernel_rfl))
 f264 := Tryz.func168.trans (congrArg some (by kernel_rfl))
 f276 := Tryz.func166.trans (congrArg some (by kernel_rfl))
 f277 := Tryz.func188.trans (congrArg some (by kernel_rfl))
 t0 := Tryz.underlying0
 a0 := Tryz.isAgg0
 z0 := Tryz.sizeOf0
 v0 := Tryz.zeroValue0
 t3 := Tryz.underlying3
 a3 := Tryz.isAgg3
 z3 := Tryz.sizeOf3
 v3 := Tryz.zeroValue3
 t4 := Tryz.underlying4
 a4 := Tryz.isAgg4
 z4 := Tryz.sizeOf4
 v4 := Tryz.zeroValue4
 t5 := Tryz.underlying5
 a5 := Tryz.isAgg5
 z5 := Tryz.sizeOf5
 v5 := Tryz.zeroValue5
 t9 := Tryz.underlying9
 a9 := Tryz.isAgg9
 z9 := Tryz.sizeOf9
 v9 := Tryz.zeroValue9
 t20 := Tryz.underlying20
 a20 := Tryz.isAgg20
 z20 := Tryz.sizeOf20
 v20 := Tryz.zeroValue20
 t37 := Tryz.underlying71
 a37 := Tryz.isAgg71
 z37 := Tryz.sizeOf71
 v37 := Tryz.zeroValue71
 t46 := Tryz.underlying156
 a46 := Tryz.isAgg156
 z46 := Tryz.sizeOf156
 v46 := Tryz.zeroValue156
 t51 := Tryz.underlying191
 a51 := Tryz.isAgg191
 z51 := Tryz.sizeOf191
 v51 := Tryz.zeroValue191
 t53 := Tryz.underlying169
 a53 := Tryz.isAgg169
 z53 := Tryz.sizeOf169
 v53 := Tryz.zeroValue169
 t70 := Tryz.underlying122
 a70 := Tryz.isAgg122
 z70 := Tryz.sizeOf122
 v70 := Tryz.zeroValue122
 t72 := Tryz.underlying124
 a72 := Tryz.isAgg124
 z72 := Tryz.sizeOf124
 v72 := Tryz.zeroValue124
 t75 := Tryz.underlying126
 a75 := Tryz.isAgg126
 z75 := Tryz.sizeOf126
 v75 := Tryz.zeroValue126
 t76 := Tryz.underlying127
 a76 := Tryz.isAgg127
 z76 := Tryz.sizeOf127
 v76 := Tryz.zeroValue127
 t109 := Tryz.underlying160
 a109 := Tryz.isAgg160
 z109 := Tryz.sizeOf160
 v109 := Tryz.zeroValue160
 t127 := Tryz.underlying165
 a127 := Tryz.isAgg165
 z127 := Tryz.sizeOf165
 v127 := Tryz.zeroValue165
 t146 := Tryz.underlying196
 a146 := Tryz.isAgg196
 z146 := Tryz.sizeOf196
 v146 := Tryz.zeroValue196
 t148 := Tryz.underlying198
 a148 := Tryz.isAgg198
 z148 := Tryz.sizeOf198
 v148 := Tryz.zeroValue198
 t164 := Tryz.underlying194
 a164 := Tryz.isAgg194
 z164 := Tryz.sizeOf194
 v164 := Tryz.zeroValue194 }
theorem Tryz.Builder_Extra_105 : Builder.Extra Tryz.prog Tryz.lays105_ren := {
 sizeBuilder := by kernel_rfl
 liesBuilder := by kernel_rfl
 t5 := Tryz.underlying5
 a5 := Tryz.isAgg5
 z5 := Tryz.sizeOf5
 v5 := Tryz.zeroValue5
 infoByte := by kernel_rfl
 cellsByte := by kernel_rfl
 sizeByte := by kernel_rfl
 neB5 := by decide }
open Go.RowKit Go.Lib in
theorem Tryz.strings_Repeat (s : ByteArray) (c : Nat) (w : World) (hc : c ≤ 9223372036854775807) (hlen : s.size * c ≤ 140737488355328) :
  Calls Tryz.prog 88 #[.string s, .int .i64 c] w fun e w' => e = .returned (.string ⟨(Lib.repeatL s.data.toList c).toArray⟩) ∧ Below w.heap.size w w' := Any.strings_Repeat Tryz.lays105 Tryz.Builder_Extra_105 s c w hc hlen
end Go.Proofs
