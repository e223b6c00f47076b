import Derived.Test.YtefmplccbkmalaaGreatDoorF02
import Derived.Test.YtefmplccbkmalaaGreatDoorF05
import Derived.Test.YtefmplccbkmalaaGreatDoorF06
import Derived.Test.YtefmplccbkmalaaGreatDoorF31
import Derived.Shelf.SlGeneric
import Derived.Ground.SlsfProg
import Derived.Shelf.SlSortCmp.WholeK
import Derived.Shelf.Spec.TrailingZeros
import Derived.Ground.Names7Prog
import Derived.Test.YtefmplccbkmalaaGreatDoorProg
import Derived.OrdersIn
import Derived.TacticsIn
set_option maxHeartbeats 12800000
/-
 DERIVED: THE SHELF's CONTRACTS AT THIS DUMP, IN PLAIN WORDS (tools/lay-plain.mjs out of 'TryzSortU.lean', which tools/lay-shelf.mjs wrote): THE SAME DECLARATIONS UNDER THE SAME NAMES: 'import', 'namespace', 'open', 'def', 'theorem' AND NOTHING ELSE: no command of the shelf's: FOR A HAND-IN. Each laying: the table of numbers ('.._ren') and one theorem, a field a fact of the dump's own or the kernel's comparison; each contract: ONE APPLICATION.
-/
namespace Go.Proofs
open Go.Shelf
def Tryz.srt_ren : Go.Shelf.Ren := ⟨fun | 6 => 33 | 15 => 95 | 14 => 94 | 28 => 155 | 29 => 156 | 20 => 147 | 21 => 148 | 22 => 149 | 23 => 150 | 24 => 151 | 25 => 152 | 26 => 153 | 27 => 154 | 46 => 184 | 47 => 185 | 48 => 186 | 49 => 187 | 50 => 188 | 57 => 203 | n => n, fun | 22 => 30 | 24 => 42 | 25 => 43 | 3 => 3 | 39 => 135 | 0 => 0 | 53 => 194 | 55 => 63 | 4 => 4 | 46 => 187 | 45 => 186 | 50 => 191 | 5 => 5 | 9 => 9 | 66 => 212 | 70 => 216 | 76 => 229 | 77 => 230 | n => n, fun | n => n⟩
theorem Tryz.srt : Go.Proofs.SlLaysF0.n6 Tryz.prog Tryz.srt_ren := {
 mixed := by kernel_rfl
 f6 := ⟨Tryz.f33.name, by decide, Tryz.func33.trans (congrArg some (by kernel_rfl))⟩
 f14 := ⟨Tryz.f94.name, by decide, Tryz.func94.trans (congrArg some (by kernel_rfl))⟩
 f15 := Tryz.func95.trans (congrArg some (by kernel_rfl))
 f20 := ⟨Tryz.f147.name, by decide, Tryz.func147.trans (congrArg some (by kernel_rfl))⟩
 f21 := ⟨Tryz.f148.name, by decide, Tryz.func148.trans (congrArg some (by kernel_rfl))⟩
 f22 := ⟨Tryz.f149.name, by decide, Tryz.func149.trans (congrArg some (by kernel_rfl))⟩
 f23 := ⟨Tryz.f150.name, by decide, Tryz.func150.trans (congrArg some (by kernel_rfl))⟩
 f24 := ⟨Tryz.f151.name, by decide, Tryz.func151.trans (congrArg some (by kernel_rfl))⟩
 f25 := ⟨Tryz.f152.name, by decide, Tryz.func152.trans (congrArg some (by kernel_rfl))⟩
 f26 := ⟨Tryz.f153.name, by decide, Tryz.func153.trans (congrArg some (by kernel_rfl))⟩
 f27 := ⟨Tryz.f154.name, by decide, Tryz.func154.trans (congrArg some (by kernel_rfl))⟩
 f28 := Tryz.func155.trans (congrArg some (by kernel_rfl))
 f29 := Tryz.func156.trans (congrArg some (by kernel_rfl))
 f46 := ⟨Tryz.f184.name, by decide, Tryz.func184.trans (congrArg some (by kernel_rfl))⟩
 f47 := Tryz.func185.trans (congrArg some (by kernel_rfl))
 f48 := Tryz.func186.trans (congrArg some (by kernel_rfl))
 f49 := ⟨Tryz.f187.name, by decide, Tryz.func187.trans (congrArg some (by kernel_rfl))⟩
 f50 := ⟨Tryz.f188.name, by decide, Tryz.func188.trans (congrArg some (by kernel_rfl))⟩
 f57 := ⟨Tryz.f203.name, by decide, Tryz.func203.trans (congrArg some (by kernel_rfl))⟩
 t0 := Tryz.underlying0
 a0 := Tryz.isAgg0
 z0 := Tryz.sizeOf0
 v0 := Tryz.zeroValue0
 t3 := Tryz.underlying3
 a3 := Tryz.isAgg3
 z3 := Tryz.sizeOf3
 v3 := Tryz.zeroValue3
 t4 := Tryz.underlying4
 a4 := Tryz.isAgg4
 z4 := Tryz.sizeOf4
 v4 := Tryz.zeroValue4
 t5 := Tryz.underlying5
 a5 := Tryz.isAgg5
 z5 := Tryz.sizeOf5
 v5 := Tryz.zeroValue5
 t9 := Tryz.underlying9
 a9 := Tryz.isAgg9
 z9 := Tryz.sizeOf9
 v9 := Tryz.zeroValue9
 t22 := Tryz.underlying30
 a22 := Tryz.isAgg30
 z22 := Tryz.sizeOf30
 v22 := Tryz.zeroValue30
 t25 := Tryz.underlying43
 a25 := Tryz.isAgg43
 z25 := Tryz.sizeOf43
 v25 := Tryz.zeroValue43
 t39 := Tryz.underlying135
 a39 := Tryz.isAgg135
 z39 := Tryz.sizeOf135
 v39 := Tryz.zeroValue135
 t45 := Tryz.underlying186
 a45 := Tryz.isAgg186
 z45 := Tryz.sizeOf186
 v45 := Tryz.zeroValue186
 t46 := Tryz.underlying187
 a46 := Tryz.isAgg187
 z46 := Tryz.sizeOf187
 v46 := Tryz.zeroValue187
 t50 := Tryz.underlying191
 a50 := Tryz.isAgg191
 z50 := Tryz.sizeOf191
 v50 := Tryz.zeroValue191
 t53 := Tryz.underlying194
 a53 := Tryz.isAgg194
 z53 := Tryz.sizeOf194
 v53 := Tryz.zeroValue194
 t55 := Tryz.underlying63
 a55 := Tryz.isAgg63
 z55 := Tryz.sizeOf63
 v55 := Tryz.zeroValue63
 t66 := Tryz.underlying212
 a66 := Tryz.isAgg212
 z66 := Tryz.sizeOf212
 v66 := Tryz.zeroValue212
 t70 := Tryz.underlying216
 a70 := Tryz.isAgg216
 z70 := Tryz.sizeOf216
 v70 := Tryz.zeroValue216
 t76 := Tryz.underlying229
 a76 := Tryz.isAgg229
 z76 := Tryz.sizeOf229
 v76 := Tryz.zeroValue229
 t77 := Tryz.underlying230
 a77 := Tryz.isAgg230
 z77 := Tryz.sizeOf230
 v77 := Tryz.zeroValue230 }
def Tryz.tz64_ren : Go.Shelf.Ren := ⟨fun | 29 => 87 | n => n, fun | 22 => 63 | 3 => 3 | 4 => 4 | 25 => 135 | 54 => 173 | 0 => 0 | 5 => 5 | n => n, fun | 1 => 4 | n => n⟩
theorem Tryz.tz64 : Go.Proofs.Lays7.n29 Tryz.prog Tryz.tz64_ren := {
 mixed := by kernel_rfl
 f29 := Tryz.func87.trans (congrArg some (by kernel_rfl))
 t0 := Tryz.underlying0
 a0 := Tryz.isAgg0
 z0 := Tryz.sizeOf0
 v0 := Tryz.zeroValue0
 i0 := by kernel_rfl
 t3 := Tryz.underlying3
 a3 := Tryz.isAgg3
 z3 := Tryz.sizeOf3
 v3 := Tryz.zeroValue3
 i3 := by kernel_rfl
 t4 := Tryz.underlying4
 a4 := Tryz.isAgg4
 z4 := Tryz.sizeOf4
 v4 := Tryz.zeroValue4
 i4 := by kernel_rfl
 t5 := Tryz.underlying5
 a5 := Tryz.isAgg5
 z5 := Tryz.sizeOf5
 v5 := Tryz.zeroValue5
 i5 := by kernel_rfl
 t22 := Tryz.underlying63
 a22 := Tryz.isAgg63
 z22 := Tryz.sizeOf63
 v22 := Tryz.zeroValue63
 i22 := by kernel_rfl
 t25 := Tryz.underlying135
 a25 := Tryz.isAgg135
 z25 := Tryz.sizeOf135
 v25 := Tryz.zeroValue135
 i25 := by kernel_rfl
 t54 := Tryz.underlying173
 a54 := Tryz.isAgg173
 z54 := Tryz.sizeOf173
 g1 := by kernel_rfl }
end Go.Proofs
namespace Go.Proofs.YtefmplccbkmalaaGreatDoor
open Go.RowKit

end Go.Proofs.YtefmplccbkmalaaGreatDoor
namespace Go.Proofs.YtefmplccbkmalaaGreatDoor
open Go.RowKit

section
variable {F : Fence} {n : Nat} {P : Program} {o : Oper} {a : Act} {w : World} {K : Act → World → Prop} {Q : Exit → Act → World → Prop}
theorem wanted_none {t : Nat → Option Bool} (hg : o.guard = none) : Region.wanted o t = true := by
 unfold Region.wanted; rw [hg]
end
end Go.Proofs.YtefmplccbkmalaaGreatDoor
namespace Go.Proofs.YtefmplccbkmalaaGreatDoor
open Go.RowKit Go.Sort Go.BigFrame
attribute [local go_sem] Oper.semAt_some

def TzOk (w : World) : Prop := ∀ j, j < 64 → w.cell? ⟨4, j, none⟩ = some (.int .u8 (Lib.deBruijn64tab.getD j 0))
theorem TzOk.call {w w' : World} (h : TzOk w) (hb : RowKit.Below w.heap.size w w') : TzOk w' := fun j hj => by
 have h1 := h j hj
 rw [(bcell hb).1 4 j (block_lt_of_cell h1)]; exact h1
theorem tz_any (S : Nat) (h : S < 18446744073709551616) (w : World) (hT : TzOk w) : Calls Tryz.prog 87 #[.int .u64 S] w fun e w' => e = .returned (.int .i64 (Lib.ctz 64 S)) ∧ w = w' :=
 (Any7.bits_TrailingZeros64 Tryz.tz64 S h w (fun _ => fun j hj => hT j hj)).mono (fun _ _ h => ⟨h.1, h.2.symm⟩)
def EaRd (q S : Nat) (W : World) : Prop := HasO W q (.cells #[.int .u64 S] 64 (0, 0)) ∧ TzOk W
theorem each_any (S : Nat) (w : World) : Calls Tryz.prog 29 #[.int .u64 S] w fun e w' =>
  e = .returned (.func (.func 86) #[] #[.pointer (some ⟨w.heap.size, 0, none⟩)]) ∧ HasO w' w.heap.size (.cells #[.int .u64 S] 64 (0, 0)) ∧ RowKit.Below w.heap.size w w' ∧ w'.heap.size = w.heap.size + 1 := by
 go_enter Tryz.func29, Tryz.ntmps29
 go_wp2_with fail
 go_ret
 exact ⟨rfl, HasO.new w (.cells #[.int .u64 S] 64), below_box w _, by simp⟩
set_option maxRecDepth 100000 in
theorem each_seq (q S : Nat) (hS : S < 18446744073709551616) :
  SeqI Tryz.prog 86 #[.pointer (some ⟨q, 0, none⟩)] (bitsL S).length (fun k => #[.int .i64 ((bitsL S)[k]?.getD 0 : Nat)]) (EaRd q S) (fun _ _ => False) (fun _ => False) := by
 intro n l J Jx W0 hst hstx hRd hsz hszx h0 hy
 have hJ0 := h0 W0.heap.size W0 (Below.refl _ _) (Nat.le_refl _) rfl
 obtain ⟨hr1, hr2⟩ := hRd _ _ _ hJ0
 obtain ⟨L, hL⟩ : ∃ L, L = bitsL S := ⟨_, rfl⟩
 rw [← hL] at hy ⊢
 have hd0 : L.drop 0 = bitsL S := by rw [hL]; rfl
 have c1 := hr1.cells 0
 have l1 := hr1.lt
 have hbs := fun S h0 h => bits_step (S := S) h0 h
 have hb0 := bits_zero
 generalize bitsL = BL at *
 replace hL := Lib.hid hL
 clear hr2
 refine callsIn_of_wp Tryz.func86 rfl trivial ?_ rfl
 simp only [Tryz.ntmps86, List.size_toArray, List.length_cons, List.length_nil, Nat.reduceAdd, Nat.reduceSub, Array.replicate_succ, Array.replicate_zero, List.push_toArray, List.append_toArray, List.nil_append, List.cons_append]
 gi_wp2_with fail
 gi_loopw [3] (fun sv wr => ∃ (k S' : Nat), k ≤ L.length ∧ sv = .int .u64 S' ∧ S' < 18446744073709551616 ∧ Hid (L.drop k = BL S') ∧ J W0.heap.size k wr) (fun sv _ => (intOf sv).toNat)
 case atStart => exact ⟨0, S, Nat.zero_le _, rfl, hS, Lib.hid hd0, hJ0⟩
 case round =>
  obtain ⟨k, S', hk, rfl, hS', hd, hJ⟩ := hrel
  clear hr1 c1 l1 hJ0 h0 hd0
  obtain ⟨_, hr2⟩ := hRd _ _ _ hJ
  rcases z : ((S' : Int) != 0) with _ | _
  ·have hz : S' = 0 := by simp at z; omega
   have hk2 : k = L.length := by
    have h1 := hd.out
    rw [hz, hb0, List.drop_eq_nil_iff] at h1
    omega
   clear hbs hb0
   replace hz := Lib.hid hz
   gi_wp2_with fail
   rw [hk2] at hJ
   first
    | (go_end0; exact ⟨W0.heap.size, Nat.le_refl _, .inl ⟨⟨_, rfl⟩, .inl hJ⟩⟩)
    | (refine bodyPost_ret (results_none rfl _ _ _) rfl ?_; exact ⟨W0.heap.size, Nat.le_refl _, .inl ⟨⟨_, rfl⟩, .inl hJ⟩⟩)
  ·have hnz : S' ≠ 0 := by simp at z; omega
   obtain ⟨b, hb1, hb2, hb3, hb4⟩ := hbs S' hnz hS'
   rw [← hd.out] at hb3
   have hkl : k < L.length := by
    rcases Nat.lt_or_ge k L.length with h | h
    ·exact h
    ·rw [List.drop_eq_nil_of_le h] at hb3; cases hb3
   rw [List.drop_eq_getElem_cons hkl] at hb3
   injection hb3 with h5 h6
   have hget : L[k]?.getD 0 = b := by rw [List.getElem?_eq_getElem hkl]; exact h5
   have htz := tz_any S' hS' wr hr2
   rw [hb1] at htz
   have hyk := hy W0.heap.size k wr (Nat.le_refl _) hkl hJ (fun q h1 h2 => by omega)
   change YieldAt _ _ _ _ #[.int .i64 (L[k]?.getD 0 : Nat)] _ _ at hyk
   rw [hget] at hyk
   obtain ⟨fn, tmps, assign, body, hy1, hR⟩ := hyk
   have hlt : S' &&& (S' - 1) < S' := Nat.lt_of_le_of_lt Nat.and_le_right (by omega)
   have hw : (S' : Int) - 1 = ((S' - 1 : Nat) : Int) := by omega
   have ev := u64_and_nat S' (S' - 1) hS' (by omega)
   rw [← hw] at ev
   replace ev := Lib.hid ev
   clear hbs hb0 hb1 hw hget h5 hy hd
   replace h6 := Lib.hid h6
   gi_wp2_with fail
   refine ⟨trivial, fun h => by simp [Fence.wide] at h, (callsIn_wide.2 htz).mono ?_⟩
   rintro e W' ⟨rfl, rfl⟩
   clear htz
   gi_wp2_with fail
   refine ⟨fun h => by simp [Fence.wide] at h, (roundIn_any hR).mono ?_⟩
   rintro e W' (⟨rfl, hJ', _⟩ | ⟨rfl, hJx⟩)
   ·gi_wp2_with fail
    go_roundw
    case measure => rw [ev.out]; simp only [intOf]; omega
    case rel => exact ⟨k + 1, S' &&& (S' - 1), by omega, by rw [ev.out], hb4, h6, hJ'⟩
   ·gi_wp2_with fail
    refine bodyPost_ret (results_none rfl _ _ _) rfl ?_
    exact ⟨W0.heap.size, Nat.le_refl _, .inl ⟨⟨_, rfl⟩, .inr ⟨k, hkl, hJx⟩⟩⟩
end Go.Proofs.YtefmplccbkmalaaGreatDoor
namespace Go.Proofs.YtefmplccbkmalaaGreatDoor
open Go.RowKit Go.Sort Go.BigFrame

structure Nib (qs : Nat) (w w' : World) (v v' : Value) : Prop where
 os : w'.os = w.os
 tape : w'.tape = w.tape
 output : w'.output = w.output
 size : w.heap.size ≤ w'.heap.size
 block : ∀ k, k < w.heap.size → k ≠ qs → some k ≠ v.ownBlock → w'.heap[k]? = w.heap[k]?
 near : Near w v v'
section
variable {qs : Nat} {w w' w2 : World} {v v' v2 : Value}
theorem Nib.refl (qs : Nat) (w : World) (v : Value) : Nib qs w w v v := ⟨rfl, rfl, rfl, Nat.le_refl _, fun _ _ _ _ => rfl, Near.refl _ _⟩
theorem Nib.trans (h : Nib qs w w' v v') (k : Nib qs w' w2 v' v2) : Nib qs w w2 v v2 := by
 refine ⟨k.os.trans h.os, k.tape.trans h.tape, k.output.trans h.output, Nat.le_trans h.size k.size, fun i hi h1 h2 => ?_, h.near.trans k.near h.size⟩
 rw [k.block i (Nat.lt_of_lt_of_le hi h.size) h1 ?_, h.block i hi h1 h2]
 intro e
 rcases h.near i e.symm with h3 | h3
 ·exact h2 h3.symm
 ·omega
theorem Nib.of_below (qs : Nat) (h : RowKit.Below w.heap.size w w') (v : Value) : Nib qs w w' v v := ⟨h.os, h.tape, h.output, h.size, fun i hi _ _ => h.block i hi, Near.refl _ _⟩
theorem Nib.hasO (h : Nib qs w w' v v') {q : Nat} {o : Obj} (ho : HasO w q o) (h1 : q ≠ qs) (h2 : v.ownBlock ≠ some q) : HasO w' q o := (h.block q ho.lt h1 (fun e => h2 e.symm)).trans ho
theorem Nib.below (h : Nib qs w w' v v') {B : Nat} (h1 : B ≤ qs) (h2 : ∀ k, v.ownBlock = some k → B ≤ k) (hB : B ≤ w.heap.size) : RowKit.Below B w w' :=
 ⟨h.os, h.tape, h.output, h.size, fun k hk => h.block k (Nat.lt_of_lt_of_le hk hB) (by omega) (fun e => by have := h2 k e.symm; omega)⟩
theorem Nib.set (h : Nib qs w w' v v') (i : Nat) (u : Value) : Nib qs w (w'.setCell ⟨qs, i, none⟩ u) v v' := by
 obtain ⟨h1, h2, h3, h4, h5, h6⟩ := h
 have hs : Alt qs (qs + 1) w' (w'.setCell ⟨qs, i, none⟩ u) := Alt.setCell ⟨Nat.le_refl _, Nat.lt_succ_self _⟩
 exact ⟨hs.os.trans h1, hs.tape.trans h2, hs.output.trans h3, Nat.le_trans h4 hs.size, fun k hk e1 e2 => (hs.block k (Nat.lt_of_lt_of_le hk h4) (by omega)).trans (h5 k hk e1 e2), h6⟩
end
abbrev srCs (F R : Nat) (pp : Option Addr) (n cc : Nat) (bl : Bool) (ca pa ha fu : Int) (occ : Nat) (v : Value) : List Value := posCs F R pp n cc bl ca pa ha fu ++ [.int .u64 occ, v]
def goneW (P : Pos) (m : Mv) : Nat := if P.F = 8 ∧ P.R = 8 then lostM m else 0
def tryC (P : Pos) (m : Mv) (cp at_ : Int) (k : Nat) : List Ret :=
 if clrN k (goneW P m) ≠ clrN P.ca.toNat (goneW P m) ∨ clrN P.ca.toNat k ≠ 0 then []
 else ((behL P.F P.R (befW P ⟨m, cp, at_, k, 0⟩).xs (!P.bl) (befW P ⟨m, cp, at_, k, 0⟩).ha).map (fun pa => (⟨m, cp, at_, k, pa⟩ : Ret))).filter (mayW P)
def tryK (P : Pos) (m : Mv) (cp at_ : Int) : Nat → List Ret
 | 0 => []
 | k + 1 => tryK P m cp at_ k ++ tryC P m cp at_ k
def tryL (P : Pos) (m : Mv) (cp at_ : Int) : List Ret := tryK P m cp at_ 16
end Go.Proofs.YtefmplccbkmalaaGreatDoor
namespace Go.Proofs.YtefmplccbkmalaaGreatDoor
open Go.RowKit

def capL (P : Pos) (m : Mv) : Nat → List Ret
 | 0 => []
 | k + 1 => capL P m k ++ tryL P m (pcI ((k + 1 : Nat) : Int) P.bl) m.tg
def pstL (sd : Bool) : List (Int × Int) := let d : Int := if sd then 1 else -1; [(0, d), (0, 2 * d), (-1, d), (1, d)]
def pwnC (P : Pos) (tg : Nat) (pr : Int) (x : Int × Int) : List Ret :=
 let a : Int := (tg % P.F : Nat) + x.1
 let b : Int := (tg / P.F : Nat) + x.2
 if onB P.F P.R a b = false then [] else
 if P.occ.testBit (a + b * P.F).toNat then [] else
 if x.1 = 0 then tryL P ⟨a + b * P.F, tg, pr⟩ 0 (-1) else
 capL P ⟨a + b * P.F, tg, pr⟩ 5 ++ (if P.occ.testBit ((tg % P.F : Nat) + b * P.F).toNat then [] else tryL P ⟨a + b * P.F, tg, pr⟩ (pcI 1 P.bl) ((tg % P.F : Nat) + b * P.F))
def pwnK (P : Pos) (tg : Nat) (pr : Int) : Nat → List Ret
 | 0 => []
 | k + 1 => pwnK P tg pr k ++ pwnC P tg pr ((pstL (!P.bl))[k]?.getD (0, 0))
def pieS (P : Pos) (tg : Nat) : Nat := reachW P.F P.R tg P.occ (kindI (P.at_ tg)) &&& (2 ^ 64 - 1 - P.occ)
def pieC (P : Pos) (tg fr : Nat) : List Ret := if 0 < P.ha then tryL P ⟨fr, tg, 0⟩ 0 (-1) else capL P ⟨fr, tg, 0⟩ 5
def pieK (P : Pos) (tg : Nat) : Nat → List Ret
 | 0 => []
 | k + 1 => pieK P tg k ++ pieC P tg ((bitsL (pieS P tg))[k]?.getD 0)
def casB (P : Pos) (tg : Nat) (c : Cas) : Bool := (decide (P.F = 8) && decide (P.R = 8)) && (decide (kindI (P.at_ tg) = 6) && (decide (tg = c.tg) && (decide (c.bl = !P.bl) && !P.occ.testBit c.fr)))
def casC (P : Pos) (tg : Nat) (c : Cas) : List Ret := if casB P tg c then tryL P ⟨c.fr, tg, 0⟩ 0 (-1) else []
def casK (P : Pos) (tg : Nat) : Nat → List Ret
 | 0 => []
 | k + 1 => casK P tg k ++ casC P tg (casL[k]?.getD ⟨0, false, 0, 0, 0, 0⟩)
def pieL (P : Pos) (tg : Nat) : List Ret := pieK P tg (bitsL (pieS P tg)).length ++ casK P tg 4
def skC (P : Pos) (tg : Nat) : List Ret :=
 if kindI (P.at_ tg) = 1 then pwnK P tg 0 4 else
 pieL P tg ++ (if kindI (P.at_ tg) ≠ 6 ∧ tg / P.F = (if P.bl then P.R - 1 else 0) then pwnK P tg (kindI (P.at_ tg)) 4 else [])
def ownS (P : Pos) : Nat := setW (if P.bl then gPos else gNeg) P.xs P.xs.length
def skK (P : Pos) : Nat → List Ret
 | 0 => []
 | k + 1 => skK P k ++ skC P ((bitsL (ownS P))[k]?.getD 0)
def skL (P : Pos) : List Ret := skK P (bitsL (ownS P)).length

theorem tryC_len (P : Pos) (m : Mv) (cp a : Int) (k : Nat) (hF : P.F ≤ 8) : (tryC P m cp a k).length ≤ 9 := by
 unfold tryC
 split
 ·simp
 ·refine Nat.le_trans (List.length_filter_le _ _) ?_
  rw [List.length_map]
  unfold behL
  split
  ·simp
  ·exact Nat.le_trans (bhL_len _ _ _ _ _ _) (by omega)
theorem tryK_len (P : Pos) (m : Mv) (cp a : Int) (hF : P.F ≤ 8) : ∀ k, (tryK P m cp a k).length ≤ 9 * k := by
 intro k
 induction k with
 | zero => simp [tryK]
 | succ k ih =>
  have := tryC_len P m cp a k hF
  simp only [tryK, List.length_append]; omega
theorem tryL_len (P : Pos) (m : Mv) (cp a : Int) (hF : P.F ≤ 8) : (tryL P m cp a).length ≤ 144 := tryK_len P m cp a hF 16
theorem capL_len (P : Pos) (m : Mv) (hF : P.F ≤ 8) : ∀ k, (capL P m k).length ≤ 144 * k := by
 intro k
 induction k with
 | zero => simp [capL]
 | succ k ih =>
  have := tryL_len P m (pcI ((k + 1 : Nat) : Int) P.bl) m.tg hF
  simp only [capL, List.length_append]; omega
theorem pwnC_len (P : Pos) (tg : Nat) (pr : Int) (x : Int × Int) (hF : P.F ≤ 8) : (pwnC P tg pr x).length ≤ 864 := by
 unfold pwnC
 simp only
 split
 ·simp
 split
 ·simp
 split
 ·exact Nat.le_trans (tryL_len _ _ _ _ hF) (by omega)
 ·rw [List.length_append]
  refine Nat.le_trans (Nat.add_le_add (d := 144) (capL_len _ _ hF 5) ?_) (by omega)
  split
  ·simp
  ·exact tryL_len _ _ _ _ hF
theorem pwnK_len (P : Pos) (tg : Nat) (pr : Int) (hF : P.F ≤ 8) : ∀ k, (pwnK P tg pr k).length ≤ 864 * k := by
 intro k
 induction k with
 | zero => simp [pwnK]
 | succ k ih =>
  have := pwnC_len P tg pr ((pstL (!P.bl))[k]?.getD (0, 0)) hF
  simp only [pwnK, List.length_append]; omega
theorem pieC_len (P : Pos) (tg fr : Nat) (hF : P.F ≤ 8) : (pieC P tg fr).length ≤ 720 := by
 unfold pieC
 split
 ·exact Nat.le_trans (tryL_len _ _ _ _ hF) (by omega)
 ·exact capL_len _ _ hF 5
theorem pieK_len (P : Pos) (tg : Nat) (hF : P.F ≤ 8) : ∀ k, (pieK P tg k).length ≤ 720 * k := by
 intro k
 induction k with
 | zero => simp [pieK]
 | succ k ih =>
  have := pieC_len P tg ((bitsL (pieS P tg))[k]?.getD 0) hF
  simp only [pieK, List.length_append]; omega
theorem casK_len (P : Pos) (tg : Nat) (hF : P.F ≤ 8) : ∀ k, (casK P tg k).length ≤ 144 * k := by
 intro k
 induction k with
 | zero => simp [casK]
 | succ k ih =>
  have : (casC P tg (casL[k]?.getD ⟨0, false, 0, 0, 0, 0⟩)).length ≤ 144 := by
   unfold casC
   split
   ·exact tryL_len _ _ _ _ hF
   ·simp
  simp only [casK, List.length_append]; omega
theorem bitsL_len (S : Nat) : (bitsL S).length ≤ 64 := Nat.le_trans (List.length_filter_le _ _) (by simp)
theorem pieL_len (P : Pos) (tg : Nat) (hF : P.F ≤ 8) : (pieL P tg).length ≤ 46656 := by
 have h1 := pieK_len P tg hF (bitsL (pieS P tg)).length
 have h2 := bitsL_len (pieS P tg)
 have h3 := casK_len P tg hF 4
 unfold pieL
 rw [List.length_append]; omega
theorem ite_len2 (c : Prop) [Decidable c] (l : List Ret) (n : Nat) (h : l.length ≤ n) : (if c then l else []).length ≤ n := by
 split
 ·exact h
 ·simp
theorem skC_len (P : Pos) (tg : Nat) (hF : P.F ≤ 8) : (skC P tg).length ≤ 51000 := by
 have h0 := pwnK_len P tg 0 hF 4
 have h1 := pieL_len P tg hF
 have h2 := pwnK_len P tg (kindI (P.at_ tg)) hF 4
 unfold skC
 by_cases h : kindI (P.at_ tg) = 1
 ·rw [if_pos h]; exact Nat.le_trans h0 (by omega)
 ·rw [if_neg h, List.length_append]
  exact Nat.le_trans (Nat.add_le_add h1 (ite_len2 _ _ _ h2)) (by omega)
theorem skK_len (P : Pos) (hF : P.F ≤ 8) : ∀ k, (skK P k).length ≤ 51000 * k := by
 intro k
 induction k with
 | zero => simp [skK]
 | succ k ih =>
  have := skC_len P ((bitsL (ownS P))[k]?.getD 0) hF
  simp only [skK, List.length_append]; omega
theorem skL_len (P : Pos) (hF : P.F ≤ 8) : (skL P).length ≤ 3264000 := by
 have h1 := skK_len P hF (bitsL (ownS P)).length
 have h2 := bitsL_len (ownS P)
 unfold skL
 omega
end Go.Proofs.YtefmplccbkmalaaGreatDoor
