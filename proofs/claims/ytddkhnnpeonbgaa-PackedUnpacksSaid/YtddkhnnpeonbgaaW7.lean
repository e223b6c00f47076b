import Derived.Test.YtddkhnnpeonbgaaW5
import Derived.Test.YtddkhnnpeonbgaaK2
namespace Go.Proofs.Ytddkhnnpeonbgaa
open Go.RowKit

def g5 (a b c d e : Int) (j : Nat) : Int := match j with | 0 => a | 1 => b | 2 => c | 3 => d | _ => e
theorem g5_sw (m : Men) : g5 m.w0 m.w1 m.w2 m.w3 m.w4 = m.sw := rfl
theorem g5_sb (m : Men) : g5 m.b0 m.b1 m.b2 m.b3 m.b4 = m.sb := rfl

theorem side5 (a b c d e : Int) (hg : Hid (∀ j, j < 5 → 0 ≤ g5 a b c d e j ∧ g5 a b c d e j ≤ 4)) (w : World) : Calls Try.prog 44 #[.agg #[.int .i64 a, .int .i64 b, .int .i64 c, .int .i64 d, .int .i64 e]] w fun e' w' => e' = .returned (.string (str (sideL (g5 a b c d e)))) ∧ Below w.heap.size w w' :=
  side_any2 (g5 a b c d e) hg.out w

def Men12 (w : World) (B : Nat) (m : Men) : Prop :=
  w.cell? ⟨B, 0, none⟩ = some (.int .i64 m.f) ∧ w.cell? ⟨B, 1, none⟩ = some (.int .i64 m.r) ∧
  w.cell? ⟨B, 2, none⟩ = some (.int .i64 m.w0) ∧ w.cell? ⟨B, 3, none⟩ = some (.int .i64 m.w1) ∧ w.cell? ⟨B, 4, none⟩ = some (.int .i64 m.w2) ∧ w.cell? ⟨B, 5, none⟩ = some (.int .i64 m.w3) ∧ w.cell? ⟨B, 6, none⟩ = some (.int .i64 m.w4) ∧
  w.cell? ⟨B, 7, none⟩ = some (.int .i64 m.b0) ∧ w.cell? ⟨B, 8, none⟩ = some (.int .i64 m.b1) ∧ w.cell? ⟨B, 9, none⟩ = some (.int .i64 m.b2) ∧ w.cell? ⟨B, 10, none⟩ = some (.int .i64 m.b3) ∧ w.cell? ⟨B, 11, none⟩ = some (.int .i64 m.b4)

/-- one local block beside what was there -/
def Loc (w0 : World) (B : Nat) (o : Obj) (W : World) : Prop := Below w0.heap.size w0 W ∧ HasO W B o
theorem Loc.call {w0 W w' : World} {B : Nat} {o : Obj} (h : Loc w0 B o W) (hb : Below W.heap.size W w') : Loc w0 B o w' := ⟨below_call h.1 h.1.size hb, h.2.call hb⟩
theorem Loc.drew {w0 W : World} {B : Nat} {o : Obj} (h : Loc w0 B o W) : Loc w0 B o W.drew := ⟨h.1.drew, h.2⟩
theorem Loc.drewN {w0 W : World} {B : Nat} {o : Obj} (h : Loc w0 B o W) (n : Nat) : Loc w0 B o (W.drewN n) := ⟨below_drewN h.1 n, h.2⟩
theorem Loc.alloc {w0 W : World} {B : Nat} {o : Obj} (h : Loc w0 B o W) (o' : Obj) : Loc w0 B o (W.alloc o') := ⟨h.1.alloc h.1.size o', h.2.alloc o'⟩
theorem Loc.new (w : World) (o : Obj) : Loc w w.heap.size o (w.alloc o) := ⟨below_box w o, HasO.new w o⟩

theorem men12_of {w : World} {B : Nat} {m : Men} (h : HasO w B (.cells m.cs.toArray 26 (0, 0))) : Men12 w B m :=
  ⟨h.cells 0, h.cells 1, h.cells 2, h.cells 3, h.cells 4, h.cells 5, h.cells 6, h.cells 7, h.cells 8, h.cells 9, h.cells 10, h.cells 11⟩

theorem load_bytes {W : World} {q : Nat} {cs : Array Value} {t : TypeId} (ns : List Int) (h : HasO W q (.cells cs t (0, 0))) (hc : cs = (ns.map (Value.int .u8)).toArray) (P : Program) : (loadCells ⟨q, 0, none⟩ ns.length).run P W = .ok (ns.map (Value.int .u8)).toArray W := by
  subst hc
  have := run_loadCells_list (P := P) (w := W) ⟨q, 0, none⟩ (ns.map (Value.int .u8)) (fun j v hv => by
    rw [Addr.add_lit, Nat.zero_add, h.cells j]; simpa using hv)
  simpa using this
theorem foldl_str (ns : List Int) : ns.foldl (fun r n => r.push (UInt8.ofNat n.toNat)) ByteArray.empty = str (ns.map fun n => UInt8.ofNat n.toNat) := by
  have h : ∀ (ns : List Int) (a : List UInt8), ns.foldl (fun r n => r.push (UInt8.ofNat n.toNat)) (str a) = str (a ++ ns.map fun n => UInt8.ofNat n.toNat) := by
    intro ns
    induction ns with
    | nil => intro a; simp
    | cons n ns ih =>
      intro a
      have e : (str a).push (UInt8.ofNat n.toNat) = str (a ++ [UInt8.ofNat n.toNat]) := by simp [str, ByteArray.push]
      simp only [List.foldl_cons, e, ih, List.map_cons, List.append_assoc, List.singleton_append]
  exact h ns []
theorem conv_bytes {W : World} {q : Nat} {cs : Array Value} {t : TypeId} (ns : List Int) (h : HasO W q (.cells cs t (0, 0))) (hc : cs = (ns.map (Value.int .u8)).toArray) (n c : Nat) (hn : n = ns.length) :
    (convert 31 9 (.slice (some ⟨q, 0, none⟩) n c)).run Try.prog W = .ok (.string (str (ns.map fun n => UInt8.ofNat n.toNat))) W := by
  subst hn
  rw [run_convert_bytes_string W 31 9 5 _ _ _ Try.underlying31 Try.underlying5 Try.underlying9, run_bytesToString W _ _ _ ns (load_bytes ns h hc _), foldl_str]

theorem u8_in {n : Int} (h0 : 0 ≤ n) (h1 : n < 256) : IntKind.u8.wrap n = n := by
  have e : ((2 : Int) ^ IntKind.u8.bits) = 256 := by decide
  have e2 : IntKind.u8.signed = false := rfl
  simp [IntKind.wrap, e, e2]
  omega
theorem conv4 {W : World} {q : Nat} {x y z t : Int} (h : HasO W q (.cells #[.int .u8 x, .int .u8 y, .int .u8 z, .int .u8 t] 5 (0, 0))) :
    (convert 31 9 (.slice (some ⟨q, 0, none⟩) 4 4)).run Try.prog W = .ok (.string (str [UInt8.ofNat x.toNat, UInt8.ofNat y.toNat, UInt8.ofNat z.toNat, UInt8.ofNat t.toNat])) W :=
  conv_bytes [x, y, z, t] h rfl _ _ rfl
abbrev textHd (m : Men) : List Value := [.int .u8 (48 + m.f), .int .u8 120, .int .u8 (48 + m.r), .int .u8 32]
def refTextW (m : Men) (B : Nat) : Nat → Value → World → Prop
  | 0, v, _ => v = .pointer (some ⟨B, 0, none⟩)
  | 1, v, _ => v = .pointer (some ⟨B, 0, none⟩)
  | 2, v, _ => v = .int .i64 m.f
  | 3, v, _ => v = .int .i64 (48 + m.f)
  | 4, v, _ => v = .int .u8 (48 + m.f)
  | 5, v, _ => v = .pointer (some ⟨B, 0, none⟩)
  | 6, v, _ => v = .pointer (some ⟨B, 1, none⟩)
  | 7, v, _ => v = .int .i64 m.r
  | 8, v, _ => v = .int .i64 (48 + m.r)
  | 9, v, _ => v = .int .u8 (48 + m.r)
  | 10, v, w => ∃ q, v = .slice (some ⟨q, 0, none⟩) 4 4 ∧ HasO w q (.cells (textHd m).toArray 5 (0, 0))
  | 11, v, _ => v = .string (str [UInt8.ofNat (48 + m.f).toNat, 120, UInt8.ofNat (48 + m.r).toNat, 32])
  | 12, v, _ => v = .pointer (some ⟨B, 2, none⟩)
  | 13, v, _ => v = .agg #[.int .i64 m.w0, .int .i64 m.w1, .int .i64 m.w2, .int .i64 m.w3, .int .i64 m.w4]
  | 14, v, _ => v = .string (str (sideL m.sw))
  | 15, v, _ => v = .string (str [UInt8.ofNat (48 + m.f).toNat, 120, UInt8.ofNat (48 + m.r).toNat, 32] ++ str (sideL m.sw))
  | 16, v, _ => v = .pointer (some ⟨B, 7, none⟩)
  | 17, v, _ => v = .agg #[.int .i64 m.b0, .int .i64 m.b1, .int .i64 m.b2, .int .i64 m.b3, .int .i64 m.b4]
  | 18, v, _ => v = .string (str (sideL m.sb))
  | 19, v, _ => v = .string (str [UInt8.ofNat (48 + m.f).toNat, 120, UInt8.ofNat (48 + m.r).toNat, 32] ++ str (sideL m.sw) ++ str (sideL m.sb))
  | 20, v, _ => v = .string (str [UInt8.ofNat (48 + m.f).toNat, 120, UInt8.ofNat (48 + m.r).toNat, 32] ++ str (sideL m.sw) ++ str (sideL m.sb))
  | _, _, _ => True

set_option maxRecDepth 100000 in
set_option maxHeartbeats 800000 in
theorem refText_any (m : Men) (w : World) (hm : Hid (validB m = true)) : Calls Try.prog 23 #[.agg m.cs.toArray] w fun e w' => e = .returned (.string (str (textL m))) ∧ Below w.heap.size w w' := by
  have hg1 : Hid (∀ j, j < 5 → 0 ≤ g5 m.w0 m.w1 m.w2 m.w3 m.w4 j ∧ g5 m.w0 m.w1 m.w2 m.w3 m.w4 j ≤ 4) := fun j hj => by
    have := menOk_at (validB_ok hm.out) hj; rw [g5_sw]; omega
  have hg2 : Hid (∀ j, j < 5 → 0 ≤ g5 m.b0 m.b1 m.b2 m.b3 m.b4 j ∧ g5 m.b0 m.b1 m.b2 m.b3 m.b4 j ≤ 4) := fun j hj => by
    have := menOk_at (validB_ok hm.out) hj; rw [g5_sb]; omega
  have hs := validB_size hm.out
  have hz1 : (str (sideL m.sw)).size ≤ 21 := by
    have := sideN_len (j := 5) hg1.out (Nat.le_refl _); rw [str_size]; exact this
  have hz2 : (str (sideL m.sb)).size ≤ 21 := by
    have := sideN_len (j := 5) hg2.out (Nat.le_refl _); rw [str_size]; exact this
  have hz4 : ∀ a b c d, (str [a, b, c, d]).size = 4 := fun a b c d => by rw [str_size]; rfl
  have hall := Loc.new w (.cells m.cs.toArray 26)
  go_enter Try.func23, Try.ntmps23
  go_wp2_with fail
  generalize w.alloc (.cells m.cs.toArray 26) = wq at *
  refine wp_region_ag (by kernel_rfl) (by kernel_rfl) (fun f => { tmps := #[.agg m.cs.toArray, .pointer (some ⟨w.heap.size, 0, none⟩), f 20, f 0, f 1, f 2, f 3, f 4, f 5, f 6, f 7, f 8, f 9, f 10, f 11, f 12, f 13, f 14, f 15, f 16, f 17, f 18, f 19], defers := [] })
    (fun i => if i = 20 then .string { data := #[] } else undef) rfl ?hfr (Loc w w.heap.size (.cells m.cs.toArray 26)) (fun a b => Below a.heap.size a b) (refTextW m w.heap.size) ?hstab hall.drew ?hstep ?hend
  case hfr =>
    intro i hi f u
    have hi : i < 21 := hi
    rcases (by omega : i = 0 ∨ i = 1 ∨ i = 2 ∨ i = 3 ∨ i = 4 ∨ i = 5 ∨ i = 6 ∨ i = 7 ∨ i = 8 ∨ i = 9 ∨ i = 10 ∨ i = 11 ∨ i = 12 ∨ i = 13 ∨ i = 14 ∨ i = 15 ∨ i = 16 ∨ i = 17 ∨ i = 18 ∨ i = 19 ∨ i = 20) with rfl | rfl | rfl | rfl | rfl | rfl | rfl | rfl | rfl | rfl | rfl | rfl | rfl | rfl | rfl | rfl | rfl | rfl | rfl | rfl | rfl <;> rfl
  case hstab =>
    intro i v w1 w2 hC hle h
    by_cases e : i = 10
    · subst e
      obtain ⟨q, h1, h2⟩ := h
      exact ⟨q, h1, h2.call hle⟩
    · unfold refTextW at h ⊢
      split at h <;> first | exact h | (exfalso; exact e rfl) | simp_all
  case hend =>
    intro f w1 hC hW
    have h20 : f 20 = _ := hW 20 (by decide)
    rw [h20]
    go_wp2_with fail
    go_ret
    refine ⟨ret_v ?_, hC.1⟩
    show Value.string _ = _
    rw [str_append, str_append, textL, List.append_assoc, Int.toNat_add (by omega) (by omega), Int.toNat_add (by omega) (by omega)]
    rfl
  case hstep =>
    have e1 : IntKind.i64.wrap (48 + m.f) = 48 + m.f := IntWalk.i64_in _ (by omega)
    have e2 : IntKind.i64.wrap (48 + m.r) = 48 + m.r := IntWalk.i64_in _ (by omega)
    have e3 : IntKind.u8.wrap (48 + m.f) = 48 + m.f := u8_in (by omega) (by omega)
    have e4 : IntKind.u8.wrap (48 + m.r) = 48 + m.r := u8_in (by omega) (by omega)
    have hb15 : ¬ 9223372036854775807 < 4 + (str (sideL m.sw)).size := by omega
    have hb19 : ¬ 9223372036854775807 < 4 + (str (sideL m.sw)).size + (str (sideL m.sb)).size := by omega
    intro i o f w1 ho hi hC hpre K hK
    obtain ⟨c0, c1, c2, c3, c4, c5, c6, c7, c8, c9, c10, c11⟩ := men12_of hC.2
    have hi : i < 21 := hi
    rcases (by omega : i = 0 ∨ i = 1 ∨ i = 2 ∨ i = 3 ∨ i = 4 ∨ i = 5 ∨ i = 6 ∨ i = 7 ∨ i = 8 ∨ i = 9 ∨ i = 10 ∨ i = 11 ∨ i = 12 ∨ i = 13 ∨ i = 14 ∨ i = 15 ∨ i = 16 ∨ i = 17 ∨ i = 18 ∨ i = 19 ∨ i = 20) with rfl | rfl | rfl | rfl | rfl | rfl | rfl | rfl | rfl | rfl | rfl | rfl | rfl | rfl | rfl | rfl | rfl | rfl | rfl | rfl | rfl
    all_goals (injection ho with ho; subst ho; simp [refTextW, Region.binds] at hpre)
    case' inr.inr.inr.inr.inr.inr.inr.inr.inr.inr.inr.inl => obtain ⟨q, hq1, hq2⟩ := hpre; have hcv := conv4 hq2; simp only [hq1] at hK
    all_goals (try simp only [hpre] at hK)
    all_goals go_simp
    all_goals (first | exact hK _ _ hC (Below.refl _ _) rfl | skip)
    case inr.inr.inr.inr.inr.inr.inr.inr.inr.inr.inl => exact hK _ _ (hC.alloc _) (below_box _ _) ⟨_, rfl, HasO.new _ _⟩
    case inr.inr.inr.inr.inr.inr.inr.inr.inr.inr.inr.inr.inr.inr.inl =>
      refine (side5 _ _ _ _ _ hg1 _).mono ?_
      rintro e w' ⟨rfl, hb⟩
      exact hK _ _ (hC.call hb) hb rfl
    case inr.inr.inr.inr.inr.inr.inr.inr.inr.inr.inr.inr.inr.inr.inr.inr.inr.inr.inl =>
      refine (side5 _ _ _ _ _ hg2 _).mono ?_
      rintro e w' ⟨rfl, hb⟩
      exact hK _ _ (hC.call hb) hb rfl
end Go.Proofs.Ytddkhnnpeonbgaa
