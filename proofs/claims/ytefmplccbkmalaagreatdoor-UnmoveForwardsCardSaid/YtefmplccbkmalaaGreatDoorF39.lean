import Derived.Test.YtefmplccbkmalaaGreatDoorF34
import Derived.Test.YtefmplccbkmalaaGreatDoorF38
import Derived.Sort.QuietTacIn
import Derived.Lib.QuietBelow
set_option maxHeartbeats 12800000
namespace Go.Proofs.YtefmplccbkmalaaGreatDoor
open Go.RowKit Go.Sort Go.BigFrame

theorem pieS_lt (P : Pos) (tg : Nat) : pieS P tg < 2 ^ (P.F * P.R) := Nat.lt_of_le_of_lt Nat.and_le_left (reachW_lt _)
theorem bitsL_lt {S n k : Nat} (h : S < 2 ^ n) (hk : k < (bitsL S).length) : (bitsL S)[k]?.getD 0 < n := by
 rw [List.getElem?_eq_getElem hk, Option.getD_some]
 have h1 := (bits_mem.1 (List.getElem_mem hk)).2
 rcases Nat.lt_or_ge ((bitsL S)[k]) n with h2 | h2
 ·exact h2
 ·rw [Nat.testBit_lt_two_pow (Nat.lt_of_lt_of_le h (Nat.pow_le_pow_right (by decide) h2))] at h1
  cases h1
set_option maxRecDepth 100000 in
theorem pieS_any (F R : Nat) (xs : List Int) (bl : Bool) (can : Nat) (pa ha fu : Int) (pp : Option Addr) (cc occ : Nat) (hH : PosH F R xs can ha fu) (hocc : occ = (⟨F, R, xs, bl, can, pa, ha, fu⟩ : Pos).occ) (ho64 : occ < 2 ^ (F * R)) (base qs : Nat) (v : Value) (L : List Ret) (hl : L.length ≤ 899800000) (tg : Nat) (htg : tg < xs.length) (hk26 : 2 ≤ kindI ((⟨F, R, xs, bl, can, pa, ha, fu⟩ : Pos).at_ tg) ∧ kindI ((⟨F, R, xs, bl, can, pa, ha, fu⟩ : Pos).at_ tg) ≤ 6) (w : World) (hS : Sea base qs F R xs bl can pa ha fu pp cc occ v L w) :
  Calls Tryz.prog 32 #[.pointer (some ⟨qs, 0, none⟩), .int .i64 tg] w (SeaR base qs F R xs bl can pa ha fu pp cc occ v (L ++ pieL ⟨F, R, xs, bl, can, pa, ha, fu⟩ tg) w) := by
 obtain ⟨g, o, rfl, hgw⟩ := arr_at hS.st.x htg
 obtain ⟨Rs, hRs⟩ : ∃ Rs, Rs = SeaR base qs F R xs bl can pa ha fu (some ⟨g, o, none⟩) cc occ v (L ++ pieL ⟨F, R, xs, bl, can, pa, ha, fu⟩ tg) w := ⟨_, rfl⟩
 rw [← hRs]
 have hFR : F * R ≤ 64 := Nat.mul_le_mul hH.hF.2 hH.hR.2
 have ho64' : occ < 2 ^ 64 := Nat.lt_of_lt_of_le ho64 (Nat.pow_le_pow_right (by decide) hFR)
 have hSlt := pieS_lt ⟨F, R, xs, bl, can, pa, ha, fu⟩ tg
 have hS64 : pieS ⟨F, R, xs, bl, can, pa, ha, fu⟩ tg < 18446744073709551616 := Nat.lt_of_lt_of_le hSlt (Nat.pow_le_pow_right (by decide) hFR)
 have hSdef : pieS ⟨F, R, xs, bl, can, pa, ha, fu⟩ tg = reachW F R tg occ (kindI ((⟨F, R, xs, bl, can, pa, ha, fu⟩ : Pos).at_ tg)) &&& (2 ^ 64 - 1 - occ) := by rw [hocc]; rfl
 have hrlt : reachW F R tg occ (kindI ((⟨F, R, xs, bl, can, pa, ha, fu⟩ : Pos).at_ tg)) < 2 ^ 64 := Nat.lt_of_lt_of_le (reachW_lt _) (Nat.pow_le_pow_right (by decide) hFR)
 have hpl : pieL ⟨F, R, xs, bl, can, pa, ha, fu⟩ tg = pieK ⟨F, R, xs, bl, can, pa, ha, fu⟩ tg (bitsL (pieS ⟨F, R, xs, bl, can, pa, ha, fu⟩ tg)).length ++ casK ⟨F, R, xs, bl, can, pa, ha, fu⟩ tg 4 := rfl
 have hpk : ∀ k, pieK ⟨F, R, xs, bl, can, pa, ha, fu⟩ tg (k + 1) = pieK ⟨F, R, xs, bl, can, pa, ha, fu⟩ tg k ++ pieC ⟨F, R, xs, bl, can, pa, ha, fu⟩ tg ((bitsL (pieS ⟨F, R, xs, bl, can, pa, ha, fu⟩ tg))[k]?.getD 0) := fun k => rfl
 have hp0 : pieK ⟨F, R, xs, bl, can, pa, ha, fu⟩ tg 0 = [] := rfl
 have hpn : ∀ k, (pieK ⟨F, R, xs, bl, can, pa, ha, fu⟩ tg k).length ≤ 720 * k := fun k => pieK_len _ _ hH.hF.2 k
 have hbl := bitsL_len (pieS ⟨F, R, xs, bl, can, pa, ha, fu⟩ tg)
 have hblt := fun k h => bitsL_lt (k := k) hSlt h
 have hat : (⟨F, R, xs, bl, can, pa, ha, fu⟩ : Pos).at_ tg = xs[tg]?.getD 0 := by unfold Pos.at_; rw [Int.toNat_natCast]
 have hx6 := hH.h6 (xs[tg]?.getD 0) (by rw [List.getElem?_eq_getElem htg]; exact List.getElem_mem htg)
 obtain ⟨kk, hkk⟩ : ∃ kk, kk = kindI ((⟨F, R, xs, bl, can, pa, ha, fu⟩ : Pos).at_ tg) := ⟨_, rfl⟩
 have hki : ∀ W, Calls Tryz.prog 30 #[.int .i8 (xs[tg]?.getD 0)] W fun e w' => e = .returned (.int .i8 kk) ∧ W = w' := fun W => by
  rw [hkk, hat]; exact kind30_any _ (by omega) W
 have hre := fun W (hg : GlobOk W) => reach_any F R tg occ kk (by rw [hkk]; exact hk26) hH.hF hH.hR (by rw [← hH.len]; exact htg) ho64 W hg
 rw [← hkk] at hSdef hrlt
 have hand := and64 hrlt ho64'
 rw [← hSdef] at hand
 have hti : (tg : Int) < xs.length := by omega
 have hq2 : w.heap.size < (w.alloc (.cells #[.pointer (some ⟨qs, 0, none⟩)] 69)).heap.size := by simp
 obtain ⟨W1, hW1⟩ : ∃ W1, W1 = (w.alloc (.cells #[.pointer (some ⟨qs, 0, none⟩)] 69)).alloc (.cells #[.int .i64 tg] 3) := ⟨_, rfl⟩
 have hB : RowKit.Below w.heap.size w W1 := by
  subst hW1
  exact (below_box w _).alloc (by simp) _
 have hM2 : HasO W1 w.heap.size (.cells #[.pointer (some ⟨qs, 0, none⟩)] 69 (0, 0)) := by
  subst hW1
  exact (HasO.new w _).alloc _
 have hM3 : HasO W1 (w.heap.size + 1) (.cells #[.int .i64 tg] 3 (0, 0)) := by
  subst hW1
  exact HasO.new' _ _ (by simp)
 have hqs := hS.s.lt
 have hS1 := hS.call hB
 have hN1 : Nib qs w W1 v v := Nib.of_below qs hB v
 have hc1 := hgw
 rw [← hB.cell (p := ⟨g, o + tg, none⟩) (block_lt_of_cell hgw)] at hc1
 generalize hx : xs[tg]?.getD 0 = x at *
 generalize pieS ⟨F, R, xs, bl, can, pa, ha, fu⟩ tg = S at *
 generalize reachW F R tg occ kk = RS at *
 replace hx := Lib.hid hx
 replace hRs := Lib.hid hRs
 replace hocc := Lib.hid hocc
 replace hkk := Lib.hid hkk
 replace hSdef := Lib.hid hSdef
 replace hat := Lib.hid hat
 replace hW1 := Lib.hid hW1
 replace hpl := Lib.hid hpl
 refine (callsIn_wide (n := 3)).1 ?_
 refine callsIn_of_wp_marks Tryz.func32 rfl trivial ?_ rfl
 simp only [Tryz.ntmps32, List.size_toArray, List.length_cons, List.length_nil, Nat.reduceAdd, Nat.reduceSub, Array.replicate_succ, Array.replicate_zero, List.push_toArray, List.append_toArray, List.nil_append, List.cons_append]
 rw [wpIn_wide]
 go_upto_region 1 with fail
 change Code.wp _ _ _ _ ((w.alloc (.cells #[.pointer (some ⟨qs, 0, none⟩)] 69)).alloc (.cells #[.int .i64 tg] 3))
 rw [← hW1.out]
 obtain ⟨q2, hq2e⟩ : ∃ q2, q2 = w.heap.size := ⟨_, rfl⟩
 rw [← hq2e] at hM2 hM3 ⊢
 replace hq2e := Lib.hid hq2e
 have p0 : ∀ d os j, (grow (redrawn W1 d) os).cell? ⟨qs, j, none⟩ = (#[.int .i64 F, .int .i64 R, .slice (some ⟨g, o, none⟩) xs.length cc, .bool bl, .int .u8 can, .int .i64 pa, .int .i64 ha, .int .i64 fu, .int .u64 occ, v] : Array Value)[j]? := row_gr hS1.s
 have b2 := cell_regrown ((hM2.cells 0).trans (show _ = some (Value.pointer (some ⟨qs, 0, none⟩)) from rfl))
 have b3 := cell_regrown ((hM3.cells 0).trans (show _ = some (Value.int .i64 tg) from rfl))
 have bx := cell_regrown hc1
 have t1 := call_eq (w := W1) hki
 refine wp_region_all (by kernel_rfl) (by kernel_rfl) ?_
 repeat (go_big_quiet_step (first | with_reducible exact t1 _ _ | fail))
 refine wpQuiet_nil ?_
 intro W2 hb2
 have hS2 := hS1.call hb2
 have hN2 := hN1.trans (Nib.of_below qs hb2 v)
 have hM22 := hM2.call hb2
 have hM32 := hM3.call hb2
 clear p0 b2 b3 bx t1 hki hc1 hgw hS1 hN1 hM2 hM3 hb2
 go_upto_region 2 with fail
 have p0 : ∀ d os j, (grow (redrawn W2 d) os).cell? ⟨qs, j, none⟩ = (#[.int .i64 F, .int .i64 R, .slice (some ⟨g, o, none⟩) xs.length cc, .bool bl, .int .u8 can, .int .i64 pa, .int .i64 ha, .int .i64 fu, .int .u64 occ, v] : Array Value)[j]? := row_gr hS2.s
 have b2 := cell_regrown ((hM22.cells 0).trans (show _ = some (Value.pointer (some ⟨qs, 0, none⟩)) from rfl))
 have b3 := cell_regrown ((hM32.cells 0).trans (show _ = some (Value.int .i64 tg) from rfl))
 have t1 := call_gr (w := W2) (fun W h => hre W (hS2.st.g.call h).1)
 refine wp_region_all (by kernel_rfl) (by kernel_rfl) ?_
 repeat (go_big_quiet_step (first | with_reducible exact t1 _ _ | fail))
 refine wpQuiet_nil ?_
 intro W3 hb3
 have hS3 := hS2.call hb3
 have hN3 := hN2.trans (Nib.of_below qs hb3 v)
 have hM23 := hM22.call hb3
 have hM33 := hM32.call hb3
 clear p0 b2 b3 t1 hre hS2 hN2 hM22 hM32 hb3
 go_upto_region 3 with fail
 rename_i k0 hk0 k1 hk1
 replace hk0 := Lib.hid hk0
 have p0 : ∀ j, W3.cell? ⟨qs, j, none⟩ = (#[.int .i64 F, .int .i64 R, .slice (some ⟨g, o, none⟩) xs.length cc, .bool bl, .int .u8 can, .int .i64 pa, .int .i64 ha, .int .i64 fu, .int .u64 occ, v] : Array Value)[j]? := hS3.s.cells
 have b2 := hM23.cells 0
 have l0 := hS3.s.lt
 have l2 := hM23.lt
 go_wp2_with fail
 refine (each_any S W3).mono ?_
 rintro e W4 ⟨rfl, hE4, hb4, hz4⟩
 have hS4 := hS3.call hb4
 have hN4 := hN3.trans (Nib.of_below qs hb4 v)
 have hM24 := hM23.call hb4
 have hM34 := hM33.call hb4
 have hlM := hM23.lt
 have hlM3 := hM33.lt
 obtain ⟨q1, hq1⟩ : ∃ q, q = W3.heap.size := ⟨_, rfl⟩
 rw [← hq1] at hE4 hz4 l0 hlM hlM3 ⊢
 replace hq1 := Lib.hid hq1
 replace hz4 := Lib.hid hz4
 obtain ⟨Bs, hBs⟩ : ∃ Bs : List (Nat × Obj), Bs = [(q2, .cells #[.pointer (some ⟨qs, 0, none⟩)] 69 (0, 0)), (q2 + 1, .cells #[.int .i64 tg] 3 (0, 0)), (q1, .cells #[.int .u64 S] 64 (0, 0))] := ⟨_, rfl⟩
 have hLd : ∀ x ∈ Bs, HasO W4 x.1 x.2 := by
  intro x hx
  rw [hBs] at hx
  simp only [List.mem_cons, List.not_mem_nil, or_false] at hx
  rcases hx with rfl | rfl | rfl
  ·exact hM24
  ·exact hM34
  ·exact hE4
 have hBD : ∀ x ∈ Bs, x.1 < W4.heap.size := fun x hx => (hLd x hx).lt
 have hBq : ∀ x ∈ Bs, x.1 ≠ qs := by
  have h1 := hq2e.out
  intro x hx
  rw [hBs] at hx
  simp only [List.mem_cons, List.not_mem_nil, or_false] at hx
  rcases hx with rfl | rfl | rfl
  ·show q2 ≠ qs; omega
  ·show q2 + 1 ≠ qs; omega
  ·show q1 ≠ qs; omega
 have hBt : ∀ x ∈ Bs, ∀ cs, x.2 ≠ .cells cs 42 (0, 0) := by
  intro x hx
  rw [hBs] at hx
  simp only [List.mem_cons, List.not_mem_nil, or_false] at hx
  rcases hx with rfl | rfl | rfl <;> intro cs h <;> (injection h with _ h; exact absurd h (by decide))
 have m2 : (q2, Obj.cells #[.pointer (some ⟨qs, 0, none⟩)] 69 (0, 0)) ∈ Bs := by rw [hBs]; simp
 have m3 : (q2 + 1, Obj.cells #[.int .i64 tg] 3 (0, 0)) ∈ Bs := by rw [hBs]; simp
 have m1 : (q1, Obj.cells #[.int .u64 S] 64 (0, 0)) ∈ Bs := by rw [hBs]; simp
 replace hBs := Lib.hid hBs
 have hw4 : w.heap.size ≤ W4.heap.size := hN4.size
 have hqW4 : qs < W4.heap.size := by have := hz4.out; omega
 have hbW4 : base ≤ W4.heap.size := hS4.st.b
 have hpkl : ∀ k, k ≤ 64 → (L ++ pieK ⟨F, R, xs, bl, can, pa, ha, fu⟩ tg k).length ≤ 899900000 := fun k hk => by rw [List.length_append]; have := hpn k; omega
 clear hS3 hN3 hM23 hM33 p0 b2 l2 hE4 hb4 hM24 hM34 hand hrlt
 go_wp2_with fail
 refine (wpIn_wide (n := 3)).1 ?_
 refine rangeFunc_law (gf := 86) (lb := #[.pointer (some ⟨q1, 0, none⟩)]) rfl (enters_of Tryz.func86 (by kernel_rfl) rfl) (each_seq q1 S hS64) (fun _ _ => rfl)
  (fun c k W => SeaI base qs F R xs bl can pa ha fu (some ⟨g, o, none⟩) cc occ v w Bs W4.heap.size c (L ++ pieK ⟨F, R, xs, bl, can, pa, ha, fu⟩ tg k) W) (fun _ _ _ _ => False) ?hst ?hstx ?hRd ?hsz ?hszx ?h0 ?hbody ?hdone ?hstop ?hpanic
 case hstx => intro _ _ _ _ _ _ h; exact h.elim
 case hszx => intro _ _ _ _ _ h; exact h.elim
 case hstop => intro _ _ _ _ _ _ h; exact h.elim
 case hpanic => intro _ _ _ _ _ h; exact h.elim
 case hsz => rintro c k W _ ⟨_, _, _, _, _, h⟩; exact h
 case hRd => rintro c k W _ ⟨_, h1, _, _, h2, _⟩; exact ⟨h2 _ m1, h1.st.t⟩
 case hst => intro c k W W' hc h ha2; exact h.alt ha2 (Nat.le_refl _) (Nat.le_refl _) hbW4 hqW4 hBD hw4
 case h0 =>
  intro c W hbW hcc hzW
  refine ⟨v, by rw [hp0, List.append_nil]; exact hS4.call hbW, hN4.trans (Nib.of_below qs hbW v), fun k e => ?_, fun x hx => (hLd x hx).call hbW, by omega⟩
  have := (hS4.o.lt k e).2
  omega
 case hbody =>
  rintro c k W hcc hk hI hT
  refine pieBody F R xs bl can pa ha fu (some ⟨g, o, none⟩) cc occ hH base qs q2 (q2 + 1) v w Bs tg htg W4.heap.size c k ((bitsL S)[k]?.getD 0) (by rw [hH.len]; exact hblt k hk) (fun i => L ++ pieK ⟨F, R, xs, bl, can, pa, ha, fu⟩ tg i) (by show L ++ pieK ⟨F, R, xs, bl, can, pa, ha, fu⟩ tg (k + 1) = _; rw [hpk, List.append_assoc]) (hpkl k (by omega)) m2 m3 hbW4 hqW4 hBD hw4 hcc hBq hBt _ ?_ W hI (_, _) rfl
  refine ⟨?_, ?_, ?_, ?_⟩
  all_goals first | rfl | (simp [ofA]; done) | kernel_rfl
 case hdone =>
  rintro c W hcc ⟨v5, hS5, hN5, hA5, hB5, hc5⟩ hD
  refine hk0.out _ _ ?_
  have hpll : ∀ L', L' ++ pieL ⟨F, R, xs, bl, can, pa, ha, fu⟩ tg = L' ++ pieK ⟨F, R, xs, bl, can, pa, ha, fu⟩ tg (bitsL S).length ++ casK ⟨F, R, xs, bl, can, pa, ha, fu⟩ tg 4 := fun L' => by rw [hpl.out, List.append_assoc]
  refine pieCas F R xs bl can pa ha fu (some ⟨g, o, none⟩) cc occ hH hocc.out ho64' base qs q2 (q2 + 1) v w ((W4.heap.size, .deferred (some [])) :: Bs) tg htg W4.heap.size kk hkk.out v5 (L ++ pieK ⟨F, R, xs, bl, can, pa, ha, fu⟩ tg (bitsL S).length) (by rw [List.length_append]; have := hpn (bitsL S).length; omega) (List.mem_cons_of_mem _ m2) (List.mem_cons_of_mem _ m3) List.mem_cons_self hbW4 hqW4 hw4
   (fun x hx => ?_) (fun x hx => ?_) _ ⟨rfl, rfl, rfl, rfl⟩ W hS5 hN5 (fun x hx => ?_) Rs (fun v' w' h1 h2 => ?_) _ rfl
  ·rcases List.mem_cons.1 hx with rfl | hx
   ·show W4.heap.size ≠ qs; omega
   ·exact hBq x hx
  ·rcases List.mem_cons.1 hx with rfl | hx
   ·intro cs h; cases h
   ·exact hBt x hx
  ·rcases List.mem_cons.1 hx with rfl | hx
   ·exact hD
   ·exact hB5 x hx
  ·rw [hRs.out]
   exact ⟨rfl, v', by rw [hpll]; exact h1, h2⟩
end Go.Proofs.YtefmplccbkmalaaGreatDoor
namespace Go.Proofs.YtefmplccbkmalaaGreatDoor
open Go Go.RowKit

def ndB (ops : Array Oper) : Bool := ops.toList.all fun o => match o.op with | .defer _ => false | _ => true
theorem ndB_spec {ops : Array Oper} (h : ndB ops = true) {i : Nat} {o : Oper} (ho : ops[i]? = some o) : ∀ c, o.op ≠ .defer c := by
 intro c e
 have h1 := List.all_eq_true.1 h o (by
  have := List.mem_of_getElem? (l := ops.toList) (i := i) (by rw [Array.getElem?_toList]; exact ho)
  exact this)
 rw [e] at h1
 cases h1
section
variable {F : Fence} {n : Nat} {P : Program} {ops : Array Oper} {C : World → Prop}
theorem oper_round {o : Oper} {a : Act} {K : Act → Prop} {K' : Act → World → Prop} {Q' : Exit → Act → World → Prop} {w : World} (hnd : ∀ c, o.op ≠ .defer c) (hw : C w) (h : ∀ a w', C w' → K a → K' a w')
  (ha : o.askedIn F P a C) (hh : o.quietIn F n P a C K) : o.wpIn F n P a w K' Q' := by
 obtain ⟨v, h1, h2⟩ := hh
 have h3 := h1 w hw
 unfold Oper.quietAtIn at h3
 unfold Oper.wpIn
 refine ⟨ha w hw, ?_⟩
 rw [Oper.semAt_eq F.round a.eval o hnd]
 revert h3
 rcases (execOp a.eval o).run P w with ⟨x, w'⟩ | ⟨x, w'⟩
 ·cases x <;> simp only [Oper.quietUponIn, Oper.uponIn] <;> intro h3
  case value u => rw [h3.1, h3.2]; exact h _ _ hw h2
  case skip => rw [h3.1, ← h3.2]; exact h _ _ hw h2
  case enter f args => rw [h3.1]; exact ⟨h3.2.1, h3.2.2.mono fun e w'' he => by rw [he.1]; exact h _ _ he.2 h2⟩
  all_goals exact h3.elim
 ·simp only [Oper.quietUponIn]
  exact fun h => h.elim
theorem any_round {Q : Act → Prop} {Q' : Exit → Act → World → Prop} (hnd : ndB ops = true) (hQ : ∀ a w, C w → Q a → Q' .normal a w) : ∀ (f : Nat) (listed : Array Bool) (a : Act) (w : World), C w →
  wpAnyQIn F n P .any ops C Q f listed a → wpAnyIn F n P .any ops Q' f listed a w := by
 intro f
 induction f with
 | zero => exact fun listed a w hw h => ⟨h.1, hQ _ _ hw h.2⟩
 | succ f ih =>
  intro listed a w hw h
  refine ⟨fun h0 => hQ _ _ hw (h.1 h0), fun i hi => ?_⟩
  have h2 := h.2 i hi
  unfold qOpIn at h2
  unfold wpOpIn
  rcases ho : ops[i]? with _ | o
  ·simp only [ho] at h2 ⊢
   exact ih _ _ _ hw h2
  ·simp only [ho] at h2 ⊢
   rcases hwd : Region.wanted o (yielded ops a.tmps) with _ | _
   ·simp only [hwd, Bool.false_eq_true, if_false] at h2 ⊢
    exact ⟨h2.1 w hw, ih _ _ _ hw h2.2⟩
   ·simp only [hwd, if_true] at h2 ⊢
    exact oper_round (ndB_spec hnd ho) hw (fun a' w' hw' h' => ih _ a' w' hw' h') h2.1 h2.2
theorem wp_region_round {id : Nat} {Q : Exit → Act → World → Prop} {a : Act} {w : World} {l : List Oper} (hm : P.follows .mixedOrders = true) (hB : (Region.lexB .any l.toArray && ndB l.toArray) = true)
  (h : wpQuietIn F n P l.toArray (fun w' => ∃ n, w' = w.drewN n) (fun a' => ∀ w', RowKit.Below w.heap.size w w' → Q .normal a' w') l a) : (Code.region id l.toArray true).wpIn F n P Q a w := by
 rw [Bool.and_eq_true] at hB
 obtain ⟨hB, hnd⟩ := hB
 simp only [Region.lexB, Bool.and_eq_true] at hB
 refine wpIn_region_any hm (any_round (C := fun w' => ∃ n, w' = w.drewN n) (Q := fun a' => ∀ w', RowKit.Below w.heap.size w w' → Q .normal a' w') hnd ?_ _ _ _ _ ⟨1, rfl⟩ ?_)
 ·rintro a' w' ⟨k, rfl⟩ hq
  exact hq _ ⟨rfl, rfl, rfl, Nat.le_refl _, fun _ _ => rfl⟩
 ·have := wpAnyQIn_lex (F := F) (n := n) (P := P) (C := fun w' => ∃ n, w' = w.drewN n) (md := .any) hB.1 l 0 (Array.replicate l.toArray.size false) a (by simp) (by simpa using hB.2) h
  simpa using this
end
end Go.Proofs.YtefmplccbkmalaaGreatDoor
namespace Go.Proofs.YtefmplccbkmalaaGreatDoor
open Go.RowKit Go.Sort Go.BigFrame
attribute [local go_sem] Oper.semAt_some

section
variable {base qs : Nat} {F R : Nat} {xs : List Int} {bl : Bool} {can : Nat} {pa ha fu : Int} {pp : Option Addr} {cc occ : Nat} {v0 v2 : Value} {w : World} {Bs : List (Nat × Obj)} {D c : Nat} {L2 L4 : List Ret} {W2 W4 : World}
theorem SeaI.step (hS2 : Sea base qs F R xs bl can pa ha fu pp cc occ v2 L2 W2) (hN2 : Nib qs w W2 v0 v2) (hA2 : ∀ k, v2.ownBlock = some k → k < D ∨ c ≤ k) (hB2 : ∀ x ∈ Bs, HasO W2 x.1 x.2) (hc2 : c ≤ W2.heap.size) (hq : qs < D) (hBq : ∀ x ∈ Bs, x.1 ≠ qs) (hBt : ∀ x ∈ Bs, ∀ cs, x.2 ≠ .cells cs 42 (0, 0))
  {v4 : Value} (_ : Sea base qs F R xs bl can pa ha fu pp cc occ v4 L4 W4) (hN4 : Nib qs W2 W4 v2 v4) : (Nib qs w W4 v0 v4 ∧ (∀ k, v4.ownBlock = some k → k < D ∨ c ≤ k) ∧ (∀ x ∈ Bs, HasO W4 x.1 x.2) ∧ c ≤ W4.heap.size) ∧ ∀ q o, D ≤ q → q < c → HasO W2 q o → HasO W4 q o := by
 refine ⟨⟨hN2.trans hN4, fun j e => ?_, fun x hx => hN4.hasO (hB2 x hx) (hBq x hx) (own_ne hS2.o (hB2 x hx) (hBt x hx)), Nat.le_trans hc2 hN4.size⟩, fun q o h1 h2 ho => hN4.hasO ho (by omega) (fun e => by have := hA2 q e; omega)⟩
 rcases hN4.near j e with h | h
 ·exact hA2 j h
 ·right; omega
theorem own_kind {xs : List Int} {bl : Bool} {k : Nat} (hk : k < (bitsL (setW (if bl then gPos else gNeg) xs xs.length)).length) : ((bitsL (setW (if bl then gPos else gNeg) xs xs.length))[k]?.getD 0) < xs.length ∧ 1 ≤ kindI (xs[((bitsL (setW (if bl then gPos else gNeg) xs xs.length))[k]?.getD 0)]?.getD 0) := by
 rw [List.getElem?_eq_getElem hk, Option.getD_some]
 have h1 := (bits_mem.1 (List.getElem_mem hk)).2
 generalize (bitsL (setW (if bl then gPos else gNeg) xs xs.length))[k] = a at *
 rw [setW_bit, Bool.and_eq_true, decide_eq_true_eq] at h1
 refine ⟨h1.1, ?_⟩
 have h2 := h1.2
 unfold kindI
 cases bl <;> simp [gPos, gNeg] at h2 <;> split <;> omega
end
theorem quo_natI (n s : Nat) (hs : 1 ≤ s) (hn : n ≤ 8192) (W : World) : (binOp .quo 3 (.int .i64 (n : Nat)) (.int .i64 (s : Nat))).run Tryz.prog W = .ok (.int .i64 ((n / s : Nat) : Int)) W := by
 have h2 : n / s ≤ n := Nat.div_le_self _ _
 have h1 : IntKind.i64.wrap ((n / s : Nat) : Int) = ((n / s : Nat) : Int) := by
  generalize n / s = d at *
  exact IntWalk.i64_in _ (by omega)
 have h3 : (n : Int).tdiv (s : Int) = ((n / s : Nat) : Int) := rfl
 have h4 : ¬ s = 0 := by omega
 simp only [go_sem, h3, h1]
 simp [h4]
set_option maxRecDepth 100000 in
theorem mbL (T : Array Value) (h : T.size = 84) : T = #[ofA T 0, ofA T 1, ofA T 2, ofA T 3, ofA T 4, ofA T 5, ofA T 6, ofA T 7, ofA T 8, ofA T 9, ofA T 10, ofA T 11, ofA T 12, ofA T 13, ofA T 14, ofA T 15, ofA T 16, ofA T 17, ofA T 18, ofA T 19, ofA T 20, ofA T 21, ofA T 22, ofA T 23, ofA T 24, ofA T 25, ofA T 26, ofA T 27, ofA T 28, ofA T 29, ofA T 30, ofA T 31, ofA T 32, ofA T 33, ofA T 34, ofA T 35, ofA T 36, ofA T 37, ofA T 38, ofA T 39, ofA T 40, ofA T 41, ofA T 42, ofA T 43, ofA T 44, ofA T 45, ofA T 46, ofA T 47, ofA T 48, ofA T 49, ofA T 50, ofA T 51, ofA T 52, ofA T 53, ofA T 54, ofA T 55, ofA T 56, ofA T 57, ofA T 58, ofA T 59, ofA T 60, ofA T 61, ofA T 62, ofA T 63, ofA T 64, ofA T 65, ofA T 66, ofA T 67, ofA T 68, ofA T 69, ofA T 70, ofA T 71, ofA T 72, ofA T 73, ofA T 74, ofA T 75, ofA T 76, ofA T 77, ofA T 78, ofA T 79, ofA T 80, ofA T 81, ofA T 82, ofA T 83] := by
 have := arr_lit T
 rw [h] at this
 exact this
def mbF (q1 : Nat) (q7 : Nat) (q9 : Nat) (x : Nat) (X : Nat → Value) : Array Value := #[X 0, .pointer (some ⟨q1, 0, none⟩), X 2, X 3, X 4, X 5, X 6, .pointer (some ⟨q7, 0, none⟩), X 8, .pointer (some ⟨q9, 0, none⟩), X 10, X 11, X 12, X 13, X 14, X 15, X 16, X 17, X 18, X 19, X 20, X 21, X 22, X 23, X 24, X 25, X 26, X 27, X 28, X 29, X 30, X 31, X 32, X 33, X 34, X 35, X 36, X 37, X 38, X 39, X 40, X 41, X 42, X 43, .int .i64 x, X 45, X 46, X 47, X 48, X 49, X 50, X 51, X 52, X 53, X 54, X 55, X 56, X 57, X 58, X 59, X 60, X 61, X 62, X 63, X 64, X 65, X 66, X 67, X 68, X 69, X 70, X 71, X 72, X 73, X 74, X 75, X 76, X 77, X 78, X 79, X 80, X 81, X 82, X 83]
def mbT (T : Array Value) (q1 : Nat) (q7 : Nat) (q9 : Nat) (x : Nat) : Prop := T.size = 84 ∧ ofA T 1 = .pointer (some ⟨q1, 0, none⟩) ∧ ofA T 7 = .pointer (some ⟨q7, 0, none⟩) ∧ ofA T 9 = .pointer (some ⟨q9, 0, none⟩) ∧ ofA T 44 = .int .i64 x
set_option maxRecDepth 100000 in
theorem mbT.fr {T : Array Value} {q1 : Nat} {q7 : Nat} {q9 : Nat} {x : Nat} (h : mbT T q1 q7 q9 x) : ∃ X, T = mbF q1 q7 q9 x X := by
 obtain ⟨hs, h1, h7, h9, h44⟩ := h
 have h := mbL T hs
 rw [h1, h7, h9, h44] at h
 exact ⟨ofA T, h⟩
set_option maxRecDepth 100000 in
theorem mvBody (F R : Nat) (xs : List Int) (bl : Bool) (can : Nat) (pa ha fu : Int) (g o cc occ : Nat) (hH : PosH F R xs can ha fu) (hocc : occ = (⟨F, R, xs, bl, can, pa, ha, fu⟩ : Pos).occ) (ho64 : occ < 2 ^ (F * R)) (base qs q1 q7 q9 : Nat) (v0 : Value) (w : World) (Bs : List (Nat × Obj)) (la : Nat) (hla : la = if bl then R - 1 else 0) (D c k x : Nat) (hx : x < xs.length) (hx1 : 1 ≤ kindI ((⟨F, R, xs, bl, can, pa, ha, fu⟩ : Pos).at_ x)) (LK : Nat → List Ret) (hnx : LK (k + 1) = LK k ++ skC ⟨F, R, xs, bl, can, pa, ha, fu⟩ x) (hl : (LK k).length ≤ 899000000)
  (m1 : (q1, Obj.cells (posCs F R (some ⟨g, o, none⟩) xs.length cc bl can pa ha fu).toArray 26 (0, 0)) ∈ Bs) (m7 : (q7, Obj.cells #[.pointer (some ⟨qs, 0, none⟩)] 69 (0, 0)) ∈ Bs) (m9 : (q9, Obj.cells #[.int .i64 la] 3 (0, 0)) ∈ Bs) (hbd : base ≤ D) (hq : qs < D) (hB : ∀ x ∈ Bs, x.1 < D) (hw : w.heap.size ≤ D) (hc : D + 2 ≤ c) (hBq : ∀ x ∈ Bs, x.1 ≠ qs) (hBt : ∀ x ∈ Bs, ∀ cs, x.2 ≠ .cells cs 42 (0, 0))
  (T : Array Value) (hT : mbT T q1 q7 q9 x) (W : World) (hI : SeaI base qs F R xs bl can pa ha fu (some ⟨g, o, none⟩) cc occ v0 w Bs D c (LK k) W)
  (ab : Code × Code) (hab : Tryz.f11.body.bind firstRange = some ab) :
  ab.1.wpIn (Fence.wide.inRound (D + 1)) 3 Tryz.prog (Exit.then (fun a₁ W₁ => (∀ q o, (D ≤ q ∧ q < c) → HasO W q o → HasO W₁ q o) ∧
     ∀ W₂, Alt (D + 1) (D + 2) W₁ W₂ → W₂.heap.size = W₁.heap.size → (∃ r, HasO W₂ (D + 1) (.loop r)) →
      ab.2.wpIn (Fence.wide.inRound (D + 1)) 3 Tryz.prog (bodyI (D + 1) D (fun i => SeaI base qs F R xs bl can pa ha fu (some ⟨g, o, none⟩) cc occ v0 w Bs D c (LK i)) (fun _ _ => False) k (fun D q => D + 2 ≤ q ∧ q < c) W₂) a₁ W₂) (fun _ _ _ => False))
    { tmps := T, defers := [] } W := by
 obtain rfl := Option.some.inj ((show Tryz.f11.body.bind firstRange = some _ from rfl).symm.trans hab)
 clear hab
 obtain ⟨X, rfl⟩ := hT.fr
 clear hT
 unfold mbF
 have hFR : F * R ≤ 64 := Nat.mul_le_mul hH.hF.2 hH.hR.2
 have ho64' : occ < 2 ^ 64 := Nat.lt_of_lt_of_le ho64 (Nat.pow_le_pow_right (by decide) hFR)
 have hat : (⟨F, R, xs, bl, can, pa, ha, fu⟩ : Pos).at_ x = xs[x]?.getD 0 := by unfold Pos.at_; rw [Int.toNat_natCast]
 have hy6 := hH.h6 (xs[x]?.getD 0) (by rw [List.getElem?_eq_getElem hx]; exact List.getElem_mem hx)
 have hsk : skC ⟨F, R, xs, bl, can, pa, ha, fu⟩ x = if kindI (xs[x]?.getD 0) = 1 then pwnK ⟨F, R, xs, bl, can, pa, ha, fu⟩ x 0 4 else pieL ⟨F, R, xs, bl, can, pa, ha, fu⟩ x ++ (if kindI (xs[x]?.getD 0) ≠ 6 ∧ x / F = (if bl then R - 1 else 0) then pwnK ⟨F, R, xs, bl, can, pa, ha, fu⟩ x (kindI (xs[x]?.getD 0)) 4 else []) := by rw [← hat]; rfl
 rw [← hla] at hsk
 have hxb : x ≤ 8192 := by have := hH.len; omega
 have hqu := fun W => quo_natI x F (by have := hH.hF; omega) hxb W
 have hxl : (x : Int) < xs.length := by omega
 obtain ⟨kk, hkk⟩ : ∃ kk, kk = kindI (xs[x]?.getD 0) := ⟨_, rfl⟩
 have hki : ∀ W, Calls Tryz.prog 30 #[.int .i8 (xs[x]?.getD 0)] W fun e w' => e = .returned (.int .i8 kk) ∧ W = w' := fun W => by
  rw [hkk]; exact kind30_any _ (by omega) W
 have hk6 : kk ≤ 6 := by rw [hkk]; unfold kindI; split <;> omega
 rw [hat] at hx1
 rw [← hkk] at hsk hx1
 have hp26 : kk ≠ 1 → 2 ≤ kindI ((⟨F, R, xs, bl, can, pa, ha, fu⟩ : Pos).at_ x) ∧ kindI ((⟨F, R, xs, bl, can, pa, ha, fu⟩ : Pos).at_ x) ≤ 6 := fun h => by rw [hat, ← hkk]; omega
 have hpw := fun pr => pwnK_len ⟨F, R, xs, bl, can, pa, ha, fu⟩ x pr hH.hF.2 4
 have hpl := pieL_len ⟨F, R, xs, bl, can, pa, ha, fu⟩ x hH.hF.2
 rw [hsk] at hnx
 obtain ⟨y, hy⟩ : ∃ y, y = xs[x]?.getD 0 := ⟨_, rfl⟩
 rw [← hy] at hki
 have hyc : ∀ W, Arr .i8 W (some ⟨g, o, none⟩) xs → W.cell? ⟨g, o + x, none⟩ = some (.int .i8 y) := fun W h => by
  obtain ⟨g', o', e3, h5⟩ := arr_at h hx
  injection e3 with e3
  injection e3 with e3 e4
  subst e3 e4
  rw [hy]; exact h5
 clear hsk hat hy6
 replace hnx := Lib.hid hnx
 replace hkk := Lib.hid hkk
 replace hocc := Lib.hid hocc
 replace hla := Lib.hid hla
 replace hy := Lib.hid hy
 gi_wp2_with fail
 refine ⟨fun q o _ h => h, fun W2 ha2 hz hrec => ?_⟩
 have hI2 := hI.alt ha2 (by omega) hc hbd hq hB hw
 clear hI ha2 hz hrec
 obtain ⟨v2, hS2, hN2, hA2, hB2, hc2⟩ := hI2
 have b1 : HasO W2 q1 (.cells #[.int .i64 F, .int .i64 R, .slice (some ⟨g, o, none⟩) xs.length cc, .bool bl, .int .u8 can, .int .i64 pa, .int .i64 ha, .int .i64 fu] 26 (0, 0)) := hB2 _ m1
 have b7 : HasO W2 q7 (.cells #[.pointer (some ⟨qs, 0, none⟩)] 69 (0, 0)) := hB2 _ m7
 have d1 := b1.cells
 have l1 := b1.lt
 have d7 := b7.cells 0
 have l7 := b7.lt
 have dy := hyc W2 hS2.st.x
 gi_wp2_with fail
 refine ⟨trivial, (CallsIn.inRound _ (callsIn_wide.2 (hki W2))).mono ?_⟩
 rintro e W3 ⟨rfl, rfl⟩
 rcases z1 : (kk == 1) with _ | _
 ·have hk1 : kk ≠ 1 := by simpa using z1
  have hpi := pieS_any F R xs bl can pa ha fu (some ⟨g, o, none⟩) cc occ hH hocc.out ho64 base qs v2 (LK k) (by omega) x hx (hp26 hk1) W2 hS2
  gi_wp2_with fail
  refine ⟨trivial, (CallsIn.inRound _ (callsIn_wide.2 hpi)).mono ?_⟩
  rintro e W4 ⟨rfl, v4, hS4, hN4⟩
  obtain ⟨⟨hN5, hA4, hB4, hc4⟩, hKp⟩ := SeaI.step hS2 hN2 hA2 hB2 hc2 hq hBq hBt hS4 hN4
  clear hpi hS2 hN2 hA2 hB2 hc2 hN4 b1 b7 d1 l1 d7 l7 dy hki hp26
  have b1 : HasO W4 q1 (.cells #[.int .i64 F, .int .i64 R, .slice (some ⟨g, o, none⟩) xs.length cc, .bool bl, .int .u8 can, .int .i64 pa, .int .i64 ha, .int .i64 fu] 26 (0, 0)) := hB4 _ m1
  have b7 : HasO W4 q7 (.cells #[.pointer (some ⟨qs, 0, none⟩)] 69 (0, 0)) := hB4 _ m7
  have b9 : HasO W4 q9 (.cells #[.int .i64 la] 3 (0, 0)) := hB4 _ m9
  have d1 := b1.cells
  have l1 := b1.lt
  have d9 := b9.cells 0
  have l9 := b9.lt
  have d7 := b7.cells 0
  have l7 := b7.lt
  gi_wp2_with fail
  rename_i k0 hk0
  replace hk0 := Lib.hid hk0
  obtain ⟨nq, hnq⟩ : ∃ nq, nq = x / F := ⟨_, rfl⟩
  have htd : (x : Int).tdiv (F : Int) = (nq : Int) := by rw [hnq]; rfl
  have hnb : nq ≤ 8192 := by rw [hnq]; exact Nat.le_trans (Nat.div_le_self _ _) hxb
  have hnb2 : (nq : Int) ≤ 8192 := by omega
  have hwr : IntKind.i64.wrap (nq : Int) = nq := IntWalk.i64_in _ (by omega)
  have hF0 : ¬ F = 0 := by have := hH.hF; omega
  have hF0' : ¬ (F : Int) = 0 := by omega
  replace hnq := Lib.hid hnq
  clear hqu
  rcases z2 : (kk != 6) with _ | _
  ·have z6 : kk = 6 := by simpa using z2
   have hLn : Hid (LK (k + 1) = LK k ++ pieL ⟨F, R, xs, bl, can, pa, ha, fu⟩ x) := Lib.hid (by rw [hnx.out, if_neg hk1, if_neg (by rw [z6]; simp), List.append_nil])
   clear z6
   refine wp_region_round (by kernel_rfl) (by kernel_rfl) ?_
   repeat (quiet_step_in (fail))
   refine wpQuietIn_nil ?_
   intro W5 hb5
   have hN6 := hN5.trans (Nib.of_below qs hb5 v4)
   have hS5 := hS4.call hb5
   clear hN5 hS4
   refine hk0.out _ _ ?_
   gi_wp2_with fail
   exact ⟨fun q o hq ho => (hKp q o (by omega) (by omega) ho).call hb5, v4, by rw [hLn.out]; exact hS5, hN6, hA4, fun x hx => (hB4 x hx).call hb5, Nat.le_trans hc4 hb5.size⟩
  ·have z6 : kk ≠ 6 := by simpa using z2
   refine wp_region_round (by kernel_rfl) (by kernel_rfl) ?_
   repeat (quiet_step_in (fail))
   refine wpQuietIn_nil ?_
   intro W5 hb5
   have hN6 := hN5.trans (Nib.of_below qs hb5 v4)
   have hS5 := hS4.call hb5
   have hB5 : ∀ x ∈ Bs, HasO W5 x.1 x.2 := fun x hx => (hB4 x hx).call hb5
   have hc5 := Nat.le_trans hc4 hb5.size
   have hKp5 : ∀ q o, D ≤ q → q < c → HasO W2 q o → HasO W5 q o := fun q o h1 h2 ho => (hKp q o h1 h2 ho).call hb5
   clear hN5 hS4 hB4 hc4 hKp b1 b7 b9 d1 l1 d7 l7 d9 l9 hb5 htd
   rcases z9 : ((nq : Int) == (la : Int)) with _ | _
   ·have hLn : Hid (LK (k + 1) = LK k ++ pieL ⟨F, R, xs, bl, can, pa, ha, fu⟩ x) := Lib.hid (by rw [hnx.out, if_neg hk1, if_neg (by rw [← hnq.out]; simp at z9; omega), List.append_nil])
    refine hk0.out _ _ ?_
    gi_wp2_with fail
    exact ⟨fun q o hq ho => hKp5 q o (by omega) (by omega) ho, v4, by rw [hLn.out]; exact hS5, hN6, hA4, hB5, hc5⟩
   ·have hLn : Hid (LK (k + 1) = LK k ++ pieL ⟨F, R, xs, bl, can, pa, ha, fu⟩ x ++ pwnK ⟨F, R, xs, bl, can, pa, ha, fu⟩ x kk 4) := Lib.hid (by rw [hnx.out, if_neg hk1, if_pos ⟨z6, by rw [← hnq.out]; simp at z9; omega⟩, List.append_assoc])
    have hca := pawnS_any F R xs bl can pa ha fu (some ⟨g, o, none⟩) cc occ hH hocc.out ho64' base qs v4 (LK k ++ pieL ⟨F, R, xs, bl, can, pa, ha, fu⟩ x) (by rw [List.length_append]; omega) x kk hx W5 hS5
    have b7 : HasO W5 q7 (.cells #[.pointer (some ⟨qs, 0, none⟩)] 69 (0, 0)) := hB5 _ m7
    have d7 := b7.cells 0
    have l7 := b7.lt
    refine hk0.out _ _ ?_
    gi_wp2_with fail
    refine ⟨trivial, (CallsIn.inRound _ (callsIn_wide.2 hca)).mono ?_⟩
    rintro e W6 ⟨rfl, v6, hS6, hN7⟩
    obtain ⟨⟨hN8, hA6, hB6, hc6⟩, hKp6⟩ := SeaI.step hS5 hN6 hA4 hB5 hc5 hq hBq hBt hS6 hN7
    clear hca hS5 hN6 hA4 hB5 hc5 hN7 b7 d7 l7
    gi_wp2_with fail
    exact ⟨fun q o hq ho => hKp6 q o (by omega) (by omega) (hKp5 q o (by omega) (by omega) ho), v6, by rw [hLn.out]; exact hS6, hN8, hA6, hB6, hc6⟩
 ·obtain rfl : kk = 1 := by simpa using z1
  have hca := pawnS_any F R xs bl can pa ha fu (some ⟨g, o, none⟩) cc occ hH hocc.out ho64' base qs v2 (LK k) (by omega) x 0 hx W2 hS2
  have hLn : Hid (LK (k + 1) = LK k ++ pwnK ⟨F, R, xs, bl, can, pa, ha, fu⟩ x 0 4) := Lib.hid (by rw [hnx.out, if_pos rfl])
  gi_wp2_with fail
  refine ⟨trivial, (CallsIn.inRound _ (callsIn_wide.2 hca)).mono ?_⟩
  rintro e W4 ⟨rfl, v4, hS4, hN4⟩
  obtain ⟨⟨hN5, hA4, hB4, hc4⟩, hKp⟩ := SeaI.step hS2 hN2 hA2 hB2 hc2 hq hBq hBt hS4 hN4
  clear hca hS2 hN2 hA2 hB2 hc2 hN4 b1 b7 d1 l1 d7 l7 dy hki
  gi_wp2_with fail
  exact ⟨fun q o hq ho => hKp q o (by omega) (by omega) ho, v4, by rw [hLn.out]; exact hS4, hN5, hA4, hB4, hc4⟩
end Go.Proofs.YtefmplccbkmalaaGreatDoor
namespace Go.Proofs.YtefmplccbkmalaaGreatDoor
open Go.RowKit Go.Sort Go.BigFrame

def insR (x : Ret) : List Ret → List Ret
 | [] => [x]
 | y :: l => if cmpR x y ≤ 0 then x :: y :: l else y :: insR x l
def srtR : List Ret → List Ret
 | [] => []
 | x :: l => insR x (srtR l)
def movW (P : Pos) : List Ret := ddN (srtR (skL P)) (srtR (skL P)).length
def leR (x y : Ret) : Prop := ¬ cmpR y x < 0
theorem leR_iff (x y : Ret) : leR x y ↔ cmpR x y ≤ 0 := by
 have := ord_cmpR.anti x y
 unfold leR
 omega
theorem insR_perm (x : Ret) : ∀ l : List Ret, (insR x l).Perm (x :: l) := by
 intro l
 induction l with
 | nil => exact List.Perm.refl _
 | cons y l ih =>
  simp only [insR]
  split
  ·exact List.Perm.refl _
  ·exact (List.Perm.cons y ih).trans (List.Perm.swap x y l)
theorem srtR_perm : ∀ l : List Ret, (srtR l).Perm l := by
 intro l
 induction l with
 | nil => exact List.Perm.refl _
 | cons x l ih => exact (insR_perm x _).trans (List.Perm.cons x ih)
theorem insR_pw (x : Ret) : ∀ l : List Ret, l.Pairwise leR → (insR x l).Pairwise leR := by
 intro l
 induction l with
 | nil => intro _; simp [insR]
 | cons y l ih =>
  intro h
  obtain ⟨h1, h2⟩ := List.pairwise_cons.1 h
  simp only [insR]
  split
  ·rename_i hc
   refine List.pairwise_cons.2 ⟨fun z hz => ?_, h⟩
   rcases List.mem_cons.1 hz with rfl | hz
   ·exact (leR_iff _ _).2 hc
   ·exact (leR_iff _ _).2 (ord_cmpR.trans x y z hc ((leR_iff _ _).1 (h1 z hz)))
  ·rename_i hc
   refine List.pairwise_cons.2 ⟨fun z hz => ?_, ih h2⟩
   rcases List.mem_cons.1 ((insR_perm x l).mem_iff.1 hz) with rfl | hz
   ·have := ord_cmpR.anti z y
    exact (leR_iff _ _).2 (by omega)
   ·exact h1 z hz
theorem srtR_pw : ∀ l : List Ret, (srtR l).Pairwise leR := by
 intro l
 induction l with
 | nil => exact List.Pairwise.nil
 | cons x l ih => exact insR_pw x _ ih
theorem leR_anti {x y : Ret} (h1 : leR x y) (h2 : leR y x) : x = y := by
 have := ord_cmpR.anti x y
 rw [leR_iff] at h1 h2
 exact cmpR_eq (by omega)
theorem sorted_uniq : ∀ S T : List Ret, S.Perm T → S.Pairwise leR → T.Pairwise leR → S = T := by
 intro S
 induction S with
 | nil => intro T h _ _; exact (List.nil_perm.1 h).symm
 | cons a S ih =>
  intro T h hS hT
  rcases T with _ | ⟨b, T⟩
  ·exact absurd h.length_eq (by simp)
  obtain ⟨h1, h2⟩ := List.pairwise_cons.1 hS
  obtain ⟨h3, h4⟩ := List.pairwise_cons.1 hT
  have hab : a = b := by
   rcases List.mem_cons.1 (h.mem_iff.1 (List.mem_cons_self)) with e | e
   ·exact e
   ·rcases List.mem_cons.1 (h.mem_iff.2 (List.mem_cons_self)) with e2 | e2
    ·exact e2.symm
    ·exact leR_anti (h1 b e2) (h3 a e)
  subst hab
  rw [ih T (List.Perm.cons_inv h) h2 h4]
theorem sorted_srt {S L : List Ret} (h : S.Perm L) (hs : S.Pairwise (fun x y => ¬ cmpR y x < 0)) : S = srtR L := sorted_uniq S _ (h.trans (srtR_perm L).symm) hs (srtR_pw L)
theorem srtR_len (L : List Ret) : (srtR L).length = L.length := (srtR_perm L).length_eq
def MovesR (P : Pos) (w : World) (e : Ending) (w' : World) : Prop := ∃ v, e = .returned (.tuple #[v, .int .i64 0]) ∧ w'.ownsRow w.heap.size 42 7 v (movW P).length (retsV (movW P)) ∧ RowKit.Below w.heap.size w w'
end Go.Proofs.YtefmplccbkmalaaGreatDoor
