import Derived.Test.YtefmplccbkmalaaGreatDoorF13
import Derived.Test.YtefmplccbkmalaaGreatDoorF26
import Derived.Test.YtefmplccbkmalaaGreatDoorF31
import Derived.Test.YtefmplccbkmalaaGreatDoorF39
import Derived.Test.YtefmplccbkmalaaGreatDoorF42
set_option maxHeartbeats 12800000
namespace Go.Proofs.YtefmplccbkmalaaGreatDoor
open Go.RowKit Go.Sort Go.BigFrame

theorem ddN_leng (L : List Ret) : ∀ n, (ddN L n).length ≤ n := by
 intro n
 induction n with
 | zero => simp [ddN]
 | succ k ih =>
  rw [ddN]
  split
  ·omega
  ·rw [List.length_append, List.length_singleton]; omega
theorem movW_leng (P : Pos) (hF : P.F ≤ 8) : (movW P).length ≤ 3264000 := by
 refine Nat.le_trans (ddN_leng _ _) ?_
 rw [srtR_len]
 exact skL_len P hF
theorem mk_err {P : Pos} {m : Mv} {n : Int} (h : mkW P m = .error n) : (n != 0) = true := by
 unfold mkW at h
 simp only at h
 repeat' split at h
 all_goals first | (injection h with h; subst h; decide) | (cases h)
theorem fwd_row {F R : Nat} {xs : List Int} {bl : Bool} {can : Nat} {pa ha fu : Int} {m : Mv} {q : Pos} {u : Und} (h : mkW ⟨F, R, xs, bl, can, pa, ha, fu⟩ m = .ok (q, u)) :
  ∃ (ys : List Int) (sb : Bool) (qc : Nat) (qpa qha qfu cp t : Int), q = ⟨F, R, ys, sb, qc, qpa, qha, qfu⟩ ∧ ys.length = xs.length ∧ qc < 256 ∧ pvW F R ys sb qc qpa qha qfu = true ∧
   u = ⟨m, cp, t, can, pa, ha, fu⟩ ∧ (movW ⟨F, R, ys, sb, qc, qpa, qha, qfu⟩).count ⟨m, cp, t, can, pa⟩ = 1 ∧ mayW ⟨F, R, ys, sb, qc, qpa, qha, qfu⟩ ⟨m, cp, t, can, pa⟩ = true ∧ befW ⟨F, R, ys, sb, qc, qpa, qha, qfu⟩ ⟨m, cp, t, can, pa⟩ = ⟨F, R, xs, bl, can, pa, max 0 (qha - 1), fu⟩ ∧ (qha = 0 ∨ qha = ha + 1) ∧ 0 ≤ ha ∧ mvB F R m = true ∧ can < 256 ∧ F ≤ 8 := by
 have hk := mkW_ok h
 have h1 := hk.1
 rw [Bool.and_eq_true] at h1
 obtain ⟨F', R', e1, e2, hF, hR, hlen, hor, hc15, h88, hha, hfu⟩ := ok_fact (show pvW F R xs bl can pa ha fu = true from h1.1) (by omega)
 obtain ⟨a, b, pr, rfl, ha', hb', hab, hpr⟩ := mv_nat h1.2
 have h0 : (0 : Int) ≤ (⟨F, R, xs, bl, can, pa, ha, fu⟩ : Pos).ca := by simp
 obtain ⟨b1, b2, b3, b4⟩ := back_may h0 h
 have hsk := movW_count (sk_found h0 h)
 have hok := ok_after h0 h
 obtain ⟨_, hq, hu⟩ := mk_iff.1 h
 obtain ⟨way, hw⟩ : ∃ way, way = wayW ⟨F, R, xs, bl, can, pa, ha, fu⟩ ⟨a, b, pr⟩ := ⟨_, rfl⟩
 rw [← hw] at hq
 obtain ⟨ys, hys⟩ : ∃ ys, ys = brdW ⟨F, R, xs, bl, can, pa, ha, fu⟩ ⟨a, b, pr⟩ way := ⟨_, rfl⟩
 obtain ⟨qpa, qha, qfu, e⟩ : ∃ (qpa qha qfu : Int), q = ⟨F, R, ys, !bl, (clrN ((can : Int).toNat) (lostW a ||| lostW b) : Nat), qpa, qha, qfu⟩ := by
  refine ⟨(aftW ⟨F, R, xs, bl, can, pa, ha, fu⟩ ⟨a, b, pr⟩ way).pa, (aftW ⟨F, R, xs, bl, can, pa, ha, fu⟩ ⟨a, b, pr⟩ way).ha, (aftW ⟨F, R, xs, bl, can, pa, ha, fu⟩ ⟨a, b, pr⟩ way).fu, ?_⟩
  rw [hq, hys]
  rfl
 subst e
 refine ⟨ys, !bl, _, qpa, qha, qfu, (capW ⟨F, R, xs, bl, can, pa, ha, fu⟩ ⟨a, b, pr⟩).2, (capW ⟨F, R, xs, bl, can, pa, ha, fu⟩ ⟨a, b, pr⟩).1, rfl, ?_, ?_, hok, hu, hsk, b1, b2, b3, b4, h1.2, by omega, by omega⟩
 ·rw [hys]; exact brdW_len _ _ _
 ·refine Nat.lt_of_le_of_lt (clr_le (l := lostW a ||| lostW b) (by omega)) (by decide)
def moF (q1 : Nat) (q7 : Nat) (q9 : Nat) (S : Nat) (X : Nat → Value) : Array Value := #[X 0, .pointer (some ⟨q1, 0, none⟩), X 2, X 3, X 4, X 5, X 6, .pointer (some ⟨q7, 0, none⟩), .int .u64 S, .pointer (some ⟨q9, 0, none⟩), X 10, X 11, X 12, X 13, X 14, X 15, X 16, X 17, X 18, X 19, X 20, X 21, X 22, X 23, X 24, X 25, X 26, X 27, X 28, X 29, X 30, X 31, X 32, X 33, X 34, X 35, X 36, X 37, X 38, X 39, X 40, X 41, X 42, X 43, X 44, X 45, X 46, X 47, X 48, X 49, X 50, X 51, X 52, X 53, X 54, X 55, X 56, X 57, X 58, X 59, X 60, X 61, X 62, X 63, X 64, X 65, X 66, X 67, X 68, X 69, X 70, X 71, X 72, X 73, X 74, X 75, X 76, X 77, X 78, X 79, X 80, X 81, X 82, X 83]
def moT (T : Array Value) (q1 : Nat) (q7 : Nat) (q9 : Nat) (S : Nat) : Prop := T.size = 84 ∧ ofA T 1 = .pointer (some ⟨q1, 0, none⟩) ∧ ofA T 7 = .pointer (some ⟨q7, 0, none⟩) ∧ ofA T 8 = .int .u64 S ∧ ofA T 9 = .pointer (some ⟨q9, 0, none⟩)
set_option maxRecDepth 100000 in
theorem moT.fr {T : Array Value} {q1 : Nat} {q7 : Nat} {q9 : Nat} {S : Nat} (h : moT T q1 q7 q9 S) : ∃ X, T = moF q1 q7 q9 S X := by
 obtain ⟨hs, h1, h7, h8, h9⟩ := h
 have h := mbL T hs
 rw [h1, h7, h8, h9] at h
 exact ⟨ofA T, h⟩

set_option maxRecDepth 100000 in
theorem mvOut (F R : Nat) (xs : List Int) (bl : Bool) (can : Nat) (pa ha fu : Int) (g o cc occ : Nat) (hH : PosH F R xs can ha fu) (hocc : occ = (⟨F, R, xs, bl, can, pa, ha, fu⟩ : Pos).occ) (ho64 : occ < 2 ^ (F * R)) (qs q1 q7 q9 OS la : Nat) (w : World) (hOS : OS = ownS ⟨F, R, xs, bl, can, pa, ha, fu⟩) (hol : OS < 18446744073709551616) (hla : la = if bl then R - 1 else 0)
  (T : Array Value) (hT : moT T q1 q7 q9 OS) (W : World) (hS : Sea w.heap.size qs F R xs bl can pa ha fu (some ⟨g, o, none⟩) cc occ (.slice none 0 0) [] W) (hN : Nib qs w W (.slice none 0 0) (.slice none 0 0))
  (b1 : HasO W q1 (.cells (posCs F R (some ⟨g, o, none⟩) xs.length cc bl can pa ha fu).toArray 26 (0, 0))) (b7 : HasO W q7 (.cells #[.pointer (some ⟨qs, 0, none⟩)] 69 (0, 0))) (b9 : HasO W q9 (.cells #[.int .i64 la] 3 (0, 0))) (hne : q1 ≠ qs ∧ q7 ≠ qs ∧ q9 ≠ qs) (Rs : Ending → World → Prop)
  (hok : ∀ v w', w'.ownsRow w.heap.size 42 7 v (movW ⟨F, R, xs, bl, can, pa, ha, fu⟩).length (retsV (movW ⟨F, R, xs, bl, can, pa, ha, fu⟩)) → RowKit.Below w.heap.size w w' → Rs (.returned (.tuple #[v, .int .i64 0])) w')
  (cd : Code) (hcd : Tryz.f11.body.map (sufC 8) = some cd) : cd.wp Tryz.prog (bodyPostM Fence.wide 3 Tryz.prog Tryz.f11 Rs) { tmps := T, defers := [] } W := by
 obtain rfl := Option.some.inj ((show Tryz.f11.body.map (sufC 8) = some _ from rfl).symm.trans hcd)
 clear hcd
 simp only [sufC]
 obtain ⟨X, rfl⟩ := hT.fr
 clear hT
 unfold moF
 have hskL : skL ⟨F, R, xs, bl, can, pa, ha, fu⟩ = skK ⟨F, R, xs, bl, can, pa, ha, fu⟩ (bitsL OS).length := by rw [hOS]; rfl
 have hsk : ∀ k, skK ⟨F, R, xs, bl, can, pa, ha, fu⟩ (k + 1) = skK ⟨F, R, xs, bl, can, pa, ha, fu⟩ k ++ skC ⟨F, R, xs, bl, can, pa, ha, fu⟩ ((bitsL OS)[k]?.getD 0) := fun k => by rw [hOS]; rfl
 have hsk0 : skK ⟨F, R, xs, bl, can, pa, ha, fu⟩ 0 = [] := rfl
 have hskl := skK_len ⟨F, R, xs, bl, can, pa, ha, fu⟩ hH.hF.2
 have hbl := bitsL_len OS
 have howk : ∀ k, k < (bitsL OS).length → ((bitsL OS)[k]?.getD 0) < xs.length ∧ 1 ≤ kindI (xs[((bitsL OS)[k]?.getD 0)]?.getD 0) := by
  rw [hOS]
  exact fun k h => own_kind (xs := xs) (bl := bl) (k := k) h
 have hat : ∀ k : Nat, (⟨F, R, xs, bl, can, pa, ha, fu⟩ : Pos).at_ (k : Nat) = xs[k]?.getD 0 := fun k => by unfold Pos.at_; rw [Int.toNat_natCast]
 have hsl := skL_len ⟨F, R, xs, bl, can, pa, ha, fu⟩ hH.hF.2
 replace hOS := Lib.hid hOS
 replace hocc := Lib.hid hocc
 replace hla := Lib.hid hla
 replace hskL := Lib.hid hskL
 go_wp2_with fail
 refine (each_any OS W).mono ?_
 rintro e W4 ⟨rfl, hE4, hb4, hz4⟩
 have hS4 := hS.call hb4
 have hN4 := hN.trans (Nib.of_below qs hb4 _)
 have b14 := b1.call hb4
 have b74 := b7.call hb4
 have b94 := b9.call hb4
 have l0 := hS.s.lt
 obtain ⟨qE, hqE⟩ : ∃ q, q = W.heap.size := ⟨_, rfl⟩
 rw [← hqE] at hE4 hz4 l0 ⊢
 replace hqE := Lib.hid hqE
 replace hz4 := Lib.hid hz4
 obtain ⟨Bs, hBs⟩ : ∃ Bs : List (Nat × Obj), Bs = [(q1, .cells (posCs F R (some ⟨g, o, none⟩) xs.length cc bl can pa ha fu).toArray 26 (0, 0)), (q7, .cells #[.pointer (some ⟨qs, 0, none⟩)] 69 (0, 0)), (q9, .cells #[.int .i64 la] 3 (0, 0)), (qE, .cells #[.int .u64 OS] 64 (0, 0))] := ⟨_, rfl⟩
 have hLd : ∀ x ∈ Bs, HasO W4 x.1 x.2 := by
  intro x hx
  rw [hBs] at hx
  simp only [List.mem_cons, List.not_mem_nil, or_false] at hx
  rcases hx with rfl | rfl | rfl | rfl
  ·exact b14
  ·exact b74
  ·exact b94
  ·exact hE4
 have hBD : ∀ x ∈ Bs, x.1 < W4.heap.size := fun x hx => (hLd x hx).lt
 have hBq : ∀ x ∈ Bs, x.1 ≠ qs := by
  intro x hx
  rw [hBs] at hx
  simp only [List.mem_cons, List.not_mem_nil, or_false] at hx
  rcases hx with rfl | rfl | rfl | rfl
  ·exact hne.1
  ·exact hne.2.1
  ·exact hne.2.2
  ·show qE ≠ qs; omega
 have hBt : ∀ x ∈ Bs, ∀ cs, x.2 ≠ .cells cs 42 (0, 0) := by
  intro x hx
  rw [hBs] at hx
  simp only [List.mem_cons, List.not_mem_nil, or_false] at hx
  rcases hx with rfl | rfl | rfl | rfl <;> intro cs h <;> (injection h with _ h; exact absurd h (by decide))
 have m1 : (q1, Obj.cells (posCs F R (some ⟨g, o, none⟩) xs.length cc bl can pa ha fu).toArray 26 (0, 0)) ∈ Bs := by rw [hBs]; simp
 have m7 : (q7, Obj.cells #[.pointer (some ⟨qs, 0, none⟩)] 69 (0, 0)) ∈ Bs := by rw [hBs]; simp
 have m9 : (q9, Obj.cells #[.int .i64 la] 3 (0, 0)) ∈ Bs := by rw [hBs]; simp
 have mE : (qE, Obj.cells #[.int .u64 OS] 64 (0, 0)) ∈ Bs := by rw [hBs]; simp
 replace hBs := Lib.hid hBs
 have hw4 : w.heap.size ≤ W4.heap.size := hN4.size
 have hqW4 : qs < W4.heap.size := by have := hz4.out; omega
 have hbW4 : w.heap.size ≤ W4.heap.size := hS4.st.b
 have hpkl : ∀ k, k ≤ 64 → (skK ⟨F, R, xs, bl, can, pa, ha, fu⟩ k).length ≤ 899000000 := fun k hk => by have := hskl k; omega
 clear hS hN b1 b7 b9 hE4 hb4 b14 b74 b94
 go_wp2_with fail
 refine (wpIn_wide (n := 3)).1 ?_
 refine rangeFunc_law (gf := 86) (lb := #[.pointer (some ⟨qE, 0, none⟩)]) rfl (enters_of Tryz.func86 (by kernel_rfl) rfl) (each_seq qE OS hol) (fun _ _ => rfl)
  (fun c k W => SeaI w.heap.size qs F R xs bl can pa ha fu (some ⟨g, o, none⟩) cc occ (.slice none 0 0) w Bs W4.heap.size c (skK ⟨F, R, xs, bl, can, pa, ha, fu⟩ k) W) (fun _ _ _ _ => False) ?hst ?hstx ?hRd ?hsz ?hszx ?h0 ?hbody ?hdone ?hstop ?hpanic
 case hstx => intro _ _ _ _ _ _ h; exact h.elim
 case hszx => intro _ _ _ _ _ h; exact h.elim
 case hstop => intro _ _ _ _ _ _ h; exact h.elim
 case hpanic => intro _ _ _ _ _ h; exact h.elim
 case hsz => rintro c k W _ ⟨_, _, _, _, _, h⟩; exact h
 case hRd => rintro c k W _ ⟨_, h1, _, _, h2, _⟩; exact ⟨h2 _ mE, h1.st.t⟩
 case hst => intro c k W W' hc h ha2; exact h.alt ha2 (Nat.le_refl _) (Nat.le_refl _) hbW4 hqW4 hBD hw4
 case h0 =>
  intro c W hbW hcc hzW
  refine ⟨_, by rw [hsk0]; exact hS4.call hbW, hN4.trans (Nib.of_below qs hbW _), fun k e => ?_, fun x hx => (hLd x hx).call hbW, by omega⟩
  cases e
 case hbody =>
  rintro c k W hcc hk hI hT
  refine mvBody F R xs bl can pa ha fu g o cc occ hH hocc.out ho64 w.heap.size qs q1 q7 q9 (.slice none 0 0) w Bs la hla.out W4.heap.size c k ((bitsL OS)[k]?.getD 0) (howk k hk).1 (by rw [hat]; exact (howk k hk).2) (fun i => skK ⟨F, R, xs, bl, can, pa, ha, fu⟩ i) (hsk k) (hpkl k (by omega)) m1 m7 m9 hbW4 hqW4 hBD hw4 hcc hBq hBt _ ?_ W hI (_, _) rfl
  refine ⟨?_, ?_, ?_, ?_, ?_⟩
  all_goals first | rfl | (simp [ofA]; done) | kernel_rfl
 case hdone =>
  rintro c W hcc ⟨v5, hS5, hN5, hA5, hB5, hc5⟩ hD
  rw [← hskL.out] at hS5
  have b7 : HasO W q7 (.cells #[.pointer (some ⟨qs, 0, none⟩)] 69 (0, 0)) := hB5 _ m7
  have q5 : W.cell? ⟨qs, 9, none⟩ = some v5 := hS5.s.cells 9
  have l5 := hS5.s.lt
  have d7 := b7.cells 0
  have l7 := b7.lt
  obtain ⟨LS, hLS⟩ : ∃ LS, LS = skL ⟨F, R, xs, bl, can, pa, ha, fu⟩ := ⟨_, rfl⟩
  have hmv : movW ⟨F, R, xs, bl, can, pa, ha, fu⟩ = ddN (srtR LS) (srtR LS).length := by rw [hLS]; rfl
  have hso := sortV_any w.heap.size LS.length v5 LS rfl W (by rw [hLS]; exact hS5.o) (by rw [hLS]; omega)
  have hlls : LS.length ≤ 4000000 := by rw [hLS]; omega
  have hne5 := own_ne hS5.o hS5.s (by simp)
  have hne7 := own_ne hS5.o b7 (by simp)
  have hneD := own_ne hS5.o hD (by simp)
  have hbW : RowKit.Below w.heap.size w W := hN5.below hS5.q (fun k e => by cases e) (Nat.le_refl _)
  have hb5 : w.heap.size ≤ W.heap.size := hS5.st.b
  have hlt5 := fun j e => (hS5.o.lt j e).1
  have hss := hS5.s
  replace hmv := Lib.hid hmv
  replace hLS := Lib.hid hLS
  obtain ⟨up, un, uc, hu⟩ := own_slice hS5.o
  clear hS5 hN5 hA5 hB5 hc5 hN4 hS4 hLd
  subst hu
  go_wp2_with fail
  refine hso.mono ?_
  rintro e W6 ⟨rfl, L', hp, hs, ho6, hg6⟩
  have hL' := sorted_srt hp (hs.imp (fun h => by omega))
  have hll : LS.length = L'.length := hp.length_eq.symm
  have hs6 := hss.grown hg6 hne5
  have b76 := b7.grown hg6 hne7
  have hD6 := hD.grown hg6 hneD
  have hb6 := hbW.grown hg6 hb5 hlt5
  have hco := compactV_any w.heap.size LS.length _ L' hll hlls W6 ho6
  have hne56 := own_ne ho6 hs6 (by simp)
  have hneD6 := own_ne ho6 hD6 (by simp)
  have hb56 := hb6.size
  have hlt6 := fun j e => (ho6.lt j e).1
  clear hso q5 l5 d7 l7 hss b7 hD hbW hne5 hne7 hneD hg6 hlt5 hb5
  have q5 : W6.cell? ⟨qs, 9, none⟩ = some (.slice up un uc) := hs6.cells 9
  have l5 := hs6.lt
  have d7 := b76.cells 0
  have l7 := b76.lt
  replace hL' := Lib.hid hL'
  replace hll := Lib.hid hll
  go_wp2_with fail
  refine hco.mono ?_
  rintro e W7 ⟨v7, rfl, ho7, hg7⟩
  have hD7 := hD6.grown hg7 hneD6
  have hb7 := hb6.grown hg7 hb56 hlt6
  have hneD7 := own_ne ho7 hD7 (by simp)
  clear hco q5 l5 d7 l7 hs6 b76 hD6 hb6 hne56 hneD6 hg7 hlt6
  go_wp2_with fail
  have ha7 := putObj_alt W7 W4.heap.size (.deferred none)
  have ho8 : (W7.putObj W4.heap.size (.deferred none)).ownsRow w.heap.size 42 7 v7 (movW ⟨F, R, xs, bl, can, pa, ha, fu⟩).length (retsV (movW ⟨F, R, xs, bl, can, pa, ha, fu⟩)) := by
   have hr : (srtR LS).length = LS.length := srtR_len LS
   rw [hmv.out, hr, ← hL'.out]
   exact own_kept ho7 (fun k _ e ho => ha7.hasO ho (by
    rcases Nat.lt_trichotomy k W4.heap.size with h | h | h
    ·exact .inl h
    ·subst h; exact absurd e hneD7
    ·exact .inr h))
  have hb8 := ha7.below hb7 hbW4 (Nat.le_trans hb7.size (Nat.le_refl _))
  refine leaves_one hD7 ⟨_, results_tmp2 rfl _ _ _, ?_⟩
  exact hok v7 _ ho8 hb8
set_option maxRecDepth 100000 in
theorem moves_good (F R : Nat) (xs : List Int) (bl : Bool) (can : Nat) (pa ha fu : Int) (pp : Option Addr) (cc : Nat) (hv : pvW F R xs bl can pa ha fu = true) (hca : can < 256) (hcc : xs.length ≤ cc) (w : World) (hg : GlobU w) (ht : TzOk w) (hx : Arr .i8 w pp xs) :
  Calls Tryz.prog 11 #[.agg (posCs F R pp xs.length cc bl can pa ha fu).toArray] w (MovesR ⟨F, R, xs, bl, can, pa, ha, fu⟩ w) := by
 obtain ⟨F', R', e1, e2, hF, hR, hlen, hor, hc15, h88, hha, hfu⟩ := ok_fact hv (by omega)
 obtain rfl : F = F' := by omega
 obtain rfl : R = R' := by omega
 clear e1 e2 hc15 h88
 have h9 : 9 ≤ F * R := Nat.mul_le_mul hF.1 hR.1
 have hFR : F * R ≤ 64 := Nat.mul_le_mul hF.2 hR.2
 have hbo : boardB F R xs = true := by unfold orthB at hor; rw [Bool.and_eq_true] at hor; exact hor.1
 have hH : PosH F R xs can ha fu := ⟨hF, hR, hlen, orth6 hor, hca, hha, by omega⟩
 obtain ⟨g, o, rfl, hgw⟩ := arr_at hx (j := 0) (by omega)
 have hgl : g < w.heap.size := block_lt_of_cell hgw
 obtain ⟨occ, hocc⟩ : ∃ occ, occ = (⟨F, R, xs, bl, can, pa, ha, fu⟩ : Pos).occ := ⟨_, rfl⟩
 have hocc2 : occ = setW gNon xs xs.length := hocc
 have hogl : ∀ (f : Int → Bool), setW f xs xs.length < 2 ^ (F * R) := fun f => by
  rw [hlen]
  refine Nat.lt_pow_two_of_testBit _ (fun i hi => ?_)
  rw [setW_bit]; simp; omega
 have ho64 : occ < 2 ^ (F * R) := by rw [hocc2]; exact hogl _
 have hpv := fun W hg hx => posValid_any F R can pa ha fu bl (some ⟨g, o, none⟩) cc xs (by omega) (by omega) hcc W hg hx
 rw [hv] at hpv
 have hsd := fun W hx => sides_any F R (some ⟨g, o, none⟩) cc xs W hx hbo
 have hor2 := setW_or xs xs.length
 rw [← hocc2] at hor2
 have hown : ownS ⟨F, R, xs, bl, can, pa, ha, fu⟩ = setW (if bl then gPos else gNeg) xs xs.length := rfl
 have hskL : skL ⟨F, R, xs, bl, can, pa, ha, fu⟩ = skK ⟨F, R, xs, bl, can, pa, ha, fu⟩ (bitsL (ownS ⟨F, R, xs, bl, can, pa, ha, fu⟩)).length := rfl
 have hsk : ∀ k, skK ⟨F, R, xs, bl, can, pa, ha, fu⟩ (k + 1) = skK ⟨F, R, xs, bl, can, pa, ha, fu⟩ k ++ skC ⟨F, R, xs, bl, can, pa, ha, fu⟩ ((bitsL (ownS ⟨F, R, xs, bl, can, pa, ha, fu⟩))[k]?.getD 0) := fun k => rfl
 have hsk0 : skK ⟨F, R, xs, bl, can, pa, ha, fu⟩ 0 = [] := rfl
 have hskl := skK_len ⟨F, R, xs, bl, can, pa, ha, fu⟩ hF.2
 have hbl := bitsL_len (ownS ⟨F, R, xs, bl, can, pa, ha, fu⟩)
 have howk := fun k (h : k < (bitsL (ownS ⟨F, R, xs, bl, can, pa, ha, fu⟩)).length) => own_kind (xs := xs) (bl := bl) (k := k) h
 have hol : ownS ⟨F, R, xs, bl, can, pa, ha, fu⟩ < 18446744073709551616 := Nat.lt_of_lt_of_le (show ownS ⟨F, R, xs, bl, can, pa, ha, fu⟩ < 2 ^ (F * R) by rw [hown]; exact hogl _) (Nat.pow_le_pow_right (n := 2) (by decide) hFR)
 have hsl := skL_len ⟨F, R, xs, bl, can, pa, ha, fu⟩ hF.2
 have hwl := hogl gPos
 have hbl2 := hogl gNeg
 have hp64 : 2 ^ (F * R) ≤ 18446744073709551616 := Nat.pow_le_pow_right (by decide) hFR
 have hoe := u64_or_nat (setW gPos xs xs.length) (setW gNeg xs xs.length) (by omega) (by omega)
 rw [hor2] at hoe
 rw [← hown] at howk
 have hat : ∀ k, (⟨F, R, xs, bl, can, pa, ha, fu⟩ : Pos).at_ (k : Nat) = xs[k]?.getD 0 := fun k => by unfold Pos.at_; rw [Int.toNat_natCast]
 have hb8 : 8 ≤ w.heap.size := by have := hg.1.2.2.1.1; omega
 clear hor2 hogl hwl hbl2 hp64 hor hbo hgw
 obtain ⟨OS, hOS⟩ : ∃ OS, OS = ownS ⟨F, R, xs, bl, can, pa, ha, fu⟩ := ⟨_, rfl⟩
 rw [← hOS] at hown hskL hsk hbl howk hol
 obtain ⟨WS, hWS⟩ : ∃ WS, WS = setW gPos xs xs.length := ⟨_, rfl⟩
 obtain ⟨BS, hBS⟩ : ∃ BS, BS = setW gNeg xs xs.length := ⟨_, rfl⟩
 rw [← hWS, ← hBS] at hsd hoe
 have howb : OS = if bl then WS else BS := by rw [hown, hWS, hBS]; cases bl <;> rfl
 have hr1 : (R : Int) - 1 = ((R - 1 : Nat) : Int) := by omega
 obtain ⟨la, hla⟩ : ∃ la, la = if bl then R - 1 else 0 := ⟨_, rfl⟩
 obtain ⟨Rs, hRs⟩ : ∃ Rs, Rs = MovesR ⟨F, R, xs, bl, can, pa, ha, fu⟩ w := ⟨_, rfl⟩
 rw [← hRs]
 have hB1 := below_box w (.cells (posCs F R (some ⟨g, o, none⟩) xs.length cc bl can pa ha fu).toArray 26)
 have hP1 := HasO.new w (.cells (posCs F R (some ⟨g, o, none⟩) xs.length cc bl can pa ha fu).toArray 26)
 have hg1 := hg.call hB1
 have ht1 : TzOk (w.alloc (.cells (posCs F R (some ⟨g, o, none⟩) xs.length cc bl can pa ha fu).toArray 26)) := ht.call hB1
 have hx1 := hx.call hB1
 replace hRs := Lib.hid hRs
 replace hlen := Lib.hid hlen
 replace hocc := Lib.hid hocc
 replace hocc2 := Lib.hid hocc2
 replace hOS := Lib.hid hOS
 replace hWS := Lib.hid hWS
 replace hBS := Lib.hid hBS
 replace howb := Lib.hid howb
 replace hla := Lib.hid hla
 replace hown := Lib.hid hown
 replace hskL := Lib.hid hskL
 replace hr1 := Lib.hid hr1
 refine (callsIn_wide (n := 3)).1 ?_
 refine callsIn_of_wp_marks Tryz.func11 rfl trivial ?_ rfl
 simp only [Tryz.ntmps11, List.size_toArray, List.length_cons, List.length_nil, Nat.reduceAdd, Nat.reduceSub, Array.replicate_succ, Array.replicate_zero, List.push_toArray, List.append_toArray, List.nil_append, List.cons_append]
 rw [wpIn_wide]
 go_upto_region 1 with fail
 change Code.wp _ _ _ _ (w.alloc (.cells (posCs F R (some ⟨g, o, none⟩) xs.length cc bl can pa ha fu).toArray 26))
 obtain ⟨q1, hq1⟩ : ∃ q1, q1 = w.heap.size := ⟨_, rfl⟩
 have hz1 : (w.alloc (.cells (posCs F R (some ⟨g, o, none⟩) xs.length cc bl can pa ha fu).toArray 26)).heap.size = w.heap.size + 1 := by simp
 rw [← hq1] at hP1 hz1 ⊢
 generalize w.alloc (.cells (posCs F R (some ⟨g, o, none⟩) xs.length cc bl can pa ha fu).toArray 26) = W1 at *
 replace hq1 := Lib.hid hq1
 have c0 := hP1.cells
 have l0 := hP1.lt
 go_wp2_with fail
 refine (hpv W1 hg1.1 hx1).mono ?_
 rintro e W2 ⟨rfl, hb2⟩
 have hP2 := hP1.call hb2
 have hg2 := hg1.call hb2
 have ht2 : TzOk W2 := ht1.call hb2
 have hx2 := hx1.call hb2
 have hB2 := below_call hB1 hB1.size hb2
 clear hpv c0 l0 hP1 hg1 ht1 hx1 hB1
 have c0 := hP2.cells
 have l0 := hP2.lt
 go_wp2_with fail
 refine (hsd W2 hx2).mono ?_
 rintro e W3 ⟨rfl, hb3⟩
 have hP3 := hP2.call hb3
 have hg3 := hg2.call hb3
 have ht3 : TzOk W3 := ht2.call hb3
 have hx3 := hx2.call hb3
 have hB3 := below_call hB2 hB2.size hb3
 clear hsd c0 l0 hP2 hg2 ht2 hx2 hB2 hb2
 have hz3 := hb3.size
 go_upto_region 4 with fail
 have c0 := hP3.cells
 have l0 := hP3.lt
 have l1 : w.heap.size ≤ W3.heap.size := hB3.size
 go_upto_region 5 with fail
 change Code.wp _ _ _ _ ((W3.alloc (.cells (srCs F R (some ⟨g, o, none⟩) xs.length cc bl can pa ha fu occ (.slice none 0 0)).toArray 71)).alloc (.cells #[.pointer (some ⟨W3.heap.size, 0, none⟩)] 69))
 have hbA := (below_box W3 (.cells (srCs F R (some ⟨g, o, none⟩) xs.length cc bl can pa ha fu occ (.slice none 0 0)).toArray 71)).alloc (by simp) (.cells #[.pointer (some ⟨W3.heap.size, 0, none⟩)] 69)
 have hSx := (HasO.new W3 (.cells (srCs F R (some ⟨g, o, none⟩) xs.length cc bl can pa ha fu occ (.slice none 0 0)).toArray 71)).alloc (.cells #[.pointer (some ⟨W3.heap.size, 0, none⟩)] 69)
 have hQC := HasO.new' (W3.alloc (.cells (srCs F R (some ⟨g, o, none⟩) xs.length cc bl can pa ha fu occ (.slice none 0 0)).toArray 71)) (.cells #[.pointer (some ⟨W3.heap.size, 0, none⟩)] 69) (q := W3.heap.size + 1) (by simp)
 have hP4 := hP3.call hbA
 have hg4 := hg3.call hbA
 have ht4 : TzOk _ := ht3.call hbA
 have hx4 := hx3.call hbA
 have hB4 := below_call hB3 hB3.size hbA
 clear c0 hP3 hg3 ht3 hx3
 obtain ⟨qs, hqs⟩ : ∃ qs, qs = W3.heap.size := ⟨_, rfl⟩
 rw [← hqs] at hSx hQC ⊢
 have hl4 : qs + 1 < ((W3.alloc (.cells (srCs F R (some ⟨g, o, none⟩) xs.length cc bl can pa ha fu occ (.slice none 0 0)).toArray 71)).alloc (.cells #[.pointer (some ⟨qs, 0, none⟩)] 69)).heap.size := by rw [hqs]; simp
 have hq1s : q1 < qs := by rw [hqs]; exact l0
 have hqw : w.heap.size ≤ qs := by rw [hqs]; exact l1
 rw [← hqs] at hbA hP4 hg4 ht4 hx4 hB4
 replace hqs := Lib.hid hqs
 generalize (W3.alloc (.cells (srCs F R (some ⟨g, o, none⟩) xs.length cc bl can pa ha fu occ (.slice none 0 0)).toArray 71)).alloc (.cells #[.pointer (some ⟨qs, 0, none⟩)] 69) = W4 at *
 clear hbA l0 l1 hB3 hb3 hz3
 have hbL := below_box W4 (.cells #[.int .i64 ((R : Int) - 1)] 3)
 have h9 := HasO.new W4 (.cells #[.int .i64 ((R : Int) - 1)] 3)
 have hSx5 := hSx.call hbL
 have hQC5 := hQC.call hbL
 have hP5 := hP4.call hbL
 have hg5 := hg4.call hbL
 have ht5 : TzOk _ := ht4.call hbL
 have hx5 := hx4.call hbL
 have hB5 := below_call hB4 hB4.size hbL
 have c1 := hP4.cells
 have l1 := hP4.lt
 cases bl
 ·have e8 : OS = BS := howb.out
  have e9 : la = 0 := hla.out
  replace e8 := Lib.hid e8
  go_upto_region 9 with fail
  rename_i k1 hk1 k0 hk0
  replace hk1 := Lib.hid hk1
  change Code.wp _ _ _ _ (W4.alloc (.cells #[.int .i64 ((R : Int) - 1)] 3))
  obtain ⟨q9, hq9⟩ : ∃ q9, q9 = W4.heap.size := ⟨_, rfl⟩
  rw [← hq9] at h9 hl4 ⊢
  replace hq9 := Lib.hid hq9
  generalize W4.alloc (.cells #[.int .i64 ((R : Int) - 1)] 3) = W5 at *
  clear c1 l1 hSx hQC hP4 hg4 ht4 hx4 hB4
  have c1 := hP5.cells
  have l1 := hP5.lt
  have f9 := h9.frozen 0
  have d9 := h9.cells 0
  have l9 := h9.lt
  go_wp2_with fail
  have hA9 : Alt q9 (q9 + 1) W5 (W5.setCell ⟨q9, 0, none⟩ (.int .i64 0)) := Alt.setCell ⟨Nat.le_refl _, Nat.lt_succ_self _⟩
  have hbq : w.heap.size ≤ q9 := by omega
  have hB6 := hA9.below hB5 hbq hB5.size
  have hSx6 := hA9.hasO hSx5 (.inl (by omega))
  have hQC6 := hA9.hasO hQC5 (.inl (by omega))
  have hP6 := hA9.hasO hP5 (.inl (by omega))
  have h96 : HasO (W5.setCell ⟨q9, 0, none⟩ (.int .i64 0)) q9 (.cells #[.int .i64 ((0 : Nat) : Int)] 3 (0, 0)) := h9.set_ 0 (.int .i64 0)
  have hsta : Sta w.heap.size (some ⟨g, o, none⟩) xs (W5.setCell ⟨q9, 0, none⟩ (.int .i64 0)) := Sta.below ⟨hg5, ht5, hx5, hb8, hB5.size, fun q e => by injection e with e; rw [← e]; exact hgl⟩ (hA9.below (Below.refl _ _) hbq hB5.size)
  have hg6 := hsta.g
  have ht6 := hsta.t
  have hx6 := hsta.x
  generalize W5.setCell ⟨q9, 0, none⟩ (.int .i64 0) = W6 at *
  subst e9
  refine hk1.out _ _ ?_
  refine mvOut F R xs false can pa ha fu g o cc occ hH hocc.out ho64 qs q1 (qs + 1) q9 OS 0 w hOS.out hol hla.out _ ?_ W6 ⟨⟨hg6, ht6, hx6, hb8, hB6.size, fun q e => ?_⟩, hSx6, ⟨rfl, .inl ⟨rfl, rfl⟩⟩, hqw⟩ (Nib.of_below qs ⟨hB6.os, hB6.tape, hB6.output, hB6.size, hB6.block⟩ _)
   hP6 hQC6 h96 ⟨by omega, by omega, by omega⟩ Rs (fun v' w' h1 h2 => ?_) _ rfl
  ·rw [e8.out]; exact ⟨rfl, rfl, rfl, rfl, rfl⟩
  ·injection e with e; rw [← e]; exact hgl
  ·rw [hRs.out]; exact ⟨v', rfl, h1, h2⟩
 ·have e8 : OS = WS := howb.out
  have e9 : la = R - 1 := hla.out
  replace e8 := Lib.hid e8
  replace e9 := Lib.hid e9
  go_upto_region 9 with fail
  rename_i k1 hk1 k0 hk0
  replace hk1 := Lib.hid hk1
  change Code.wp _ _ _ _ (W4.alloc (.cells #[.int .i64 ((R : Int) - 1)] 3))
  obtain ⟨q9, hq9⟩ : ∃ q9, q9 = W4.heap.size := ⟨_, rfl⟩
  rw [← hq9] at h9 hl4 ⊢
  replace hq9 := Lib.hid hq9
  generalize W4.alloc (.cells #[.int .i64 ((R : Int) - 1)] 3) = W5 at *
  clear c1 l1 hSx hQC hP4 hg4 ht4 hx4 hB4
  have c1 := hP5.cells
  have l1 := hP5.lt
  have f9 := h9.frozen 0
  have d9 := h9.cells 0
  have l9 := h9.lt
  go_wp2_with fail
  have hB6 := hB5
  have hSx6 := hSx5
  have hQC6 := hQC5
  have hP6 := hP5
  have h96 : HasO W5 q9 (.cells #[.int .i64 (la : Nat)] 3 (0, 0)) := by rw [e9.out, ← hr1.out]; exact h9
  have hg6 := hg5
  have ht6 := ht5
  have hx6 := hx5
  refine hk1.out _ _ ?_
  refine mvOut F R xs true can pa ha fu g o cc occ hH hocc.out ho64 qs q1 (qs + 1) q9 OS la w hOS.out hol hla.out _ ?_ W5 ⟨⟨hg6, ht6, hx6, hb8, hB6.size, fun q e => ?_⟩, hSx6, ⟨rfl, .inl ⟨rfl, rfl⟩⟩, hqw⟩ (Nib.of_below qs ⟨hB6.os, hB6.tape, hB6.output, hB6.size, hB6.block⟩ _)
   hP6 hQC6 h96 ⟨by omega, by omega, by omega⟩ Rs (fun v' w' h1 h2 => ?_) _ rfl
  ·rw [e8.out]; exact ⟨rfl, rfl, rfl, rfl, rfl⟩
  ·injection e with e; rw [← e]; exact hgl
  ·rw [hRs.out]; exact ⟨v', rfl, h1, h2⟩
end Go.Proofs.YtefmplccbkmalaaGreatDoor
namespace Go.Proofs.YtefmplccbkmalaaGreatDoor
open Go.RowKit

def kP1 : Pos := ⟨3, 3, [0, 0, 6, 0, 0, 0, -6, 0, 0], false, 0, -1, 0, 1⟩
def kP2 : Pos := ⟨3, 3, [0, 0, 6, 0, 0, 0, -6, 0, 0], true, 0, -1, 1, 1⟩
def kP3 : Pos := ⟨3, 3, [0, 0, 6, 0, 0, 0, -6, 0, 0], true, 0, -1, 0, 1⟩
def kP4 : Pos := ⟨3, 6, [0, 0, 6, 0, 0, 0, 0, 0, 0, 0, 1, 0, 0, 0, 0, -6, 0, 0], true, 0, -1, 0, 1⟩
def kP5 : Pos := ⟨8, 8, [0, 0, 6, 4, 0, 0, 0, 4] ++ List.replicate 48 0 ++ [0, 0, 0, 0, -6, 0, 0, 0], true, 0, -1, 4, 9⟩
def wntL : Nat → List Ret
 | 0 => []
 | k + 1 => wntL k ++ [⟨⟨if k < 4 then 1 else 5, 2, 0⟩, ((k % 4 : Nat) : Int) - 5, 2, 0, -1⟩]
theorem kn1 : movW kP1 = [] := by decide +kernel
theorem kn2 : movW kP2 = [⟨⟨1, 2, 0⟩, 0, -1, 0, -1⟩, ⟨⟨5, 2, 0⟩, 0, -1, 0, -1⟩] := by decide +kernel
theorem kn3 : movW kP3 = wntL 8 := by decide +kernel
def knB (r : Ret) : Bool := (r.pa == 10) && ((r.at_ == 7) && ((r.cp == -1) && (r.mv.tg == 10)))
theorem kn4 : (movW kP4).length = 25 ∧ (movW kP4).countP knB = 2 := by decide +kernel
theorem kn5 : ∀ k : Nat, k < 4 → mayW kP5 ⟨⟨4, 2, 0⟩, 0, -1, k, -1⟩ = decide (2 ≤ k) := by decide +kernel
theorem kv1 : pvW 3 3 kP1.xs false 0 (-1) 0 1 = true := by rw [pv_eq]; decide +kernel
theorem kv2 : pvW 3 3 kP2.xs true 0 (-1) 1 1 = true := by rw [pv_eq]; decide +kernel
theorem kv3 : pvW 3 3 kP3.xs true 0 (-1) 0 1 = true := by rw [pv_eq]; decide +kernel
theorem kv4 : pvW 3 6 kP4.xs true 0 (-1) 0 1 = true := by rw [pv_eq]; decide +kernel
theorem kv5 : pvW 8 8 kP5.xs true 0 (-1) 4 9 = true := by rw [pv_eq]; decide +kernel
def splF (sep : UInt8) (acc : List (List UInt8)) (c : UInt8) : List (List UInt8) := if c = sep then acc ++ [[]] else acc.dropLast ++ [acc.getLastD [] ++ [c]]
def splT (sep : UInt8) (s : List UInt8) : Nat → List (List UInt8)
 | 0 => [[]]
 | k + 1 => splF sep (splT sep s k) (s[k]?.getD 0)
theorem splT_len (sep : UInt8) (s : List UInt8) : ∀ k, 1 ≤ (splT sep s k).length ∧ (splT sep s k).length ≤ k + 1 := by
 intro k
 induction k with
 | zero => simp [splT]
 | succ k ih =>
  simp only [splT, splF]
  split
  ·simp; omega
  ·simp; omega
theorem splT_word (sep : UInt8) (s : List UInt8) : ∀ k, ∀ l ∈ splT sep s k, l.length ≤ k := by
 intro k
 induction k with
 | zero => intro l hl; simp [splT] at hl; simp [hl]
 | succ k ih =>
  intro l hl
  simp only [splT, splF] at hl
  split at hl
  ·rcases List.mem_append.1 hl with h | h
   ·exact Nat.le_succ_of_le (ih l h)
   ·simp at h; simp [h]
  ·rcases List.mem_append.1 hl with h | h
   ·exact Nat.le_succ_of_le (ih l (List.dropLast_subset _ h))
   ·simp only [List.mem_singleton] at h
    rw [h, List.length_append, List.length_singleton]
    have hne : splT sep s k ≠ [] := fun h0 => by have := (splT_len sep s k).1; rw [h0] at this; simp at this
    have hm := ih ((splT sep s k).getLast hne) (List.getLast_mem hne)
    rw [List.getLastD_eq_getLast?, List.getLast?_eq_some_getLast hne]
    simp only [Option.getD_some]
    omega
def spl (sep : UInt8) (s : List UInt8) : List (List UInt8) := splT sep s s.length

def ltrS : List UInt8 := [112, 110, 98, 114, 113, 107, 97, 99, 100, 101, 102, 103, 104, 105, 106]
def ltrL : List UInt8 := [80, 78, 66, 82, 81, 75, 65, 67, 68, 69, 70, 71, 72, 73, 74]
def ltrOf (p : Int) : UInt8 := if p < 0 then ltrS[(-p - 1).toNat]?.getD 0 else ltrL[(p - 1).toNat]?.getD 0
def ltrP (c : UInt8) : Nat → Int
 | 0 => 0
 | k + 1 => if (15 - (k : Int)) ≠ 0 ∧ ltrOf (15 - (k : Int)) = c then 15 - (k : Int) else ltrP c k
def rowF (acc : Option (List Int × Bool)) (c : UInt8) : Option (List Int × Bool) :=
 match acc with
 | none => none
 | some (l, d) => if 49 ≤ c.toNat ∧ c.toNat ≤ 56 then (if d then none else some (l ++ List.replicate (c.toNat - 48) 0, true)) else (if ltrP c 31 = 0 then none else some (l ++ [ltrP c 31], false))
def rowT (s : List UInt8) : Nat → Option (List Int × Bool)
 | 0 => some ([], false)
 | k + 1 => rowF (rowT s k) (s[k]?.getD 0)
end Go.Proofs.YtefmplccbkmalaaGreatDoor
