import Derived.Test.YtefmplccbkmalaaGreatDoorF01
import Derived.Test.YtefmplccbkmalaaGreatDoorF06
import Derived.Test.YtefmplccbkmalaaGreatDoorF32
import Derived.Sort.Statements
import Derived.Lib.QuietBelow
namespace Go.Proofs.YtefmplccbkmalaaGreatDoor
open Go.RowKit Go.Sort Go.BigFrame

abbrev retsV (l : List Ret) : List Value := l.flatMap Ret.cs
abbrev zeroRet : Ret := ⟨⟨0, 0, 0⟩, 0, 0, 0, 0⟩
instance : Inhabited Ret := ⟨zeroRet⟩
theorem retsV_cons (m : Ret) (L : List Ret) : retsV (m :: L) = m.cs ++ retsV L := by simp [retsV]
theorem retsV_app (L M : List Ret) : retsV (L ++ M) = retsV L ++ retsV M := by simp [retsV]
theorem retsV_len (l : List Ret) : (retsV l).length = l.length * 7 := by
 induction l with
 | nil => rfl
 | cons m l ih =>
  rw [retsV_cons, List.length_append, ih, show m.cs.length = 7 from rfl, show (m :: l).length = l.length + 1 from rfl]
  omega
theorem ret_one (m : Ret) : ∀ u ∈ m.cs, u.oneCell' = true := by
 intro u hu
 simp at hu
 rcases hu with rfl | rfl | rfl | rfl | rfl | rfl | rfl <;> rfl
theorem retsV_get : ∀ (L : List Ret) (j i : Nat) (v : Value), j < L.length → (L[j]?.getD zeroRet).cs[i]? = some v → (retsV L)[j * 7 + i]? = some v := by
 intro L
 induction L with
 | nil => intro j i v h; simp at h
 | cons m L ih =>
  intro j i v hj hv
  have h : retsV (m :: L) = m.cs ++ retsV L := by simp [retsV]
  rw [h]
  rcases j with _ | j
  ·simp only [List.getElem?_cons_zero, Option.getD_some] at hv
   have : i < m.cs.length := (List.getElem?_eq_some_iff.1 hv).1
   rw [Nat.zero_mul, Nat.zero_add, List.getElem?_append_left this]; exact hv
  ·simp only [List.getElem?_cons_succ] at hv
   rw [List.getElem?_append_right (by show 7 ≤ _; omega), show (j + 1) * 7 + i - m.cs.length = j * 7 + i by show _ - 7 = _; omega]
   exact ih j i v (by simpa using hj) hv
theorem retsV_one (L : List Ret) : ∀ u ∈ retsV L, u.oneCell' = true := by
 intro u hu
 obtain ⟨m, _, hm⟩ := List.mem_flatMap.1 hu
 exact ret_one m u hm
theorem retsV_take : ∀ (L : List Ret) (j : Nat), retsV (L.take j) = (retsV L).take (j * 7) := by
 intro L
 induction L with
 | nil => intro j; simp [retsV]
 | cons m L ih =>
  intro j
  rcases j with _ | j
  ·simp [retsV]
  ·rw [List.take_succ_cons, retsV_cons, retsV_cons, ih, List.take_append, List.take_of_length_le (l := m.cs) (by show 7 ≤ _; omega), show (j + 1) * 7 - m.cs.length = j * 7 by show _ - 7 = _; omega]
theorem retsV_drop : ∀ (L : List Ret) (j : Nat), retsV (L.drop j) = (retsV L).drop (j * 7) := by
 intro L
 induction L with
 | nil => intro j; simp [retsV]
 | cons m L ih =>
  intro j
  rcases j with _ | j
  ·simp
  ·rw [List.drop_succ_cons, retsV_cons, ih, List.drop_append, List.drop_of_length_le (l := m.cs) (by show 7 ≤ _; omega), show (j + 1) * 7 - m.cs.length = j * 7 by show _ - 7 = _; omega, List.nil_append]
theorem retsV_set (L : List Ret) {j : Nat} (hj : j < L.length) (x : Ret) : retsV (L.set j x) = (retsV L).take (j * 7) ++ x.cs ++ (retsV L).drop (j * 7 + 7) := by
 rw [List.set_eq_take_append_cons_drop, if_pos hj, retsV_app, retsV_cons, retsV_take, retsV_drop, show (j + 1) * 7 = j * 7 + 7 by omega]
 exact (List.append_assoc _ _ _).symm
structure Ord3 {α : Type} (cf : α → α → Int) : Prop where
 anti : ∀ x y, cf y x = -cf x y
 trans : ∀ x y z, cf x y ≤ 0 → cf y z ≤ 0 → cf x z ≤ 0
theorem Ord3.strict {α : Type} {cf : α → α → Int} (h : Ord3 cf) {x y z : α} (h1 : cf x y ≤ 0) (h2 : cf y z ≤ 0) (h0 : cf x z = 0) : cf x y = 0 ∧ cf y z = 0 := by
 have a1 := h.anti x z
 have a2 := h.anti y z
 have a3 := h.anti x y
 have t1 := h.trans z x y (by omega) h1
 have t2 := h.trans y z x h2 (by omega)
 omega
theorem Ord3.swo {α : Type} {cf : α → α → Int} (h : Ord3 cf) : SWO (fun x y => decide (cf x y < 0)) := by
 refine ⟨fun x => ?_, fun x y z h1 h2 => ?_, fun x y z h1 h2 => ?_⟩
 ·have := h.anti x x
  simp; omega
 ·simp only [decide_eq_true_eq] at h1 h2 ⊢
  have h3 := h.trans x y z (by omega) (by omega)
  rcases (by omega : cf x z = 0 ∨ cf x z < 0) with h0 | h0
  ·have := h.strict (by omega : cf x y ≤ 0) (by omega : cf y z ≤ 0) h0
   omega
  ·exact h0
 ·simp only [decide_eq_false_iff_not] at h1 h2 ⊢
  have a1 := h.anti x z
  have a2 := h.anti y z
  have a3 := h.anti x y
  have h3 := h.trans z y x (by omega) (by omega)
  omega
theorem ord_cI : Ord3 cI := by
 refine ⟨fun x y => ?_, fun x y z => ?_⟩ <;> unfold cI
 ·repeat' split
  all_goals omega
 ·intro h1 h2
  repeat' split at h1
  all_goals repeat' split at h2
  all_goals repeat' split
  all_goals omega
theorem ord_map {α β : Type} {cf : β → β → Int} (h : Ord3 cf) (f : α → β) : Ord3 (fun x y => cf (f x) (f y)) := ⟨fun _ _ => h.anti _ _, fun _ _ _ => h.trans _ _ _⟩
def or2 (a b : Int) : Int := if a ≠ 0 then a else b
theorem ord_or {α : Type} {c1 c2 : α → α → Int} (h1 : Ord3 c1) (h2 : Ord3 c2) : Ord3 (fun x y => or2 (c1 x y) (c2 x y)) := by
 refine ⟨fun x y => ?_, fun x y z => ?_⟩
 ·have a1 := h1.anti x y
  have a2 := h2.anti x y
  unfold or2
  repeat' split
  all_goals omega
 ·intro e1 e2
  have k1 : c1 x y ≤ 0 := by unfold or2 at e1; split at e1 <;> omega
  have k2 : c1 y z ≤ 0 := by unfold or2 at e2; split at e2 <;> omega
  have k3 := h1.trans x y z k1 k2
  show or2 (c1 x z) (c2 x z) ≤ 0
  unfold or2
  by_cases h0 : c1 x z = 0
  ·obtain ⟨z1, z2⟩ := h1.strict k1 k2 h0
   unfold or2 at e1 e2
   rw [if_neg (by omega)] at e1 e2
   rw [if_neg (by omega)]
   exact h2.trans x y z e1 e2
  ·rw [if_pos h0]; exact k3
theorem ord_zero {α : Type} : Ord3 (fun _ _ : α => (0 : Int)) := ⟨fun _ _ => rfl, fun _ _ _ _ _ => Int.le_refl _⟩
theorem orL_cons (x : Int) (l : List Int) : orL (x :: l) = or2 x (orL l) := by
 unfold or2
 by_cases h : x = 0 <;> simp [orL, h]
def cmpM (a b : Mv) : Int := orL [cI a.fr b.fr, cI a.tg b.tg, cI a.pr b.pr]
def cmpR (a b : Ret) : Int := orL [orL [cI a.mv.fr b.mv.fr, cI a.mv.tg b.mv.tg, cI a.mv.pr b.mv.pr], cI a.cp b.cp, cI a.at_ b.at_, cI a.ca b.ca, cI a.pa b.pa]
theorem ord_cmpM : Ord3 cmpM := by
 have h : cmpM = fun a b => or2 (cI a.fr b.fr) (or2 (cI a.tg b.tg) (or2 (cI a.pr b.pr) 0)) := by
  funext a b
  unfold cmpM
  rw [orL_cons, orL_cons, orL_cons]; rfl
 rw [h]
 exact ord_or (ord_map ord_cI Mv.fr) (ord_or (ord_map ord_cI Mv.tg) (ord_or (ord_map ord_cI Mv.pr) ord_zero))
theorem ord_cmpR : Ord3 cmpR := by
 have h : cmpR = fun a b => or2 (cmpM a.mv b.mv) (or2 (cI a.cp b.cp) (or2 (cI a.at_ b.at_) (or2 (cI a.ca b.ca) (or2 (cI a.pa b.pa) 0)))) := by
  funext a b
  show orL [cmpM a.mv b.mv, cI a.cp b.cp, cI a.at_ b.at_, cI a.ca b.ca, cI a.pa b.pa] = _
  rw [orL_cons, orL_cons, orL_cons, orL_cons, orL_cons]; rfl
 rw [h]
 exact ord_or (ord_map ord_cmpM Ret.mv) (ord_or (ord_map ord_cI Ret.cp) (ord_or (ord_map ord_cI Ret.at_) (ord_or (ord_map ord_cI Ret.ca) (ord_or (ord_map ord_cI Ret.pa) ord_zero))))
theorem or2_zero {a b : Int} (h : or2 a b = 0) : a = 0 ∧ b = 0 := by
 unfold or2 at h
 split at h
 ·contradiction
 ·rename_i h2; exact ⟨by omega, h⟩
theorem cI_zero {a b : Int} (h : cI a b = 0) : a = b := by
 unfold cI at h
 split at h
 ·cases h
 ·split at h
  ·cases h
  ·omega
theorem cmpR_eq {a b : Ret} (h : cmpR a b = 0) : a = b := by
 unfold cmpR at h
 simp only [orL_cons] at h
 obtain ⟨h1, h⟩ := or2_zero h
 obtain ⟨h2, h⟩ := or2_zero h
 obtain ⟨h3, h⟩ := or2_zero h
 obtain ⟨h4, h⟩ := or2_zero h
 obtain ⟨h5, _⟩ := or2_zero h
 obtain ⟨k1, h1⟩ := or2_zero h1
 obtain ⟨k2, h1⟩ := or2_zero h1
 obtain ⟨k3, _⟩ := or2_zero h1
 obtain ⟨⟨a1, a2, a3⟩, a4, a5, a6, a7⟩ := a
 obtain ⟨⟨b1, b2, b3⟩, b4, b5, b6, b7⟩ := b
 simp only [Ret.mk.injEq, Mv.mk.injEq]
 exact ⟨⟨cI_zero k1, cI_zero k2, cI_zero k3⟩, cI_zero h2, cI_zero h3, cI_zero h4, cI_zero h5⟩
theorem flat_get (d : Array Ret) (t : Nat) : (flatK Ret.cs 7 d).toList[t]? = (retsV d.toList)[t]? := by
 by_cases ht : t < d.size * 7
 ·have hj : t / 7 < d.size := by omega
  have hi : t % 7 < 7 := Nat.mod_lt _ (by omega)
  have h1 := get_flatK Ret.cs 7 d t ht
  have hx : d.toList[t / 7]?.getD zeroRet = d[t / 7]! := by
   rw [Array.getElem?_toList, Array.getElem?_eq_getElem hj]
   simp [getElem!_pos d (t / 7) hj]
  have h2 : (d[t / 7]!.cs)[t % 7]? = some ((Ret.cs d[t / 7]!)[t % 7]!) := by
   have hl : (Ret.cs d[t / 7]!).length = 7 := rfl
   rw [List.getElem?_eq_getElem (by rw [hl]; exact hi)]
   simp [hi]
  have h3 := retsV_get d.toList (t / 7) (t % 7) _ (by simpa using hj) (by rw [hx]; exact h2)
  rw [show t / 7 * 7 + t % 7 = t by omega] at h3
  rw [h3, ← h1, Array.getElem?_toList, Array.getElem?_eq_getElem (by simpa using ht)]
  simp [ht]
 ·rw [List.getElem?_eq_none (by simp; omega), List.getElem?_eq_none (by rw [retsV_len]; simp; omega)]
theorem flat_rets (d : Array Ret) : (flatK Ret.cs 7 d).toList = retsV d.toList := List.ext_getElem? (flat_get d)
theorem put_take (F cur : Array Value) (h : F.size ≤ cur.size) : (putCells id 0 F cur).toList.take F.size = F.toList := by
 apply List.ext_getElem?
 intro t
 by_cases ht : t < F.size
 ·rw [List.getElem?_take_of_lt ht, Array.getElem?_toList, Array.getElem?_toList]
  unfold putCells
  rw [Array.getElem?_mapIdx, Array.getElem?_eq_getElem (show t < cur.size by omega), Array.getElem?_eq_getElem ht]
  simp [ht]
 ·rw [List.getElem?_eq_none (by simp; omega), List.getElem?_eq_none (by simpa using ht)]
theorem regrown_lays {P : Program} {f : FuncId} {args : Array Value} {w : World} {v : Value} (h : Calls P f args w fun e w' => e = .returned v ∧ Below w.heap.size w w') :
  Calls P f args w fun e w' => e = .returned v ∧ ∃ q os, w' = grow (w.drewN q) os := by
 refine (calls_drawn h).mono ?_
 rintro e w' ⟨⟨rfl, hb⟩, hd⟩
 obtain ⟨p, hp⟩ := regrown_of_below hb
 have hd := hd v rfl
 have hdr : w'.drawn = p.d := by rw [hp]; rfl
 refine ⟨rfl, p.d - w.drawn, p.os, ?_⟩
 rw [hp]
 congr 1
 show redrawn w p.d = w.drewN (p.d - w.drawn)
 unfold redrawn World.drewN
 congr 1
 omega
theorem agg42 (w : World) : (isAgg 42).run Tryz.prog w = .ok true w := by kernel_rfl
theorem size42 (w : World) : (Go.sizeOf 42).run Tryz.prog w = .ok 7 w := by kernel_rfl
theorem cmpR_any (x y : Ret) (W : World) : Calls Tryz.prog 18 #[.agg x.cs.toArray, .agg y.cs.toArray] W fun e w' => e = .returned (.int .i64 (cmpR x y)) ∧ RowKit.Below W.heap.size W w' := retCmp_any x y W
set_option maxRecDepth 100000 in
theorem sortAll_any (base g n cap : Nat) (L : List Ret) (hn : n = L.length) (w : World)
  (hown : w.ownsRow base 42 7 (.slice (some ⟨g, 0, none⟩) n cap) n (retsV L)) (hn2 : n < 100000000) :
  Calls Tryz.prog 33 #[.slice (some ⟨g, 0, none⟩) n cap, .func (.func 18) #[] #[]] w fun e w' => e = .returned (.tuple #[]) ∧ ∃ L', L'.Perm L ∧ L'.Pairwise (fun x y => ¬ cmpR y x < 0) ∧ w'.ownsRow base 42 7 (.slice (some ⟨g, 0, none⟩) n cap) n (retsV L') ∧ w.grownBy w' (some g) := by
 obtain ⟨d, hd⟩ : ∃ d : Array Ret, d.toList = L := ⟨L.toArray, by simp⟩
 have hsz : d.size = n := by rw [hn, ← hd]; simp
 rcases hown.2 with ⟨h1, _⟩ | ⟨g', cap', cur, hv, hbase, hheap, hncap, hcap, hcs, htake⟩
 ·cases h1
 injection hv with hv1 _ hv2
 injection hv1 with hv1; injection hv1 with hv1
 subst hv1 hv2
 have hblk : g < w.heap.size := (Array.getElem?_eq_some_iff.1 hheap).1
 have hH : HoldsK Ret.cs 7 w g 0 d := by
  intro t ht
  have ht' : t < n * 7 := by rw [← hsz]; simpa using ht
  have h1 : cur[t]? = some ((flatK Ret.cs 7 d)[t]!) := by
   have h2 := flat_get d t
   rw [hd, ← htake, List.getElem?_take_of_lt ht', Array.getElem?_toList, Array.getElem?_toList, Array.getElem?_eq_getElem ht] at h2
   rw [← h2, getElem!_pos _ t ht]
  refine ⟨?_, ?_⟩
  ·simp [World.cell?, hheap, h1]
  ·simp [World.frozen?, hheap]
 have hcmp : CmpLays Tryz.prog 18 #[] Ret.cs 7 cmpR g 0 d.size w := fun m os dk _ x y => regrown_lays (cmpR_any x y _)
 have h := AnyQ.slices_SortFunc (P := Tryz.prog) (ρ := Tryz.srt_ren) Tryz.srt 7 agg42 size42 Ret.cs (fun _ => rfl) ret_one cmpR ord_cmpR.swo 18 #[] g 0 cap d w (enters_of Tryz.func18 (by kernel_rfl) rfl) hcmp hH hblk (by omega)
 rw [hsz] at h
 refine h.mono ?_
 rintro e w' ⟨he, d', k, os, hp, hs, rfl⟩
 have hsz' : d'.size = n := by have := hp.1; omega
 refine ⟨he, d'.toList, ?_, ?_, ?_, ?_⟩
 ·rw [← hd]
  have h3 := hp.2.2
  rw [← hsz, Array.extract_size] at h3
  rw [hsz, ← hsz', Array.extract_size] at h3
  exact h3
 ·rw [List.pairwise_iff_getElem]
  intro i j hi hj hij
  have hi' : i < d'.size := by simpa using hi
  have hj' : j < d'.size := by simpa using hj
  have h4 := hs i j (Nat.zero_le _) hij (by omega)
  rw [getElem!_pos d' i hi', getElem!_pos d' j hj'] at h4
  simpa using of_decide_eq_false h4
 ·have hF : (flatK Ret.cs 7 d').size = n * 7 := by rw [size_flatK, hsz']
  refine ⟨by rw [retsV_len]; simp [hsz'], .inr ⟨g, cap, putCells id 0 (flatK Ret.cs 7 d') cur, rfl, hbase, ?_, hncap, hcap, by simp [putCells, hcs], ?_⟩⟩
  ·show ((w.heap.modify g (onCells (putCells id 0 (flatK Ret.cs 7 d')))) ++ os)[g]? = _
   rw [Array.getElem?_append_left (by simpa using hblk), Array.getElem?_modify, if_pos rfl, hheap]
   rfl
  ·rw [← hF, put_take _ _ (by rw [hF, hcs]; exact Nat.mul_le_mul_right 7 hncap), flat_rets]
 ·refine ⟨rfl, rfl, rfl, ?_, ?_⟩
  ·show w.heap.size ≤ ((w.heap.modify g (onCells (putCells id 0 (flatK Ret.cs 7 d')))) ++ os).size
   simp
  ·intro j hj hne
   show ((w.heap.modify g (onCells (putCells id 0 (flatK Ret.cs 7 d')))) ++ os)[j]? = _
   rw [Array.getElem?_append_left (by simpa using hj), Array.getElem?_modify, if_neg (fun e => hne (by rw [e]))]
set_option maxRecDepth 100000 in
theorem insSort_nil (w : World) : Calls Tryz.prog 147 #[.slice none 0 0, .int .i64 0, .int .i64 0, .func (.func 18) #[] #[]] w fun e w' => e = .returned (.tuple #[]) ∧ w = w' := by
 go_enter Tryz.func147, Tryz.ntmps147
 go_wp2_with fail
 go_loopg [8] 1 (fun q iv wr => q = 1 ∧ iv = .int .i64 1 ∧ w = wr)
 case atStart => exact ⟨rfl, rfl, rfl⟩
 case round =>
  obtain ⟨_, rfl, rfl⟩ := hrel
  go_wp2_with fail
  go_end0
  exact ⟨rfl, rfl⟩
set_option maxRecDepth 100000 in
theorem sort_nil (w : World) : Calls Tryz.prog 33 #[.slice none 0 0, .func (.func 18) #[] #[]] w fun e w' => e = .returned (.tuple #[]) ∧ w = w' := by
 have hpd : ∀ lim W, Calls Tryz.prog 94 #[.slice none 0 0, .int .i64 0, .int .i64 0, .int .i64 lim, .func (.func 18) #[] #[]] W fun e w' => e = .returned (.tuple #[]) ∧ W = w' := by
  intro lim W
  have hins := insSort_nil W
  go_enter Tryz.func94, Tryz.ntmps94
  go_wp2_with fail
  go_loopg [1, 2, 3, 10, 11] 1 (fun q a1 a2 a3 b1 b2 wr => q = 1 ∧ a1 = .int .i64 0 ∧ a2 = .int .i64 0 ∧ W = wr)
  case atStart => exact ⟨rfl, rfl, rfl, rfl⟩
  case round =>
   obtain ⟨_, rfl, rfl, rfl⟩ := hrel
   go_wp2_with fail
   refine hins.mono ?_
   rintro e w2 ⟨rfl, rfl⟩
   go_wp2_with fail
   exact bodyPost_ret (results_none rfl _ _ _) rfl ⟨rfl, rfl⟩
 have hbl := Tryz.bits_Len 0 w (by omega) (by omega)
 go_enter Tryz.func33, Tryz.ntmps33
 go_wp2_with fail
 refine hbl.mono ?_
 rintro e w2 ⟨rfl, rfl⟩
 go_wp2_with fail
 refine (hpd _ _).mono ?_
 rintro e w2 ⟨rfl, rfl⟩
 go_wp2_with fail
 go_end0
 exact ⟨rfl, rfl⟩
theorem sortV_any (base n : Nat) (v : Value) (L : List Ret) (hn : n = L.length) (w : World) (hown : w.ownsRow base 42 7 v n (retsV L)) (hn2 : n < 100000000) :
  Calls Tryz.prog 33 #[v, .func (.func 18) #[] #[]] w fun e w' => e = .returned (.tuple #[]) ∧ ∃ L', L'.Perm L ∧ L'.Pairwise (fun x y => ¬ cmpR y x < 0) ∧ w'.ownsRow base 42 7 v n (retsV L') ∧ w.grownBy w' v.ownBlock := by
 rcases hown.2 with ⟨rfl, rfl⟩ | ⟨g, cap, cur, rfl, _⟩
 ·refine (sort_nil w).mono ?_
  rintro e w' ⟨rfl, rfl⟩
  obtain rfl : L = [] := List.length_eq_zero_iff.1 hn.symm
  exact ⟨rfl, [], List.Perm.refl _, List.Pairwise.nil, hown, ⟨rfl, rfl, rfl, Nat.le_refl _, fun _ _ _ => rfl⟩⟩
 ·exact sortAll_any base g n cap L hn w hown hn2
end Go.Proofs.YtefmplccbkmalaaGreatDoor
