import Derived.Test.YtnpomigmeieofaaGreatDoorS33
set_option maxHeartbeats 12800000
namespace Go.Proofs.YtnpomigmeieofaaGreatDoor
open Go.RowKit

def SrtBy (cf : Men → Men → Int) (S L : List Men) : Prop := S.Pairwise (fun x y => cf x y < 0) ∧ ∀ x, x ∈ S ↔ x ∈ L
theorem Ord3.irr {cf : Men → Men → Int} (h : Ord3 cf) (x : Men) : ¬ cf x x < 0 := by have := h.anti x x; omega
theorem Ord3.lt {cf : Men → Men → Int} (h : Ord3 cf) {x y z : Men} (h1 : cf x y < 0) (h2 : cf y z < 0) : cf x z < 0 := by
 have h3 := h.trans x y z (by omega) (by omega)
 rcases (by omega : cf x z = 0 ∨ cf x z < 0) with h0 | h0
 ·have := h.strict (by omega : cf x y ≤ 0) (by omega : cf y z ≤ 0) h0
  omega
 ·exact h0
theorem srt_uniq {cf : Men → Men → Int} (hO : Ord3 cf) : ∀ S T : List Men, S.Pairwise (fun x y => cf x y < 0) → T.Pairwise (fun x y => cf x y < 0) → (∀ x, x ∈ S ↔ x ∈ T) → S = T := by
 intro S
 induction S with
 | nil =>
  intro T _ _ h
  cases T with
  | nil => rfl
  | cons b T => exact absurd ((h b).2 List.mem_cons_self) (by simp)
 | cons a S ih =>
  intro T hS hT h
  cases T with
  | nil => exact absurd ((h a).1 List.mem_cons_self) (by simp)
  | cons b T =>
   obtain ⟨hS1, hS2⟩ := List.pairwise_cons.1 hS
   obtain ⟨hT1, hT2⟩ := List.pairwise_cons.1 hT
   have hab : a = b := by
    rcases List.mem_cons.1 ((h a).1 List.mem_cons_self) with e | ha
    ·exact e
    rcases List.mem_cons.1 ((h b).2 List.mem_cons_self) with e | hb
    ·exact e.symm
    have h1 := hT1 a ha
    have h2 := hS1 b hb
    have := hO.anti a b
    omega
   subst hab
   rw [ih T hS2 hT2 (fun x => ?_)]
   constructor
   ·intro hx
    rcases List.mem_cons.1 ((h x).1 (List.mem_cons_of_mem _ hx)) with rfl | h1
    ·exact absurd (hS1 x hx) (hO.irr x)
    ·exact h1
   ·intro hx
    rcases List.mem_cons.1 ((h x).2 (List.mem_cons_of_mem _ hx)) with rfl | h1
    ·exact absurd (hT1 x hx) (hO.irr x)
    ·exact h1
theorem SrtBy.uniq {cf : Men → Men → Int} (hO : Ord3 cf) {S T L M : List Men} (h1 : SrtBy cf S L) (h2 : SrtBy cf T M) (h : ∀ x, x ∈ L ↔ x ∈ M) : S = T :=
 srt_uniq hO S T h1.1 h2.1 (fun x => ((h1.2 x).trans (h x)).trans (h2.2 x).symm)
def insAt (cf : Men → Men → Int) (x : Men) : List Men → List Men
 | [] => [x]
 | y :: l => if cf y x < 0 then y :: insAt cf x l else x :: y :: l
def srtD (cf : Men → Men → Int) (L : List Men) : List Men := L.foldl (fun out x => if x ∈ out then out else insAt cf x out) []
theorem insAt_mem (cf : Men → Men → Int) (x z : Men) : ∀ l, z ∈ insAt cf x l ↔ z = x ∨ z ∈ l := by
 intro l
 induction l with
 | nil => simp [insAt]
 | cons y l ih =>
  unfold insAt
  split
  ·rw [List.mem_cons, ih, List.mem_cons]
   constructor
   ·rintro (h | h | h)
    ·exact .inr (.inl h)
    ·exact .inl h
    ·exact .inr (.inr h)
   ·rintro (h | h | h)
    ·exact .inr (.inl h)
    ·exact .inl h
    ·exact .inr (.inr h)
  ·rw [List.mem_cons]
theorem insAt_srt {cf : Men → Men → Int} (hO : Ord3 cf) (he : ∀ x y, validB x = true → validB y = true → cf x y = 0 → x = y) {x : Men} (hx : validB x = true) : ∀ l : List Men, (∀ y ∈ l, validB y = true) → x ∉ l → l.Pairwise (fun x y => cf x y < 0) → (insAt cf x l).Pairwise (fun x y => cf x y < 0) := by
 intro l
 induction l with
 | nil => intro _ _ _; simp [insAt]
 | cons y l ih =>
  intro hv hn hp
  obtain ⟨h1, h2⟩ := List.pairwise_cons.1 hp
  unfold insAt
  split
  ·rename_i hc
   refine List.pairwise_cons.2 ⟨fun z hz => ?_, ih (fun z hz => hv z (List.mem_cons_of_mem _ hz)) (fun h => hn (List.mem_cons_of_mem _ h)) h2⟩
   rcases (insAt_mem cf x z l).1 hz with rfl | hz
   ·exact hc
   ·exact h1 z hz
  ·rename_i hc
   have hxy : cf x y < 0 := by
    have h3 := hO.anti x y
    rcases (by omega : cf x y = 0 ∨ cf x y < 0) with h0 | h0
    ·exact absurd (he x y hx (hv y List.mem_cons_self) h0) (fun e => hn (by rw [e]; exact List.mem_cons_self))
    ·exact h0
   refine List.pairwise_cons.2 ⟨fun z hz => ?_, hp⟩
   rcases List.mem_cons.1 hz with rfl | hz
   ·exact hxy
   ·exact hO.lt hxy (h1 z hz)
theorem srtD_by {cf : Men → Men → Int} (hO : Ord3 cf) (he : ∀ x y, validB x = true → validB y = true → cf x y = 0 → x = y) (L : List Men) (hv : ∀ x ∈ L, validB x = true) : SrtBy cf (srtD cf L) L := by
 have key : ∀ (L out : List Men), (∀ x ∈ L, validB x = true) → (∀ x ∈ out, validB x = true) → out.Pairwise (fun x y => cf x y < 0) → SrtBy cf (L.foldl (fun out x => if x ∈ out then out else insAt cf x out) out) (out ++ L) := by
  intro L
  induction L with
  | nil => intro out _ _ h; exact ⟨h, fun x => by simp⟩
  | cons a L ih =>
   intro out h1 h2 h3
   rw [List.foldl_cons]
   have h1' : ∀ x ∈ L, validB x = true := fun x hx => h1 x (List.mem_cons_of_mem _ hx)
   by_cases ha : a ∈ out
   ·rw [if_pos ha]
    have h := ih out h1' h2 h3
    refine ⟨h.1, fun x => (h.2 x).trans ?_⟩
    simp only [List.mem_append, List.mem_cons]
    constructor
    ·rintro (h | h)
     ·exact .inl h
     ·exact .inr (.inr h)
    ·rintro (h | rfl | h)
     ·exact .inl h
     ·exact .inl ha
     ·exact .inr h
   ·rw [if_neg ha]
    have h := ih (insAt cf a out) h1' (fun x hx => by
     rcases (insAt_mem cf a x out).1 hx with rfl | hx
     ·exact h1 x List.mem_cons_self
     ·exact h2 x hx) (insAt_srt hO he (h1 a List.mem_cons_self) out h2 ha h3)
    refine ⟨h.1, fun x => (h.2 x).trans ?_⟩
    simp only [List.mem_append, List.mem_cons, insAt_mem]
    constructor
    ·rintro ((h | h) | h)
     ·exact .inr (.inl h)
     ·exact .inl h
     ·exact .inr (.inr h)
    ·rintro (h | h | h)
     ·exact .inl (.inr h)
     ·exact .inl (.inl h)
     ·exact .inr h
 have h := key L [] hv (by simp) List.Pairwise.nil
 exact h
theorem insAt_at (cf : Men → Men → Int) (x : Men) : ∀ (l : List Men) (k : Nat), k ≤ l.length → (∀ i, i < k → cf (l[i]?.getD zeroMen) x < 0) → (k = l.length ∨ ¬ cf (l[k]?.getD zeroMen) x < 0) → insAt cf x l = l.take k ++ x :: l.drop k := by
 intro l
 induction l with
 | nil =>
  intro k hk _ _
  obtain rfl : k = 0 := by simpa using hk
  rfl
 | cons y l ih =>
  intro k hk h1 h2
  unfold insAt
  cases k with
  | zero =>
   rw [if_neg]
   ·rfl
   ·rcases h2 with h2 | h2
    ·simp at h2
    ·simpa using h2
  | succ k =>
   rw [if_pos (by simpa using h1 0 (Nat.succ_pos _)), ih k (by simpa using hk) (fun i hi => by simpa using h1 (i + 1) (by omega)) (by simpa using h2)]
   rfl
theorem ddN_by {cf : Men → Men → Int} (hO : Ord3 cf) (he : ∀ x y, validB x = true → validB y = true → cf x y = 0 → x = y) (L : List Men) (hv : ∀ x ∈ L, validB x = true) (hs : L.Pairwise (fun x y => ¬ cf y x < 0)) : SrtBy cf (ddN L L.length) L := by
 have key : ∀ j, j ≤ L.length → SrtBy cf (ddN L j) (L.take j) := by
  intro j
  induction j with
  | zero => intro _; exact ⟨List.Pairwise.nil, fun x => by simp [ddN]⟩
  | succ j ih =>
   intro hj
   have h := ih (by omega)
   have hjl : j < L.length := by omega
   have hg : ∀ i, i < L.length → L[i]? = some (L[i]?.getD zeroMen) := fun i hi => by rw [List.getElem?_eq_getElem hi]; rfl
   have htk : ∀ x, x ∈ L.take (j + 1) ↔ x ∈ L.take j ∨ x = L[j]?.getD zeroMen := fun x => by
    rw [List.take_add_one, hg j hjl]
    simp
   have hle : ∀ i k, i ≤ k → k < L.length → cf (L[i]?.getD zeroMen) (L[k]?.getD zeroMen) ≤ 0 := by
    intro i k hik hk
    rcases Nat.lt_or_ge i k with h1 | h1
    ·have h2 := List.pairwise_iff_getElem.1 hs i k (by omega) hk h1
     rw [List.getElem?_eq_getElem hk, List.getElem?_eq_getElem (by omega : i < L.length)]
     have := hO.anti L[i] L[k]
     simp only [Option.getD_some]
     omega
    ·obtain rfl : i = k := by omega
     have := hO.anti (L[i]?.getD zeroMen) (L[i]?.getD zeroMen)
     omega
   have hvi : ∀ i, i < L.length → validB (L[i]?.getD zeroMen) = true := fun i hi => by
    rw [List.getElem?_eq_getElem hi]
    exact hv _ (List.getElem_mem hi)
   rw [ddN]
   split
   ·rename_i hc
    refine ⟨h.1, fun x => ((h.2 x).trans ?_).trans (htk x).symm⟩
    constructor
    ·exact .inl
    ·rintro (h1 | rfl)
     ·exact h1
     ·rw [hc.2]
      obtain ⟨i, rfl⟩ : ∃ i, j = i + 1 := ⟨j - 1, by omega⟩
      rw [Nat.add_sub_cancel, List.take_add_one, hg i (by omega)]
      simp
   ·rename_i hc
    refine ⟨?_, fun x => ?_⟩
    ·refine List.pairwise_append.2 ⟨h.1, by simp, fun x hx y hy => ?_⟩
     obtain rfl := List.mem_singleton.1 hy
     obtain ⟨i, hi, rfl⟩ := List.getElem_of_mem ((h.2 x).1 hx)
     have hij : i < j := by simp at hi; omega
     have hxi : (L.take j)[i] = L[i]?.getD zeroMen := by
      rw [List.getElem_take, List.getElem?_eq_getElem (by omega : i < L.length)]
      rfl
     rw [hxi]
     have h0 := hle i j (by omega) hjl
     rcases (by omega : cf (L[i]?.getD zeroMen) (L[j]?.getD zeroMen) = 0 ∨ cf (L[i]?.getD zeroMen) (L[j]?.getD zeroMen) < 0) with h1 | h1
     ·have h2 := hO.strict (hle i (j - 1) (by omega) (by omega)) (hle (j - 1) j (by omega) hjl) h1
      exact absurd ⟨by omega, (he _ _ (hvi _ (by omega)) (hvi _ hjl) h2.2).symm⟩ hc
     ·exact h1
    ·rw [htk, List.mem_append, h.2 x, List.mem_singleton]
 have h := key L.length (Nat.le_refl _)
 rwa [List.take_length] at h
def code (m : Men) : Nat := (m.w0 + 5 * m.w1 + 25 * m.w2 + 125 * m.w3 + 625 * m.w4 + 3125 * m.b0 + 15625 * m.b1 + 78125 * m.b2 + 390625 * m.b3 + 1953125 * m.b4).toNat
theorem vN_four {m : Men} (h : vN m) : (m.w0 ≤ 4 ∧ m.w1 ≤ 4 ∧ m.w2 ≤ 4 ∧ m.w3 ≤ 4 ∧ m.w4 ≤ 4) ∧ m.b0 ≤ 4 ∧ m.b1 ≤ 4 ∧ m.b2 ≤ 4 ∧ m.b3 ≤ 4 ∧ m.b4 ≤ 4 := by
 unfold vN at h; omega
theorem code_lt {m : Men} (h : vN m) : code m < 9765625 := by
 have h4 := vN_four h
 unfold vN at h
 unfold code
 omega
theorem code_inj {m n : Men} (h : vN m) (k : vN n) (hf : m.f = n.f) (hr : m.r = n.r) (e : code m = code n) : m = n := by
 have h4 := vN_four h
 have k4 := vN_four k
 unfold vN at h k
 have h0 := h.1
 have k0 := k.1
 clear h k
 unfold code at e
 obtain ⟨f, r, w0, w1, w2, w3, w4, b0, b1, b2, b3, b4⟩ := m
 obtain ⟨f', r', w0', w1', w2', w3', w4', b0', b1', b2', b3', b4'⟩ := n
 simp only at *
 have e1 : b4 = b4' := by omega
 subst e1
 have e1 : b3 = b3' := by omega
 subst e1
 have e1 : b2 = b2' := by omega
 subst e1
 have e1 : b1 = b1' := by omega
 subst e1
 have e1 : b0 = b0' := by omega
 subst e1
 have e1 : w4 = w4' := by omega
 subst e1
 have e1 : w3 = w3' := by omega
 subst e1
 have e1 : w2 = w2' := by omega
 subst e1
 have e1 : w1 = w1' := by omega
 subst e1
 have e1 : w0 = w0' := by omega
 subst e1
 rw [hf, hr]
theorem len_le : ∀ (N : Nat) (L : List Nat), L.Nodup → (∀ x ∈ L, x < N) → L.length ≤ N := by
 intro N
 induction N with
 | zero =>
  intro L _ h
  cases L with
  | nil => exact Nat.le_refl _
  | cons a L => exact absurd (h a List.mem_cons_self) (by omega)
 | succ N ih =>
  intro L hd h
  have h1 := ih (L.erase N) (hd.erase N) (fun x hx => by
   obtain ⟨h2, h3⟩ := hd.mem_erase_iff.1 hx
   have := h x h3
   omega)
  rw [List.length_erase] at h1
  split at h1 <;> omega
def Fam (m : Men) (L : List Men) : Prop := L.Nodup ∧ ∀ x ∈ L, vN x ∧ x.f = m.f ∧ x.r = m.r
theorem Fam.len {m : Men} {L : List Men} (h : Fam m L) : L.length ≤ 9765625 := by
 rw [← List.length_map (f := code)]
 refine len_le _ _ ?_ (fun x hx => ?_)
 ·unfold List.Nodup
  rw [List.pairwise_map]
  refine h.1.imp_of_mem fun {x y} hx hy hne e => hne ?_
  obtain ⟨h1, h2, h3⟩ := h.2 x hx
  obtain ⟨h4, h5, h6⟩ := h.2 y hy
  exact code_inj h1 h4 (by rw [h2, h5]) (by rw [h3, h6]) e
 ·obtain ⟨y, hy, rfl⟩ := List.mem_map.1 hx
  exact code_lt (h.2 y hy).1
def addN (L : List Men) : List Men → List Men
 | [] => L
 | x :: N => addN (if x ∈ L then L else L ++ [x]) N
theorem addN_snoc (x : Men) : ∀ (N L : List Men), addN L (N ++ [x]) = if x ∈ addN L N then addN L N else addN L N ++ [x] := by
 intro N
 induction N with
 | nil => intro L; rfl
 | cons y N ih => intro L; exact ih _
theorem addN_take (L N : List Men) {j : Nat} (hj : j < N.length) {x : Men} (hx : x = N[j]?.getD zeroMen) : addN L (N.take (j + 1)) = if x ∈ addN L (N.take j) then addN L (N.take j) else addN L (N.take j) ++ [x] := by
 rw [List.take_add_one, List.getElem?_eq_getElem hj, show N[j] = x by rw [hx, List.getElem?_eq_getElem hj]; rfl, Option.toList_some, addN_snoc]
theorem addN_fam {m : Men} : ∀ (N L : List Men), Fam m L → (∀ x ∈ N, vN x ∧ x.f = m.f ∧ x.r = m.r) → Fam m (addN L N) := by
 intro N
 induction N with
 | nil => intro L h _; exact h
 | cons y N ih =>
  intro L h hN
  refine ih _ ?_ (fun x hx => hN x (List.mem_cons_of_mem _ hx))
  by_cases hy : y ∈ L
  ·rw [if_pos hy]; exact h
  ·rw [if_neg hy]
   refine ⟨List.nodup_append.2 ⟨h.1, by simp, fun a ha b hb => ?_⟩, fun x hx => ?_⟩
   ·obtain rfl := List.mem_singleton.1 hb
    exact fun e => hy (e ▸ ha)
   ·rcases List.mem_append.1 hx with hx | hx
    ·exact h.2 x hx
    ·obtain rfl := List.mem_singleton.1 hx
     exact hN x List.mem_cons_self
def nxtS (m : Men) : List Men := srtD cmpT (nextL m)
def bfs (m : Men) : Nat → List Men
 | 0 => [m]
 | i + 1 => addN (bfs m i) (nxtS ((bfs m i)[i]?.getD zeroMen))
theorem fewL_fr (m : Men) : ∀ k, k ≤ 5 → ∀ x ∈ fewL m k, x.f = m.f ∧ x.r = m.r := by
 intro k
 induction k with
 | zero => intro _ x hx; simp [fewL] at hx
 | succ k ih =>
  intro hk x hx
  rw [fewL] at hx
  split at hx
  ·rcases List.mem_append.1 hx with hx | hx
   ·exact ih (by omega) x hx
   ·obtain rfl := List.mem_singleton.1 hx
    rcases five (show k < 5 by omega) with rfl | rfl | rfl | rfl | rfl <;> exact ⟨rfl, rfl⟩
  ·exact ih (by omega) x hx
theorem tkL_fr (m : Men) : ∀ x ∈ tkL m, x.f = m.f ∧ x.r = m.r := by
 intro x hx
 obtain ⟨y, hy, rfl⟩ := List.mem_map.1 hx
 exact fewL_fr (flipM m) 5 (Nat.le_refl _) y hy
theorem proM_fr (m : Men) (i : Nat) : (proM m i).f = m.f ∧ (proM m i).r = m.r := by
 unfold proM setW_
 split <;> exact ⟨rfl, rfl⟩
theorem plyL_fr (m : Men) : ∀ i, ∀ x ∈ plyL m i, x.f = m.f ∧ x.r = m.r := by
 intro i
 induction i with
 | zero => exact tkL_fr m
 | succ i ih =>
  intro x hx
  rw [plyL] at hx
  rcases List.mem_append.1 hx with hx | hx
  ·exact ih x hx
  ·rcases List.mem_cons.1 hx with rfl | hx
   ·exact proM_fr m _
   ·have h1 := tkL_fr _ x hx
    have h2 := proM_fr m (i + 1)
    exact ⟨h1.1.trans h2.1, h1.2.trans h2.2⟩
theorem playedL_fr (m : Men) : ∀ x ∈ playedL m, x.f = m.f ∧ x.r = m.r := by
 intro x hx
 unfold playedL at hx
 split at hx
 ·exact plyL_fr m 4 x hx
 ·exact tkL_fr m x hx
theorem nextL_ok {m : Men} (h : vN m) : ∀ x ∈ nextL m, vN x ∧ x.f = m.f ∧ x.r = m.r := by
 intro x hx
 unfold nextL at hx
 rcases List.mem_append.1 hx with hx | hx
 ·exact ⟨playedL_valid h x hx, playedL_fr m x hx⟩
 ·obtain ⟨y, hy, rfl⟩ := List.mem_map.1 hx
  exact ⟨flipM_valid (playedL_valid (flipM_valid h) y hy), playedL_fr (flipM m) y hy⟩
theorem cmpT_he (x y : Men) (hx : validB x = true) (hy : validB y = true) (h : cmpT x y = 0) : x = y := cmpT_eq hx hy h
theorem cmpC_he (x y : Men) (hx : validB x = true) (hy : validB y = true) (h : cmpC x y = 0) : x = y := cmpC_eq hx hy h
theorem nxtS_by {m : Men} (h : vN m) : SrtBy cmpT (nxtS m) (nextL m) := srtD_by ord_cmpT cmpT_he _ (fun x hx => (vN_iff x).2 (nextL_ok h x hx).1)
theorem bfs_fam {m : Men} (h : vN m) (i : Nat) (hi : ∀ j, j < i → j < (bfs m j).length) : Fam m (bfs m i) := by
 induction i with
 | zero => exact ⟨by simp [bfs], fun x hx => by simp [bfs] at hx; subst hx; exact ⟨h, rfl, rfl⟩⟩
 | succ i ih =>
  have hF := ih (fun j hj => hi j (by omega))
  have hil := hi i (Nat.lt_succ_self i)
  refine addN_fam _ _ hF (fun x hx => ?_)
  obtain ⟨y, hy⟩ : ∃ y, y = (bfs m i)[i]?.getD zeroMen := ⟨_, rfl⟩
  have hyL : y ∈ bfs m i := by rw [hy, List.getElem?_eq_getElem hil]; exact List.getElem_mem hil
  rw [← hy] at hx
  obtain ⟨h1, h2, h3⟩ := hF.2 y hyL
  obtain ⟨k1, k2, k3⟩ := nextL_ok h1 x ((nxtS_by h1).2 x |>.1 hx)
  exact ⟨k1, k2.trans h2, k3.trans h3⟩
def EndAt (m : Men) (n : Nat) : Prop := (∀ j, j < n → j < (bfs m j).length) ∧ n = (bfs m n).length
theorem EndAt.uniq {m : Men} {a b : Nat} (h1 : EndAt m a) (h2 : EndAt m b) : a = b := by
 rcases Nat.lt_trichotomy a b with h | h | h
 ·have := h2.1 a h; have := h1.2; omega
 ·exact h
 ·have := h1.1 b h; have := h2.2; omega
set_option maxRecDepth 100000 in
theorem sort_nil (fn : Nat) (w : World) : Calls Tryz.prog 69 #[.slice none 0 0, .func (.func fn) #[] #[]] w fun e w' => e = .returned (.tuple #[]) ∧ w = w' := by
 have hpd : ∀ lim W, Calls Tryz.prog 123 #[.slice none 0 0, .int .i64 0, .int .i64 0, .int .i64 lim, .func (.func fn) #[] #[]] W fun e w' => e = .returned (.tuple #[]) ∧ W = w' := by
  intro lim W
  have hins := insSort_nil fn W
  go_enter Tryz.func123, Tryz.ntmps123
  go_wp2_with fail
  go_loopg [1, 2, 3, 10, 11] 1 (fun q a1 a2 a3 b1 b2 wr => q = 1 ∧ a1 = .int .i64 0 ∧ a2 = .int .i64 0 ∧ W = wr)
  case atStart => exact ⟨rfl, rfl, rfl, rfl⟩
  case round =>
   obtain ⟨_, rfl, rfl, rfl⟩ := hrel
   go_wp2_with fail
   refine hins.mono ?_
   rintro e w2 ⟨rfl, rfl⟩
   go_wp2_with fail
   exact bodyPost_ret (results_none rfl _ _ _) rfl ⟨rfl, rfl⟩
 have hbl := Tryz.bits_Len 0 w (by omega) (by omega)
 go_enter Tryz.func69, Tryz.ntmps69
 go_wp2_with fail
 refine hbl.mono ?_
 rintro e w2 ⟨rfl, rfl⟩
 go_wp2_with fail
 refine (hpd _ _).mono ?_
 rintro e w2 ⟨rfl, rfl⟩
 go_wp2_with fail
 go_end0
 exact ⟨rfl, rfl⟩
theorem sortV_any (fn : Nat) (cf : Men → Men → Int) (hO : Ord3 cf) (hc : CmpOk fn cf (fun m => validB m = true)) (base n : Nat) (v : Value) (L : List Men) (hn : n = L.length) (hV : ∀ x ∈ L, validB x = true) (w : World)
  (hown : w.ownsRow base 26 12 v n (mensV L)) (hn2 : n < 100000000) :
  Calls Tryz.prog 69 #[v, .func (.func fn) #[] #[]] w fun e w' => e = .returned (.tuple #[]) ∧ ∃ L', L'.Perm L ∧ L'.Pairwise (fun x y => ¬ cf y x < 0) ∧ w'.ownsRow base 26 12 v n (mensV L') ∧ w.grownBy w' v.ownBlock := by
 rcases hown.2 with ⟨rfl, rfl⟩ | ⟨g, cap, cur, rfl, _⟩
 ·refine (sort_nil fn w).mono ?_
  rintro e w' ⟨rfl, rfl⟩
  obtain rfl : L = [] := List.length_eq_zero_iff.1 hn.symm
  exact ⟨rfl, [], List.Perm.refl _, List.Pairwise.nil, hown, ⟨rfl, rfl, rfl, Nat.le_refl _, fun _ _ _ => rfl⟩⟩
 ·exact sortAll_any fn cf hO hc base g n cap L hn hV w hown hn2
set_option maxRecDepth 100000 in
theorem compact_nil (w : World) : Calls Tryz.prog 122 #[.slice none 0 0] w fun e w' => e = .returned (.slice none 0 0) ∧ w = w' := by
 go_enter Tryz.func122, Tryz.ntmps122
 go_wp2_with fail
 go_ret
 exact ⟨rfl, rfl⟩
theorem compactV_any (base n : Nat) (v : Value) (L : List Men) (hn : n = L.length) (hn2 : n ≤ 900) (w : World) (hown : w.ownsRow base 26 12 v n (mensV L)) :
  Calls Tryz.prog 122 #[v] w fun e w' => ∃ v', e = .returned v' ∧ w'.ownsRow base 26 12 v' (ddN L n).length (mensV (ddN L n)) ∧ w.grownBy w' v.ownBlock := by
 rcases hown.2 with ⟨rfl, rfl⟩ | ⟨g, cap, cur, rfl, _⟩
 ·refine (compact_nil w).mono ?_
  rintro e w' ⟨rfl, rfl⟩
  obtain rfl : L = [] := List.length_eq_zero_iff.1 hn.symm
  exact ⟨_, rfl, hown, ⟨rfl, rfl, rfl, Nat.le_refl _, fun _ _ _ => rfl⟩⟩
 ·refine (compactG_any base g n cap L hn hn2 w hown).mono ?_
  rintro e w' ⟨rfl, h1, h2⟩
  exact ⟨_, rfl, h1, h2⟩
theorem mB_of {m : Men} (h : vN m) : mB m 50 := by
 intro k hk
 have h4 := vN_four h
 have h0 := h.1
 rcases five hk with rfl | rfl | rfl | rfl | rfl <;> simp only [Men.sw, Men.sb] <;> omega
set_option maxRecDepth 100000 in
theorem next_any (m : Men) (hv : validB m = true) (w : World) :
  Calls Tryz.prog 68 #[.agg m.cs.toArray] w fun e w' => (∃ v, e = .returned v ∧ w'.ownsRow (w.heap.size + 1) 26 12 v (nxtS m).length (mensV (nxtS m))) ∧ Below w.heap.size w w' := by
 obtain ⟨i0, hi00, hz0, hz1, hz2⟩ := info_parts info26
 have hN := (vN_iff m).1 hv
 have hb := mB_of hN
 have hM := HasO.new w (.cells m.cs.toArray 26)
 have hB := below_box w (.cells m.cs.toArray 26)
 have hpl := fun W => played_any m W hb
 have hfl := fun W => flip_any m W
 have hpf := fun W => played_any (flipM m) W (mB_flip hb)
 have hlen1 := playedL_len m
 have hlen2 := playedL_len (flipM m)
 replace hN := Lib.hid hN
 clear hv hb
 go_enter Tryz.func68, Tryz.ntmps68
 go_upto_region 1 with fail
 show Code.wp _ _ _ _ (w.alloc (.cells m.cs.toArray 26))
 have hs1 : (w.alloc (.cells m.cs.toArray 26)).heap.size = w.heap.size + 1 := by simp
 generalize w.alloc (.cells m.cs.toArray 26) = w1 at *
 go_wp2_with (first | (refine wpList_loadO rfl 26 (.tmp 1) rfl w.heap.size _ 26 rfl hM (by kernel_rfl) ?_) | fail)
 refine (hpl w1).mono ?_
 rintro e w2 ⟨⟨v1, rfl, hown1⟩, hb2⟩
 have hM2 := hM.call hb2
 have hB2 := below_call hB hB.size hb2
 replace hown1 := own_mono hown1 (show w.heap.size + 1 ≤ w1.heap.size + 1 by omega)
 have hs2 : w.heap.size + 1 ≤ w2.heap.size := by have := hb2.size; omega
 clear hM hB hb2 hpl hs1
 go_wp2_with (first | (refine wpList_loadO rfl 26 (.tmp 1) rfl w.heap.size _ 26 rfl hM2 (by kernel_rfl) ?_) | fail)
 refine (hfl w2).mono ?_
 rintro e w3 ⟨rfl, hb3⟩
 have hB3 := below_call hB2 hB2.size hb3
 have hown3 := own_call hown1 hb3
 have hlo3 : ∀ g, v1.ownBlock = some g → g < w2.heap.size := fun g e => (hown1.lt g e).2
 go_wp2_with fail
 refine (hpf w3).mono ?_
 rintro e w4 ⟨⟨v2, rfl, hown2⟩, hb4⟩
 have hB4 := below_call hB3 hB3.size hb4
 have hown4 := own_call hown3 hb4
 obtain ⟨p2, c2, rfl, hArr⟩ := own_marr hown2
 have hdis : ∀ g, p2 = some ⟨g, 0, none⟩ → v1.ownBlock ≠ some g := by
  intro g e h
  have h1 := hlo3 g h
  have h2 := (hown2.lt g (by rw [e]; rfl)).1
  have := hb3.size
  omega
 have hs4 : w.heap.size + 1 ≤ w4.heap.size := by have := hb3.size; have := hb4.size; omega
 obtain ⟨L2, hL2⟩ : ∃ L2, L2 = playedL (flipM m) := ⟨_, rfl⟩
 obtain ⟨L1, hL1⟩ : ∃ L1, L1 = playedL m := ⟨_, rfl⟩
 have hnl : nextL m = L1 ++ L2.map flipM := by rw [hL1, hL2]; rfl
 rw [← hL2] at hArr hlen2 ⊢
 rw [← hL1] at hown4 hlen1
 replace hL1 := Lib.hid hL1
 replace hL2 := Lib.hid hL2
 replace hnl := Lib.hid hnl
 clear hfl hpf hM2 hB2 hB3 hb3 hb4 hown1 hown3 hown2 hlo3 hs2
 go_wp2_with fail
 go_loopg [3, 12] 30 (fun q lv iv wr => ∃ j : Nat, ∃ wz, wz = wr ∧ q + j = 30 ∧ j ≤ L2.length ∧ iv = .int .i64 (j : Nat) ∧ wr.ownsRow (w.heap.size + 1) 26 12 lv (L1 ++ (L2.take j).map flipM).length (mensV (L1 ++ (L2.take j).map flipM)) ∧ Below w.heap.size w wr ∧ w.heap.size + 1 ≤ wr.heap.size ∧ MArr wr p2 L2 ∧ ∀ g, p2 = some ⟨g, 0, none⟩ → lv.ownBlock ≠ some g)
 case atStart => exact ⟨0, _, rfl, rfl, Nat.zero_le _, rfl, by simpa using hown4, hB4, hs4, hArr, hdis⟩
 case round =>
  clear hown4 hB4 hs4 hArr hdis
  obtain ⟨j, w4, rfl, hq, hj, rfl, hown, hBr, hs, hArr, hdis⟩ := hrel
  by_cases hlt : j < L2.length
  ·have hjj : (j : Int) < L2.length := by omega
   have hArr0 := hArr
   obtain ⟨g, rfl, hgl, hc⟩ := hArr0.at hlt
   obtain ⟨x, hx⟩ : ∃ x, x = L2[j]?.getD zeroMen := ⟨_, rfl⟩
   rw [← hx] at hc
   have hfl := fun W => flip_any x W
   obtain ⟨T, hT⟩ : ∃ T, T = L1 ++ (L2.take j).map flipM := ⟨_, rfl⟩
   have htj : L1 ++ (L2.take (j + 1)).map flipM = T ++ [flipM x] := by
    rw [hT, List.take_add_one, hx, List.getElem?_eq_getElem hlt]
    simp only [Option.toList_some, List.map_append, List.map_cons, List.map_nil, Option.getD_some, List.append_assoc]
   have htl : T.length ≤ 58 := by rw [hT, List.length_append, List.length_map, List.length_take]; omega
   rw [← hT] at hown
   replace hT := Lib.hid hT
   replace hx := Lib.hid hx
   replace htj := Lib.hid htj
   have hX := HasO.new w4 (.cells x.cs.toArray 26)
   have hbX := below_box w4 (.cells x.cs.toArray 26)
   have hB5 := below_call hBr hBr.size hbX
   have hown5 := own_call hown hbX
   have hArr5 := hArr.call hbX
   have hs5 := Nat.le_trans hs hbX.size
   go_upto_region 5 with (first | (refine wpList_loadA rfl 26 (.tmp 14) rfl rfl x.cs (by kernel_rfl) hc ?_) | fail)
   show Code.wp _ _ _ _ (w4.alloc (.cells x.cs.toArray 26))
   generalize w4.alloc (.cells x.cs.toArray 26) = w5 at *
   generalize w4.heap.size = q5 at *
   clear hBr hown hgl hc hArr hArr0 hbX hs
   go_wp2_with (first | (refine wpList_loadO rfl 26 (.tmp 5) rfl q5 _ 26 rfl hX (by kernel_rfl) ?_) | fail)
   refine (hfl w5).mono ?_
   rintro e w6 ⟨rfl, hb6⟩
   have hN := HasO.new w6 (.cells (flipM x).cs.toArray 26)
   have hbN := below_box w6 (.cells (flipM x).cs.toArray 26)
   have hB6 := below_call (below_call hB5 hB5.size hb6) (Nat.le_trans hB5.size hb6.size) hbN
   have hown6 := own_call (own_call hown5 hb6) hbN
   have hArr6 := (hArr5.call hb6).call hbN
   have hs6 := Nat.le_trans hs5 (Nat.le_trans hb6.size hbN.size)
   have hg6 : g < w6.heap.size := by
    rcases hArr5 with h | ⟨g', e', hl', _⟩
    ·rw [h] at hlt; simp at hlt
    ·injection e' with e'; injection e' with e'; rw [e']; exact Nat.lt_of_lt_of_le hl' hb6.size
   clear hfl hB5 hown5 hArr5 hX hb6 hbN hs5
   go_wp2_with (at_builtin; refine wpList_append_own_at _ rfl (.tmp 16) (.tmp 19) 57 rfl (w.heap.size + 1) 26 i0 _ 12 96 Tryz.underlying57 hi00 hz0 hz1 hz2 rfl (by decide) _ T.length (mensV T) rfl hown6 ⟨w6.heap.size, 0, none⟩ 1 1 (flipM x).cs rfl rfl (fun i u hu => by rw [Addr.add_lit, Nat.zero_add, hN.cells i]; simpa using hu) (men_one26 _) (by unfold maxLen; omega) (by omega) hs6 ?_)
   intro v' w9 hown9 hg9 _ hat
   have hb9 := hB6.grown hg9 hB6.size (fun j e => by have := (hown6.lt j e).1; omega)
   have hArr9 := hArr6.grown hg9 hdis
   have hdis9 : ∀ g', (some ⟨g, 0, none⟩ : Option Addr) = some ⟨g', 0, none⟩ → v'.ownBlock ≠ some g' := by
    intro g' e h
    injection e with e; injection e with e; subst e
    rcases hat with h2 | h2
    ·exact hdis g rfl (h2 ▸ h)
    ·rw [h2] at h; injection h with h; have hh : w6.heap.size ≤ g := by first | omega | (rw [← h]; exact Nat.le_refl _)
     omega
   have hs9 := Nat.le_trans hs6 hg9.size
   replace hown9 : w9.ownsRow (w.heap.size + 1) 26 12 v' (L1 ++ (L2.take (j + 1)).map flipM).length (mensV (L1 ++ (L2.take (j + 1)).map flipM)) := by rw [htj.out, mensV_snoc, List.length_append]; exact hown9
   clear hown6 hg9 hB6 hArr6 hdis hat hN hs6
   go_wp2_with fail
   go_roundg (gk - 1)
   case measure => omega
   case rel => exact ⟨j + 1, _, rfl, by omega, by omega, by go_num, hown9, hb9, hs9, hArr9, hdis9⟩
  ·have hjj : ¬ (j : Int) < L2.length := by omega
   obtain rfl : j = L2.length := by omega
   have hNl : (nextL m).length ≤ 58 := by rw [hnl.out, List.length_append, List.length_map]; omega
   rw [List.take_length, ← hnl.out] at hown
   have hval : ∀ x ∈ nextL m, validB x = true := fun x hx => (vN_iff x).2 (nextL_ok hN.out x hx).1
   have hby := nxtS_by hN.out
   obtain ⟨S, hS⟩ : ∃ S, S = nxtS m := ⟨_, rfl⟩
   rw [← hS] at hby
   obtain ⟨N, hN2⟩ : ∃ N, N = nextL m := ⟨_, rfl⟩
   rw [← hN2] at hown hval hNl hby
   obtain ⟨n, hn⟩ : ∃ n, n = N.length := ⟨_, rfl⟩
   rw [← hn] at hown hNl
   have hsort := sortV_any 121 cmpT ord_cmpT cmpText_ok (w.heap.size + 1) n u3 N hn hval w4 hown (by omega)
   have hcp := fun L' (hp : L'.Perm N) => compactV_any (w.heap.size + 1) n u3 L' (hn.trans hp.length_eq.symm) (by omega)
   replace hN2 := Lib.hid hN2
   replace hby := Lib.hid hby
   replace hn := Lib.hid hn
   replace hS := Lib.hid hS
   clear hArr hdis
   go_wp2_with fail
   refine hsort.mono ?_
   rintro e w5 ⟨rfl, L', hp, hpw, hown5, hg5⟩
   have hB5 := hBr.grown hg5 hBr.size (fun j e => by have := (hown.lt j e).1; omega)
   clear hsort hg5 hown
   go_wp2_with fail
   refine (hcp L' hp w5 hown5).mono ?_
   rintro e w6 ⟨v', rfl, hown6, hg6⟩
   have hB6 := hB5.grown hg6 hB5.size (fun j e => by have := (hown5.lt j e).1; omega)
   have hdd : ddN L' n = S := by
    have h1 := ddN_by ord_cmpT cmpT_he L' (fun x hx => hval x (hp.mem_iff.1 hx)) (hpw.imp fun h => by omega)
    rw [hp.length_eq, ← hn.out] at h1
    exact h1.uniq ord_cmpT hby.out (fun x => hp.mem_iff)
   rw [hdd, hS.out] at hown6
   go_wp2_with fail
   go_ret
   exact ⟨⟨_, rfl, hown6⟩, hB6⟩
set_option maxRecDepth 100000 in
theorem Next_any (m : Men) (hv : validB m = true) (w : World) :
  Calls Tryz.prog 25 #[.agg m.cs.toArray] w fun e w' => (∃ v, e = .returned (.tuple #[v, .int .i64 0]) ∧ w'.ownsRow w.heap.size 26 12 v (nxtS m).length (mensV (nxtS m))) ∧ Below w.heap.size w w' := by
 have hM := HasO.new w (.cells m.cs.toArray 26)
 have hB := below_box w (.cells m.cs.toArray 26)
 have hva := fun W => valid_any m W
 rw [hv] at hva
 have hne := fun W => next_any m hv W
 go_enter Tryz.func25, Tryz.ntmps25
 go_upto_region 1 with fail
 show Code.wp _ _ _ _ (w.alloc (.cells m.cs.toArray 26))
 generalize w.alloc (.cells m.cs.toArray 26) = w1 at *
 go_wp2_with (first | (refine wpList_loadO rfl 26 (.tmp 1) rfl w.heap.size _ 26 rfl hM (by kernel_rfl) ?_) | fail)
 refine (hva w1).mono ?_
 rintro e w2 ⟨rfl, hb2⟩
 have hM2 := hM.call hb2
 have hB2 := below_call hB hB.size hb2
 clear hM hB hb2 hva
 go_wp2_with (first | (refine wpList_loadO rfl 26 (.tmp 1) rfl w.heap.size _ 26 rfl hM2 (by kernel_rfl) ?_) | fail)
 refine (hne w2).mono ?_
 rintro e w3 ⟨⟨v, rfl, hown⟩, hb3⟩
 have hB3 := below_call hB2 hB2.size hb3
 have hown3 := own_mono hown (show w.heap.size ≤ w2.heap.size + 1 by have := hB2.size; omega)
 go_wp2_with fail
 exact bodyPost_ret (results_tmp2 rfl _ _ _) rfl ⟨⟨_, rfl, hown3⟩, hB3⟩
end Go.Proofs.YtnpomigmeieofaaGreatDoor
