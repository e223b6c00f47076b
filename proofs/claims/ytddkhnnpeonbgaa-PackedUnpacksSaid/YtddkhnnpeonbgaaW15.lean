import Derived.Test.YtddkhnnpeonbgaaW14
namespace Go.Proofs.Ytddkhnnpeonbgaa
open Go.RowKit

/-- the numbers that a slice's address leads to -/
def Arr (k : IntKind) (w : World) (p : Option Addr) (xs : List Int) : Prop :=
  xs = [] ∨ ∃ b o, p = some ⟨b, o, none⟩ ∧ b < w.heap.size ∧ ∀ j, j < xs.length → w.cell? ⟨b, o + j, none⟩ = some (.int k (xs[j]?.getD 0))
theorem Arr.call {k : IntKind} {w w' : World} {p : Option Addr} {xs : List Int} (h : Arr k w p xs) (hb : Below w.heap.size w w') : Arr k w' p xs := by
  rcases h with h | ⟨b, o, rfl, hl, hc⟩
  · exact .inl h
  · exact .inr ⟨b, o, rfl, Nat.lt_of_lt_of_le hl hb.size, fun j hj => (hb.cell (p := ⟨b, o + j, none⟩) hl).trans (hc j hj)⟩
theorem Arr.drewN {k : IntKind} {w : World} {p : Option Addr} {xs : List Int} (h : Arr k w p xs) (n : Nat) : Arr k (w.drewN n) p xs := h
theorem Arr.at {k : IntKind} {w : World} {p : Option Addr} {xs : List Int} (h : Arr k w p xs) {i : Nat} (hi : i < xs.length) :
    ∃ b o, p = some ⟨b, o, none⟩ ∧ b < w.heap.size ∧ ∀ j, j < xs.length → w.cell? ⟨b, o + j, none⟩ = some (.int k (xs[j]?.getD 0)) := by
  rcases h with h | h
  · subst h; simp at hi
  · exact h
def i16s (xs : List Int) : Prop := ∀ j, j < xs.length → -32768 ≤ xs[j]?.getD 0 ∧ xs[j]?.getD 0 ≤ 32767

def badE (e : Int) : Bool := decide (e < 0) || decide (10002 < e)
theorem bad_any (e : Int) (w : World) : Calls Try.prog 51 #[.int .i16 e] w fun e' w' => e' = .returned (.bool (badE e)) ∧ w = w' := by
  go_enter Try.func51, Try.ntmps51
  by_cases h : e < 0
  · have hb : Hid (badE e = true) := Lib.hid (by simp [badE, h])
    go_wp2_with fail
    go_ret
    exact ⟨by rw [hb.out]; rfl, rfl⟩
  · by_cases h2 : 10002 < e
    · have hb : Hid (badE e = true) := Lib.hid (by simp [badE, h2])
      go_wp2_with fail
      go_ret
      exact ⟨by rw [hb.out]; rfl, rfl⟩
    · have hb : Hid (badE e = false) := Lib.hid (by simp [badE, h, h2])
      go_wp2_with fail
      go_ret
      exact ⟨by rw [hb.out]; rfl, rfl⟩

theorem indexBad_any (p : Option Addr) (c : Nat) (xs : List Int) (w : World) (hx : Arr .i16 w p xs) (hl : xs.length ≤ 1000000000) :
    Calls Try.prog 61 #[.slice p xs.length c, .func (.func 51) #[] #[]] w fun e w' => (∃ k : Int, e = .returned (.int .i64 k) ∧ (0 ≤ k ↔ xs.any badE = true)) ∧ Below w.heap.size w w' := by
  go_enter Try.func61, Try.ntmps61
  go_wp2_with fail
  go_loopg [8] 1000000001 (fun q iv wr => ∃ i : Nat, q + i = 1000000001 ∧ i ≤ xs.length ∧ iv = .int .i64 i ∧ Below w.heap.size w wr ∧ (xs.take i).any badE = false)
  case atStart => exact ⟨0, rfl, Nat.zero_le _, rfl, Below.refl _ _, rfl⟩
  case round =>
    obtain ⟨i, hq, hi, rfl, hb, ha⟩ := hrel
    replace ha := Lib.hid ha
    by_cases hlt : i < xs.length
    · have hii : (i : Int) < xs.length := by omega
      obtain ⟨b, o, rfl, hbl, hc⟩ := (hx.call hb).at hlt
      have hci := hc i hlt
      have hget : xs[i]?.getD 0 = xs[i] := by simp [hlt]
      obtain ⟨x, hxv⟩ : ∃ x, x = xs[i]?.getD 0 := ⟨_, rfl⟩
      rw [← hxv] at hci hget
      replace hget := Lib.hid hget
      clear hc hxv
      go_wp2_with fail
      refine (bad_any _ _).mono ?_
      rintro e w1 ⟨rfl, rfl⟩
      rcases hbd : badE x with _ | _
      · go_wp2_with fail
        go_roundg (gk - 1)
        case measure => omega
        case rel => exact ⟨i + 1, by omega, by omega, by go_num, hb, by rw [List.take_succ_eq_append_getElem hlt, List.any_append, ha.out]; simp [← hget.out, hbd]⟩
      · go_wp2_with fail
        go_ret
        refine ⟨⟨i, rfl, ?_⟩, hb⟩
        constructor
        · intro _; rw [List.any_eq_true]; exact ⟨xs[i], List.getElem_mem hlt, by rw [← hget.out]; exact hbd⟩
        · intro _; omega
    · have hii : ¬ (i : Int) < xs.length := by omega
      go_wp2_with fail
      go_ret
      refine ⟨⟨-1, rfl, ?_⟩, hb⟩
      have ha := ha.out
      rw [List.take_of_length_le (by omega)] at ha
      constructor
      · intro h; omega
      · rintro ⟨x, hx1, hx2⟩
        rw [List.any_eq_false] at ha
        exact absurd hx2 (by simpa using ha x hx1)

theorem hasBad_any (p : Option Addr) (c : Nat) (xs : List Int) (w : World) (hx : Arr .i16 w p xs) (hl : xs.length ≤ 1000000000) :
    Calls Try.prog 50 #[.slice p xs.length c, .func (.func 51) #[] #[]] w fun e w' => e = .returned (.bool (xs.any badE)) ∧ Below w.heap.size w w' := by
  go_enter Try.func50, Try.ntmps50
  go_wp2_with fail
  refine (indexBad_any p c xs w hx hl).mono ?_
  rintro e w1 ⟨⟨k, rfl, hk⟩, hb⟩
  replace hk := Lib.hid hk
  by_cases h : 0 ≤ k
  · have hb2 := Lib.hid (hk.out.1 h)
    go_wp2_with fail
    go_ret
    exact ⟨by rw [hb2.out]; rfl, hb⟩
  · have hb2 : Hid (xs.any badE = false) := Lib.hid (by rcases h2 : xs.any badE with _ | _; rfl; exact absurd (hk.out.2 h2) h)
    go_wp2_with fail
    go_ret
    exact ⟨ret_bool (show decide (0 ≤ k) = _ by rw [hb2.out]; simp; omega), hb⟩

/-- a table by value -/
abbrev tabCs (m : Men) (p : Option Addr) (n c : Nat) : List Value := m.cs ++ [.slice p n c]
def tabOk (m : Men) (xs : List Int) : Bool := validB m && decide (countN m ≤ 262144) && decide (countN m = xs.length) && !(xs.any badE)
theorem tabOk_ce (m : Men) (xs : List Int) : tabOk m xs = (decide ((cntE m).2 = 0) && decide ((cntE m).1 ≤ 262144) && decide ((cntE m).1 = (xs.length : Int)) && !(xs.any badE)) := by
  unfold tabOk cntE
  by_cases h : validB m = true
  · by_cases h2 : countN m ≤ 1048576
    · simp only [h, h2, if_true]
      congr 2
      · congr 1
        simp only [decide_eq_decide]; omega
      · simp only [decide_eq_decide]; omega
    · simp only [h, h2, if_true, if_false]
      have : ¬ countN m ≤ 262144 := by omega
      simp [this]
  · simp [h]

theorem tvalid_any (m : Men) (p : Option Addr) (c : Nat) (xs : List Int) (w : World) (hx : Arr .i16 w p xs) (hl : xs.length ≤ 1000000000) :
    Calls Try.prog 32 #[.agg (tabCs m p xs.length c).toArray] w fun e w' => e = .returned (.bool (tabOk m xs)) ∧ Below w.heap.size w w' := by
  have hT : HasO (w.alloc (.cells (tabCs m p xs.length c).toArray 29)) w.heap.size (.cells (tabCs m p xs.length c).toArray 29 (0, 0)) := HasO.new _ _
  have hb0 := below_box w (.cells (tabCs m p xs.length c).toArray 29)
  have hx0 := hx.call hb0
  have hs := Lib.hid (tabOk_ce m xs)
  go_enter Try.func32, Try.ntmps32
  go_wp2_with fail
  refine (Count_any m _).mono ?_
  rintro e w1 ⟨rfl, hb1⟩
  have hT1 := hT.call hb1
  have hb2 := below_call hb0 (by simp) hb1
  have hx1 := hx0.call hb1
  have hc := hT1.cells
  have hlt := hT1.lt
  generalize cntE m = ce at *
  obtain ⟨n, er⟩ := ce
  clear hT hb0 hx0 hb1
  by_cases h1 : er = 0
  · subst h1
    by_cases h2 : n ≤ 262144
    · by_cases h3 : n = (xs.length : Int)
      · subst h3
        go_wp2_with fail
        refine (hasBad_any p c xs _ hx1 hl).mono ?_
        rintro e w2 ⟨rfl, hb3⟩
        have hb4 := below_call hb2 hb2.size hb3
        clear hc
        go_wp2_with fail
        go_ret
        exact ⟨by rw [hs.out]; simp [h2]; done, hb4⟩
      · have hv : Hid (tabOk m xs = false) := Lib.hid (by rw [hs.out]; simp [h3])
        replace hs := True.intro
        go_wp2_with fail
        go_ret
        exact ⟨by rw [hv.out]; rfl, hb2⟩
    · have hv : Hid (tabOk m xs = false) := Lib.hid (by rw [hs.out]; simp [h2])
      replace hs := True.intro
      go_wp2_with fail
      go_ret
      exact ⟨by rw [hv.out]; rfl, hb2⟩
  · have hv : Hid (tabOk m xs = false) := Lib.hid (by rw [hs.out]; simp [h1])
    replace hs := True.intro
    go_wp2_with fail
    go_ret
    exact ⟨by rw [hv.out]; rfl, hb2⟩

theorem results_tmp5 {fn : Func} {t1 t2 t3 t4 t5 : Tmp} (h : fn.results = #[.tmp t1, .tmp t2, .tmp t3, .tmp t4, .tmp t5]) (tmps : Array Value) (w : World) (P : Program) :
    (results fn tmps).run P w = .ok (.tuple #[tmps.getD t1 undef, tmps.getD t2 undef, tmps.getD t3 undef, tmps.getD t4 undef, tmps.getD t5 undef]) w := by
  simp [results, h, go_sem]
theorem of_any (x : Int) (w : World) : Calls Try.prog 33 #[.int .i16 x] w fun e w' => (∃ d b, e = .returned (.tuple #[.int .i64 d, .bool b])) ∧ w = w' := by
  go_enter Try.func33, Try.ntmps33
  go_wp2_with fail
  go_ret2
  exact ⟨⟨_, _, rfl⟩, rfl⟩
theorem won_any (d : Int) (w : World) : Calls Try.prog 34 #[.int .i64 d] w fun e w' => (∃ b, e = .returned (.bool b)) ∧ w = w' := by
  go_enter Try.func34, Try.ntmps34
  go_wp2_with fail
  go_ret
  exact ⟨⟨_, rfl⟩, rfl⟩

def okErr : Bool → Int | true => 0 | false => 2
theorem tally_any (m : Men) (p : Option Addr) (c : Nat) (xs : List Int) (w : World) (hx : Arr .i16 w p xs) (hl : xs.length ≤ 1000000000) :
    Calls Try.prog 20 #[.agg (tabCs m p xs.length c).toArray] w fun e w' => (∃ a1 a2 a3 a4, e = .returned (.tuple #[.int .i64 a1, .int .i64 a2, .int .i64 a3, .int .i64 a4, .int .i64 (okErr (tabOk m xs))])) ∧ Below w.heap.size w w' := by
  have hT : HasO (w.alloc (.cells (tabCs m p xs.length c).toArray 29)) w.heap.size (.cells (tabCs m p xs.length c).toArray 29 (0, 0)) := HasO.new _ _
  have hb0 := below_box w (.cells (tabCs m p xs.length c).toArray 29)
  have hx0 := hx.call hb0
  go_enter Try.func20, Try.ntmps20
  go_wp2_with fail
  refine (tvalid_any m p c xs _ hx0 hl).mono ?_
  rintro e w1 ⟨rfl, hb1⟩
  have hT1 := hT.call hb1
  have hb2 := below_call hb0 (by simp) hb1
  have hx1 := hx0.call hb1
  clear hT hb0 hx0 hb1
  have hc := hT1.cells
  have hlt := hT1.lt
  rcases hok : tabOk m xs with _ | _
  · have hv := Lib.hid hok
    go_wp2_with fail
    refine bodyPost_ret (results_tmp5 rfl _ _ _) rfl ?_
    exact ⟨⟨0, 0, 0, 0, by first | rfl | (rw [hv.out]; rfl)⟩, hb2⟩
  · have hv := Lib.hid hok
    go_wp2_with fail
    go_loopg [2, 3, 4, 5, 17] 1000000001 (fun q a1 a2 a3 a4 iv wr => (∃ n, a1 = .int .i64 n) ∧ (∃ n, a2 = .int .i64 n) ∧ (∃ n, a3 = .int .i64 n) ∧ (∃ n, a4 = .int .i64 n) ∧ ∃ i : Nat, q + i = 1000000001 ∧ i ≤ xs.length ∧ iv = .int .i64 i ∧ Below w.heap.size w wr ∧ Arr .i16 wr p xs)
    case atStart => exact ⟨⟨0, rfl⟩, ⟨0, rfl⟩, ⟨0, rfl⟩, ⟨0, rfl⟩, 0, rfl, Nat.zero_le _, rfl, hb2, hx1⟩
    case round =>
      clear hc hT1 hlt hx1 hb2
      obtain ⟨⟨n1, rfl⟩, ⟨n2, rfl⟩, ⟨n3, rfl⟩, ⟨n4, rfl⟩, i, hq, hi, rfl, hb, hx1⟩ := hrel
      by_cases hlt : i < xs.length
      · have hii : (i : Int) < xs.length := by omega
        obtain ⟨b, o, rfl, hbl, hc⟩ := hx1.at hlt
        have hci := hc i hlt
        obtain ⟨x, hxv⟩ : ∃ x, x = xs[i]?.getD 0 := ⟨_, rfl⟩
        rw [← hxv] at hci
        clear hc hxv
        go_wp2_with fail
        refine (of_any _ _).mono ?_
        rintro e w1 ⟨⟨d, db, rfl⟩, rfl⟩
        by_cases h1 : x = 1
        · rcases hdb : db with _ | _
          · go_wp2_with fail
            go_roundg (gk - 1)
            case measure => omega
            case rel => exact ⟨⟨_, rfl⟩, ⟨_, rfl⟩, ⟨_, rfl⟩, ⟨_, rfl⟩, i + 1, by omega, by omega, by go_num, hb, hx1⟩
          · go_wp2_with fail
            go_roundg (gk - 1)
            case measure => omega
            case rel => exact ⟨⟨_, rfl⟩, ⟨_, rfl⟩, ⟨_, rfl⟩, ⟨_, rfl⟩, i + 1, by omega, by omega, by go_num, hb, hx1⟩
        · rcases hdb : db with _ | _
          · go_wp2_with fail
            go_roundg (gk - 1)
            case measure => omega
            case rel => exact ⟨⟨_, rfl⟩, ⟨_, rfl⟩, ⟨_, rfl⟩, ⟨_, rfl⟩, i + 1, by omega, by omega, by go_num, hb, hx1⟩
          · go_wp2_with fail
            refine (won_any _ _).mono ?_
            rintro e w2 ⟨⟨wb, rfl⟩, rfl⟩
            rcases hwb : wb with _ | _
            · go_wp2_with fail
              go_roundg (gk - 1)
              case measure => omega
              case rel => exact ⟨⟨_, rfl⟩, ⟨_, rfl⟩, ⟨_, rfl⟩, ⟨_, rfl⟩, i + 1, by omega, by omega, by go_num, hb, hx1⟩
            · go_wp2_with fail
              go_roundg (gk - 1)
              case measure => omega
              case rel => exact ⟨⟨_, rfl⟩, ⟨_, rfl⟩, ⟨_, rfl⟩, ⟨_, rfl⟩, i + 1, by omega, by omega, by go_num, hb, hx1⟩
      · have hii : ¬ (i : Int) < xs.length := by omega
        go_wp2_with fail
        refine bodyPost_ret (results_tmp5 rfl _ _ _) rfl ?_
        exact ⟨⟨n1, n2, n3, n4, by first | rfl | (rw [hv.out]; rfl)⟩, hb⟩
end Go.Proofs.Ytddkhnnpeonbgaa
