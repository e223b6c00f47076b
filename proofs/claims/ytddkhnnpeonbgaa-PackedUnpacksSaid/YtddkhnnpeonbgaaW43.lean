/- The law PackedUnpacks, as the code runs it: for any bytes it returns true. -/
import Derived.Test.YtddkhnnpeonbgaaW42
namespace Go.Proofs.Ytddkhnnpeonbgaa
open Go.RowKit

theorem wpList_appendArr {P : Program} {ops : Array Oper} {rest : List Oper} {o : Oper} {a : Act} {w : World} {Q : Exit → Act → World → Prop} (hgd : o.guard = none) (s x : Operand) (ty : TypeId) (ho : o.op = .call { callee := .builtin .append, args := #[s, x], argTypes := #[ty, ty] })
    (base : Nat) (e : TypeId) (i : TypeInfo) (z : Value) (bytes : Nat) (ht : P.underlying ty = some (.slice e)) (hi : P.info? e = some i) (hz : i.zero = some z)
    (hsize : i.size = 1) (hby : i.bytes = bytes) (hzs : z.cells.size = 1) (k : IntKind) {p : Option Addr} {c : Nat} {xs : List Int}
    (hs : a.eval s = .slice none 0 0) (hx : a.eval x = .slice p xs.length c) (hp : p = none → c = 0) (hA : Arr k w p xs)
    (hbytes : xs.length * (bytes + 1) ≤ 140737488355328) (hbase : base ≤ w.heap.size)
    (h : ∀ v' w', w'.ownsRow base e 1 v' xs.length (xs.map (.int k)) → Below w.heap.size w w' → wpList P ops Q rest (a.put o.dst v') w') : wpList P ops Q (o :: rest) a w := by
  have hown : w.ownsRow base e 1 (.slice none 0 0) 0 [] := World.ownsRow_nil _ _ _ _
  rcases p with _ | ad
  · rcases hA with rfl | ⟨b, o', e', _⟩
    · rw [hp rfl] at hx
      refine wpList_plain hgd fun K hK => ?_
      have hr := run_append_owned_none (P := P) (w := w) base ty o.type e i 1 ht hi (.slice none 0 0) 0 [] hown
      unfold Oper.wp execOp
      have hx' : a.eval x = .slice none 0 0 := hx
      simp only [ho, resolve, invoke, builtin, Sem.run_bind, Sem.run_pure, Result.andThen_ok, List.map_toArray, List.map_cons, List.map_nil, hs, hx', hr]
      exact hK _ _ (h _ _ hown (Below.refl _ _))
    · cases e'
  · have hb1 : (0 + xs.length) * bytes ≤ 140737488355328 := by rw [Nat.zero_add]; exact Nat.le_trans (Nat.mul_le_mul_left _ (by omega)) hbytes
    have hb2 : 0 + xs.length ≤ maxLen := by
      have : xs.length * 1 ≤ xs.length * (bytes + 1) := Nat.mul_le_mul_left _ (by omega)
      unfold maxLen; omega
    refine wpList_append_own_at w hgd s x ty ho base e i z 1 bytes ht hi hz hsize hby hzs (by decide) _ 0 [] hs hown ad xs.length c (xs.map (.int k)) hx (by simp) ?_ ?_ hb2 hb1 hbase ?_
    · intro j u hu
      have hj : j < xs.length := by have := (List.getElem?_eq_some_iff.1 hu).1; simpa using this
      obtain ⟨b, o', e', hb, hc⟩ := hA.at (i := j) hj
      injection e' with e'
      subst e'
      rw [Addr.add_lit, hc j hj]
      simp [hj] at hu ⊢
      exact hu
    · intro u hu
      obtain ⟨y, _, rfl⟩ := List.mem_map.1 hu
      rfl
    · intro v' w' h1 h2 _ _
      exact h v' w' (by simpa using h1) ((Below.refl w.heap.size w).grown h2 (Nat.le_refl _) (fun j e => by cases e))
theorem conv_arr {W : World} {p : Option Addr} {n c : Nat} (xs : List Int) (h : Arr .u8 W p xs) (hn : n = xs.length) :
    (convert 31 9 (.slice p n c)).run Try.prog W = .ok (.string (str (toU xs))) W := by
  rcases xs with _ | ⟨x, xs⟩
  · subst hn
    rcases p with _ | ad
    · kernel_rfl
    · kernel_rfl
  · obtain ⟨g, o, rfl, _, hc⟩ := h.at (i := 0) (by simp)
    exact conv_at _ hc hn

set_option maxHeartbeats 2000000 in
set_option maxRecDepth 100000 in
theorem PackedUnpacks_any (p : Option Addr) (c : Nat) (bs : List Int) (w : World) (hx : Arr .u8 w p bs) (hbs : isBytes bs) (hl : bs.length ≤ 9223372036854775807) (hc : bs.length ≤ c) (hp : p = none → c = 0) (hm : MaxOk w) :
    Calls Try.prog 4 #[.slice p bs.length c] w fun e w' => e = .returned (.bool true) ∧ Below w.heap.size w w' := by
  have hms : 0 < w.heap.size := by obtain ⟨_, _, h⟩ := hm; exact h
  obtain ⟨i5, hi5, hz5, hs5, hy5⟩ := info_parts Try.info5
  go_enter Try.func4, Try.ntmps4
  go_wp2_with fail
  refine (refOutline_wide p c bs w hx hbs hl hc).mono ?_
  rintro e w1 ⟨hb1, ⟨hn, rfl⟩ | ⟨m, v, hs, rfl, hown⟩⟩
  · have hT := HasO.new w1 (.cells zeroMen.cs.toArray 26)
    have hbT := hb1.alloc hb1.size (.cells zeroMen.cs.toArray 26)
    have hb15 := below_box w1 (.cells zeroMen.cs.toArray 26)
    obtain ⟨w5, hw5⟩ : ∃ x, x = (w1.alloc (.cells zeroMen.cs.toArray 26)).setRow w1.heap.size zeroMen.cs.toArray := ⟨_, rfl⟩
    have hb5 : Below w.heap.size w w5 := by rw [hw5]; exact setRow_below hbT hb1.size hbT.size
    have hkn := known_any w5 (hm.call hb5 hms)
    replace hw5 := Lib.hid hw5
    have htab : tabB bs = none := by unfold tabB; rw [hn]
    by_cases h0 : (10000 : Int) < bs.length
    · go_wp2_with (refine wpList_storeTo hw5 rfl 26 (.tmp 3) (.tmp 14) rfl rfl rfl 26 _ hT (by kernel_rfl) rfl (by kernel_rfl) ?_)
      refine hkn.mono ?_
      rintro e w6 ⟨rfl, hb6⟩
      go_wp2_with fail
      go_ret
      exact ⟨rfl, below_call hb5 hb5.size hb6⟩
    · clear hkn
      have hl2 : bs.length ≤ 10000 := by omega
      have hx5 := hx.call hb5
      clear hl hT hbT hb15 hb1
      go_wp2_with (first | (refine wpList_storeTo hw5 rfl 26 (.tmp 3) (.tmp 14) rfl rfl rfl 26 _ (HasO.new w1 (.cells zeroMen.cs.toArray 26)) (by kernel_rfl) rfl (by kernel_rfl) ?_) | (at_builtin; refine wpList_appendArr rfl (.const (.slice none 0 0)) (.tmp 29) 31 rfl w5.heap.size 5 i5 (.int .u8 0) 1 Try.underlying31 hi5 hz5 hs5 hy5 rfl .u8 rfl rfl hp hx5 (by omega) (Nat.le_refl _) ?_))
      intro v' w6 hown6 hb6
      obtain ⟨p', c', rfl, hc', hA6⟩ := own_arr hown6
      have hbw6 := below_call hb5 hb5.size hb6
      have hx6 := hx5.call hb6
      clear hown6 hx5 hb5 hb6 hw5
      go_wp2_with fail
      refine (Unpack_any p' c' bs w6 hA6 hbs (by omega) hc' (hm.call hbw6 hms)).mono ?_
      rintro e w7 ⟨hb7, ⟨_, rfl⟩ | ⟨m', es, p1, c1, hs', _⟩⟩
      rotate_left
      · rw [htab] at hs'; cases hs'
      have hbw7 := below_call hbw6 hbw6.size hb7
      have hx7 := hx6.call hb7
      have hA7 := hA6.call hb7
      clear hbw6 hx6 hA6 hb7
      have hone : Hid ((tabCs zeroMen none 0 0).toArray.all (·.oneCell') = true) := Lib.hid (by kernel_rfl)
      have hT7 := HasO.new w7 (.cells (tabCs zeroMen none 0 0).toArray 29)
      obtain ⟨w8, hw8⟩ : ∃ x, x = (w7.alloc (.cells (tabCs zeroMen none 0 0).toArray 29)).setRow w7.heap.size (tabCs zeroMen none 0 0).toArray := ⟨_, rfl⟩
      have hb78 : Below w7.heap.size w7 w8 := by rw [hw8]; exact setRow_below (below_box _ _) (Nat.le_refl _) (Nat.le_of_lt hT7.lt)
      have hO8 : HasO w8 w7.heap.size (.cells (tabCs zeroMen none 0 0).toArray 29 (0, 0)) := by rw [hw8]; exact setRow_hasO hT7
      have hbw8 := below_call hbw7 hbw7.size hb78
      have hx8 := hx7.call hb78
      have hA8 := hA7.call hb78
      replace hw8 := Lib.hid hw8
      clear hb78 hbw7 hx7 hA7
      go_wp2_with (refine wpList_storeTo hw8 rfl 29 (.tmp 7) (.tmp 34) rfl rfl rfl 29 _ (HasO.new w7 (.cells (tabCs zeroMen none 0 0).toArray 29)) (by kernel_rfl) rfl hone.out ?_)
      refine (refUnpack_any p c bs w8 hx8 hbs (by omega) hc).mono ?_
      rintro e w9 ⟨hb9, ⟨_, rfl⟩ | ⟨m', es, p1, c1, hs', _⟩⟩
      rotate_left
      · rw [htab] at hs'; cases hs'
      have hT9 := HasO.new w9 (.cells (tabCs zeroMen none 0 0).toArray 29)
      obtain ⟨w10, hw10⟩ : ∃ x, x = (w9.alloc (.cells (tabCs zeroMen none 0 0).toArray 29)).setRow w9.heap.size (tabCs zeroMen none 0 0).toArray := ⟨_, rfl⟩
      have hb910 : Below w9.heap.size w9 w10 := by rw [hw10]; exact setRow_below (below_box _ _) (Nat.le_refl _) (Nat.le_of_lt hT9.lt)
      have hbw9 := below_call hbw8 hbw8.size hb9
      have hbw10 := below_call hbw9 hbw9.size hb910
      have hO10 := (hO8.call hb9).call hb910
      have hcv1 := conv_arr (c := c') bs ((hA8.call hb9).call hb910) rfl
      have hcv2 := conv_arr (c := c) bs ((hx8.call hb9).call hb910) rfl
      have hkn := known_any w10 (hm.call hbw10 hms)
      have hl10 := hO10.lt
      have hc10 := HasO.cells (show HasO w10 w7.heap.size (.cells #[.int .i64 0, .int .i64 0, .int .i64 0, .int .i64 0, .int .i64 0, .int .i64 0, .int .i64 0, .int .i64 0, .int .i64 0, .int .i64 0, .int .i64 0, .int .i64 0, .slice none 0 0] 29 (0, 0)) from hO10)
      have hne : ∀ W : World, (binOp .neq 9 (.string (str (toU bs))) (.string (str (toU bs)))).run Try.prog W = .ok (.bool false) W := fun W => by rw [neS2]; simp
      have he : ∀ W : World, (binOp .eql 26 (.agg #[.int .i64 0, .int .i64 0, .int .i64 0, .int .i64 0, .int .i64 0, .int .i64 0, .int .i64 0, .int .i64 0, .int .i64 0, .int .i64 0, .int .i64 0, .int .i64 0]) (.agg #[.int .i64 0, .int .i64 0, .int .i64 0, .int .i64 0, .int .i64 0, .int .i64 0, .int .i64 0, .int .i64 0, .int .i64 0, .int .i64 0, .int .i64 0, .int .i64 0])).run Try.prog W = .ok (.bool true) W := fun W => (men_eql zeroMen zeroMen W).trans (by simp)
      have hgd : ∀ x y W, (eqGuard .eql 26 x y (.agg #[.int .i64 0, .int .i64 0, .int .i64 0, .int .i64 0, .int .i64 0, .int .i64 0, .int .i64 0, .int .i64 0, .int .i64 0, .int .i64 0, .int .i64 0, .int .i64 0]) (.agg #[.int .i64 0, .int .i64 0, .int .i64 0, .int .i64 0, .int .i64 0, .int .i64 0, .int .i64 0, .int .i64 0, .int .i64 0, .int .i64 0, .int .i64 0, .int .i64 0])).run Try.prog W = .ok () W := fun x y W => men_guard .eql x y zeroMen.cs.toArray zeroMen.cs.toArray W
      replace hw10 := Lib.hid hw10
      clear hb910 hbw8 hx8 hA8 hbw9 hO10 hO8 hb9 hT9
      go_wp2_with (refine wpList_storeTo hw10 rfl 29 (.tmp 9) (.tmp 39) rfl rfl rfl 29 _ (HasO.new w9 (.cells (tabCs zeroMen none 0 0).toArray 29)) (by kernel_rfl) rfl hone.out ?_)
      refine hkn.mono ?_
      rintro e w11 ⟨rfl, hb11⟩
      go_wp2_with fail
      go_ret
      exact ⟨rfl, below_call hbw10 hbw10.size hb11⟩
  · have hT := HasO.new w1 (.cells zeroMen.cs.toArray 26)
    have hbT := hb1.alloc hb1.size (.cells zeroMen.cs.toArray 26)
    obtain ⟨w5, hw5⟩ : ∃ x, x = (w1.alloc (.cells zeroMen.cs.toArray 26)).setRow w1.heap.size m.cs.toArray := ⟨_, rfl⟩
    have hb5 : Below w.heap.size w w5 := by rw [hw5]; exact setRow_below hbT hb1.size hbT.size
    have hM5 : HasO w5 w1.heap.size (.cells m.cs.toArray 26 (0, 0)) := by rw [hw5]; exact setRow_hasO hT
    obtain ⟨hval, hn0, hn1, _, _⟩ := outM_fact hs
    replace hval := Lib.hid hval
    have hkn := known_any w5 (hm.call hb5 hms)
    have hc5 := hM5.cells
    have hl5 := hM5.lt
    replace hw5 := Lib.hid hw5
    clear hown hT hbT hM5
    by_cases h0 : (10000 : Int) < bs.length
    · go_wp2_with (refine wpList_storeTo hw5 rfl 26 (.tmp 3) (.tmp 14) rfl rfl rfl 26 _ (HasO.new w1 (.cells zeroMen.cs.toArray 26)) (by kernel_rfl) rfl (men_one m) ?_)
      refine hkn.mono ?_
      rintro e w6 ⟨rfl, hb6⟩
      go_wp2_with fail
      go_ret
      exact ⟨rfl, below_call hb5 hb5.size hb6⟩
    · clear hkn
      have hl2 : bs.length ≤ 10000 := by omega
      have hx5 := hx.call hb5
      clear hl
      go_wp2_with (refine wpList_storeTo hw5 rfl 26 (.tmp 3) (.tmp 14) rfl rfl rfl 26 _ (HasO.new w1 (.cells zeroMen.cs.toArray 26)) (by kernel_rfl) rfl (men_one m) ?_)
      refine (refCount_any m w5 hval).mono ?_
      rintro e wb ⟨rfl, hb6⟩
      have hbb := below_call hb5 hb5.size hb6
      have hxb := hx5.call hb6
      clear hw5 hc5 hl5 hb5 hb6 hx5 hb1
      by_cases h4 : (4000 : Int) < countN m
      · go_wp2_with fail
        refine (known_any wb (hm.call hbb hms)).mono ?_
        rintro e w6 ⟨rfl, hb6⟩
        go_wp2_with fail
        go_ret
        exact ⟨rfl, below_call hbb hbb.size hb6⟩
      · rcases htab : tabB bs with _ | ⟨m', es⟩
        · go_wp2_with (at_builtin; refine wpList_appendArr rfl (.const (.slice none 0 0)) (.tmp 29) 31 rfl wb.heap.size 5 i5 (.int .u8 0) 1 Try.underlying31 hi5 hz5 hs5 hy5 rfl .u8 rfl rfl hp hxb (by omega) (Nat.le_refl _) ?_)
          intro v' w6 hown6 hb6
          obtain ⟨p', c', rfl, hc', hA6⟩ := own_arr hown6
          have hbw6 := below_call hbb hbb.size hb6
          have hx6 := hxb.call hb6
          clear hown6 hb6
          go_wp2_with fail
          refine (Unpack_any p' c' bs w6 hA6 hbs (by omega) hc' (hm.call hbw6 hms)).mono ?_
          rintro e w7 ⟨hb7, ⟨_, rfl⟩ | ⟨m', es, p1, c1, hs', _⟩⟩
          rotate_left
          · rw [htab] at hs'; cases hs'
          have hbw7 := below_call hbw6 hbw6.size hb7
          have hx7 := hx6.call hb7
          have hA7 := hA6.call hb7
          clear hbw6 hx6 hA6 hb7
          have hone : Hid ((tabCs zeroMen none 0 0).toArray.all (·.oneCell') = true) := Lib.hid (by kernel_rfl)
          have hT7 := HasO.new w7 (.cells (tabCs zeroMen none 0 0).toArray 29)
          obtain ⟨w8, hw8⟩ : ∃ x, x = (w7.alloc (.cells (tabCs zeroMen none 0 0).toArray 29)).setRow w7.heap.size (tabCs zeroMen none 0 0).toArray := ⟨_, rfl⟩
          have hb78 : Below w7.heap.size w7 w8 := by rw [hw8]; exact setRow_below (below_box _ _) (Nat.le_refl _) (Nat.le_of_lt hT7.lt)
          have hO8 : HasO w8 w7.heap.size (.cells (tabCs zeroMen none 0 0).toArray 29 (0, 0)) := by rw [hw8]; exact setRow_hasO hT7
          have hbw8 := below_call hbw7 hbw7.size hb78
          have hx8 := hx7.call hb78
          have hA8 := hA7.call hb78
          replace hw8 := Lib.hid hw8
          clear hb78 hbw7 hx7 hA7
          go_wp2_with (refine wpList_storeTo hw8 rfl 29 (.tmp 7) (.tmp 34) rfl rfl rfl 29 _ (HasO.new w7 (.cells (tabCs zeroMen none 0 0).toArray 29)) (by kernel_rfl) rfl hone.out ?_)
          refine (refUnpack_any p c bs w8 hx8 hbs (by omega) hc).mono ?_
          rintro e w9 ⟨hb9, ⟨_, rfl⟩ | ⟨m', es, p1, c1, hs', _⟩⟩
          rotate_left
          · rw [htab] at hs'; cases hs'
          have hT9 := HasO.new w9 (.cells (tabCs zeroMen none 0 0).toArray 29)
          obtain ⟨w10, hw10⟩ : ∃ x, x = (w9.alloc (.cells (tabCs zeroMen none 0 0).toArray 29)).setRow w9.heap.size (tabCs zeroMen none 0 0).toArray := ⟨_, rfl⟩
          have hb910 : Below w9.heap.size w9 w10 := by rw [hw10]; exact setRow_below (below_box _ _) (Nat.le_refl _) (Nat.le_of_lt hT9.lt)
          have hbw9 := below_call hbw8 hbw8.size hb9
          have hbw10 := below_call hbw9 hbw9.size hb910
          have hO10 := (hO8.call hb9).call hb910
          have hcv1 := conv_arr (c := c') bs ((hA8.call hb9).call hb910) rfl
          have hcv2 := conv_arr (c := c) bs ((hx8.call hb9).call hb910) rfl
          have hkn := known_any w10 (hm.call hbw10 hms)
          have hl10 := hO10.lt
          have hc10 := HasO.cells (show HasO w10 w7.heap.size (.cells #[.int .i64 0, .int .i64 0, .int .i64 0, .int .i64 0, .int .i64 0, .int .i64 0, .int .i64 0, .int .i64 0, .int .i64 0, .int .i64 0, .int .i64 0, .int .i64 0, .slice none 0 0] 29 (0, 0)) from hO10)
          have hne : ∀ W : World, (binOp .neq 9 (.string (str (toU bs))) (.string (str (toU bs)))).run Try.prog W = .ok (.bool false) W := fun W => by rw [neS2]; simp
          have he : ∀ W : World, (binOp .eql 26 (.agg #[.int .i64 0, .int .i64 0, .int .i64 0, .int .i64 0, .int .i64 0, .int .i64 0, .int .i64 0, .int .i64 0, .int .i64 0, .int .i64 0, .int .i64 0, .int .i64 0]) (.agg #[.int .i64 0, .int .i64 0, .int .i64 0, .int .i64 0, .int .i64 0, .int .i64 0, .int .i64 0, .int .i64 0, .int .i64 0, .int .i64 0, .int .i64 0, .int .i64 0])).run Try.prog W = .ok (.bool true) W := fun W => (men_eql zeroMen zeroMen W).trans (by simp)
          have hgd : ∀ x y W, (eqGuard .eql 26 x y (.agg #[.int .i64 0, .int .i64 0, .int .i64 0, .int .i64 0, .int .i64 0, .int .i64 0, .int .i64 0, .int .i64 0, .int .i64 0, .int .i64 0, .int .i64 0, .int .i64 0]) (.agg #[.int .i64 0, .int .i64 0, .int .i64 0, .int .i64 0, .int .i64 0, .int .i64 0, .int .i64 0, .int .i64 0, .int .i64 0, .int .i64 0, .int .i64 0, .int .i64 0])).run Try.prog W = .ok () W := fun x y W => men_guard .eql x y zeroMen.cs.toArray zeroMen.cs.toArray W
          replace hw10 := Lib.hid hw10
          clear hb910 hbw8 hx8 hA8 hbw9 hO10 hO8 hb9 hT9
          go_wp2_with (refine wpList_storeTo hw10 rfl 29 (.tmp 9) (.tmp 39) rfl rfl rfl 29 _ (HasO.new w9 (.cells (tabCs zeroMen none 0 0).toArray 29)) (by kernel_rfl) rfl hone.out ?_)
          refine hkn.mono ?_
          rintro e w11 ⟨rfl, hb11⟩
          go_wp2_with fail
          go_ret
          exact ⟨rfl, below_call hbw10 hbw10.size hb11⟩
        · have hlen : es.length ≤ 262144 := by
            unfold tabB at htab
            rw [hs] at htab
            simp only at htab
            split at htab
            · rename_i h; injection htab with h2; injection h2 with h2 h3; rw [← h3]; exact (tabOk_facts h.1).2.2.2.1
            · cases htab
          go_wp2_with (at_builtin; refine wpList_appendArr rfl (.const (.slice none 0 0)) (.tmp 29) 31 rfl wb.heap.size 5 i5 (.int .u8 0) 1 Try.underlying31 hi5 hz5 hs5 hy5 rfl .u8 rfl rfl hp hxb (by omega) (Nat.le_refl _) ?_)
          intro v' w6 hown6 hb6
          obtain ⟨p', c', rfl, hc', hA6⟩ := own_arr hown6
          have hbw6 := below_call hbb hbb.size hb6
          have hx6 := hxb.call hb6
          clear hown6 hb6
          go_wp2_with fail
          refine (Unpack_any p' c' bs w6 hA6 hbs (by omega) hc' (hm.call hbw6 hms)).mono ?_
          rintro e w7 ⟨hb7, ⟨hs', _⟩ | ⟨m1, es1, p1, c1, hs', hle1, rfl, hown7⟩⟩
          · rw [htab] at hs'; cases hs'
          rw [htab] at hs'
          injection hs' with hs'
          injection hs' with h1 h2
          subst h1 h2
          obtain ⟨p1', c1', h1, _, hE7⟩ := own_arr hown7
          injection h1 with h1 _ h3
          subst h1 h3
          have hbw7 := below_call hbw6 hbw6.size hb7
          have hx7 := hx6.call hb7
          have hA7 := hA6.call hb7
          clear hbw6 hx6 hA6 hb7 hown7
          have hT7 := HasO.new w7 (.cells (tabCs zeroMen none 0 0).toArray 29)
          obtain ⟨w8, hw8⟩ : ∃ x, x = (w7.alloc (.cells (tabCs zeroMen none 0 0).toArray 29)).setRow w7.heap.size (tabV m' (.slice p1 es.length c1)).toArray := ⟨_, rfl⟩
          have hb78 : Below w7.heap.size w7 w8 := by rw [hw8]; exact setRow_below (below_box _ _) (Nat.le_refl _) (Nat.le_of_lt hT7.lt)
          have hO8 : HasO w8 w7.heap.size (.cells (tabV m' (.slice p1 es.length c1)).toArray 29 (0, 0)) := by rw [hw8]; exact setRow_hasO hT7
          have hbw8 := below_call hbw7 hbw7.size hb78
          have hx8 := hx7.call hb78
          have hA8 := hA7.call hb78
          have hE8 := hE7.call hb78
          replace hw8 := Lib.hid hw8
          clear hb78 hbw7 hx7 hA7 hE7
          go_wp2_with (refine wpList_storeTo hw8 rfl 29 (.tmp 7) (.tmp 34) rfl rfl rfl 29 _ (HasO.new w7 (.cells (tabCs zeroMen none 0 0).toArray 29)) (by kernel_rfl) rfl (tabV_one m' rfl) ?_)
          refine (refUnpack_any p c bs w8 hx8 hbs (by omega) hc).mono ?_
          rintro e w9 ⟨hb9, ⟨hs', _⟩ | ⟨m2, es2, p2, c2, hs', hle2, rfl, hown9⟩⟩
          · rw [htab] at hs'; cases hs'
          rw [htab] at hs'
          injection hs' with hs'
          injection hs' with h1 h2
          subst h1 h2
          obtain ⟨p2', c2', h1, _, hF9⟩ := own_arr hown9
          injection h1 with h1 _ h3
          subst h1 h3
          have hT9 := HasO.new w9 (.cells (tabCs zeroMen none 0 0).toArray 29)
          obtain ⟨w10, hw10⟩ : ∃ x, x = (w9.alloc (.cells (tabCs zeroMen none 0 0).toArray 29)).setRow w9.heap.size (tabV m' (.slice p2 es.length c2)).toArray := ⟨_, rfl⟩
          have hb910 : Below w9.heap.size w9 w10 := by rw [hw10]; exact setRow_below (below_box _ _) (Nat.le_refl _) (Nat.le_of_lt hT9.lt)
          have hP10 : HasO w10 w9.heap.size (.cells (tabV m' (.slice p2 es.length c2)).toArray 29 (0, 0)) := by rw [hw10]; exact setRow_hasO hT9
          have hbw9 := below_call hbw8 hbw8.size hb9
          have hbw10 := below_call hbw9 hbw9.size hb910
          have hO10 := (hO8.call hb9).call hb910
          have hE10 := (hE8.call hb9).call hb910
          have hF10 := hF9.call hb910
          have hcv1 := conv_arr (c := c') bs ((hA8.call hb9).call hb910) rfl
          have hcv2 := conv_arr (c := c) bs ((hx8.call hb9).call hb910) rfl
          have hne : ∀ W : World, (binOp .neq 9 (.string (str (toU bs))) (.string (str (toU bs)))).run Try.prog W = .ok (.bool false) W := fun W => by rw [neS2]; simp
          replace hw10 := Lib.hid hw10
          clear hb910 hbw8 hx8 hA8 hbw9 hO8 hb9 hT9 hE8 hF9 hown9
          go_wp2_with (first | (refine wpList_storeTo hw10 rfl 29 (.tmp 9) (.tmp 39) rfl rfl rfl 29 _ (HasO.new w9 (.cells (tabCs zeroMen none 0 0).toArray 29)) (by kernel_rfl) rfl (tabV_one m' rfl) ?_) | (with_reducible refine wpList_loadO rfl 29 (.tmp 7) rfl w7.heap.size (tabV m' (.slice p1 es.length c1)).toArray 29 rfl hO10 (by kernel_rfl) ?_) | (with_reducible refine wpList_loadO rfl 29 (.tmp 9) rfl w9.heap.size (tabV m' (.slice p2 es.length c2)).toArray 29 rfl hP10 (by kernel_rfl) ?_))
          refine (same_any m' p1 p2 c1 c2 es w10 hE10 hF10 (by omega)).mono ?_
          rintro e w11 ⟨rfl, hb11⟩
          have hbw11 := below_call hbw10 hbw10.size hb11
          have hkn := known_any w11 (hm.call hbw11 hms)
          clear hcv1 hcv2 hO10 hP10 hE10 hF10 hbw10 hb11 hw10
          go_wp2_with fail
          refine hkn.mono ?_
          rintro e w12 ⟨rfl, hb12⟩
          go_wp2_with fail
          go_ret
          exact ⟨rfl, below_call hbw11 hbw11.size hb12⟩
end Go.Proofs.Ytddkhnnpeonbgaa
