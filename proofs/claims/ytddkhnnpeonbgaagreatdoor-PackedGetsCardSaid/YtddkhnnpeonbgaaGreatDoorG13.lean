import Derived.Test.YtddkhnnpeonbgaaGreatDoorG06
import Derived.Test.YtddkhnnpeonbgaaGreatDoorG09
import Derived.Test.YtddkhnnpeonbgaaGreatDoorG12
import Derived.Laws.BitsAllLaws
import Derived.BigRegion
import Derived.RegionIn
namespace Go.Proofs.YtddkhnnpeonbgaaGreatDoor
open Go.RowKit

theorem nat_or_shift (a n w : Nat) (hn : n < 2 ^ w) (hw : w ≤ 32) : (a * 2 ^ w % 4294967296) ||| n = a * 2 ^ w % 4294967296 + n := by
  have e : a * 2 ^ w % 4294967296 = (a % 2 ^ (32 - w)) <<< w := by
    rw [Nat.shiftLeft_eq, show (4294967296 : Nat) = 2 ^ (32 - w) * 2 ^ w by rw [← Nat.pow_add, show 32 - w + w = 32 by omega], Nat.mul_mod_mul_right]
  rw [e, Nat.shiftLeft_add_eq_or_of_lt hn]
theorem acc_step (V n : Int) (w : Nat) (hV : 0 ≤ V) (h0 : 0 ≤ n) (hn : n < 2 ^ w) (hw : w ≤ 32) : bits .or .u32 ((V % 4294967296) * 2 ^ w % 4294967296) n = (V * 2 ^ w + n) % 4294967296 := by
  obtain ⟨v, rfl⟩ := Int.eq_ofNat_of_zero_le hV
  obtain ⟨m, rfl⟩ := Int.eq_ofNat_of_zero_le h0
  have hm : m < 2 ^ w := by exact_mod_cast hn
  have hp : (2 : Nat) ^ w ≤ 2 ^ 32 := Nat.pow_le_pow_right (by decide) hw
  have e1 : ((v : Int) % 4294967296) * 2 ^ w % 4294967296 = ((v * 2 ^ w % 4294967296 : Nat) : Int) := by
    rw [Int.mul_emod, Int.emod_emod_of_dvd _ (Int.dvd_refl _), ← Int.mul_emod, Int.natCast_emod, Int.natCast_mul, Int.natCast_pow]; rfl
  rw [e1, u32_or_nat _ _ (by omega) (by omega), nat_or_shift _ _ _ hm hw]
  have h3 : v * 2 ^ w % 4294967296 + m < 4294967296 := by
    have e2 : v * 2 ^ w % 4294967296 = (v % 2 ^ (32 - w)) * 2 ^ w := by
      rw [show (4294967296 : Nat) = 2 ^ (32 - w) * 2 ^ w by rw [← Nat.pow_add, show 32 - w + w = 32 by omega], Nat.mul_mod_mul_right]
    have h4 : v % 2 ^ (32 - w) < 2 ^ (32 - w) := Nat.mod_lt _ (Nat.two_pow_pos _)
    have h5 : (v % 2 ^ (32 - w) + 1) * 2 ^ w ≤ 2 ^ (32 - w) * 2 ^ w := Nat.mul_le_mul_right _ h4
    rw [← Nat.pow_add, show 32 - w + w = 32 by omega, Nat.add_mul] at h5
    omega
  have h6 : (v * 2 ^ w + m) % 4294967296 = v * 2 ^ w % 4294967296 + m := by
    rw [Nat.add_mod, Nat.mod_eq_of_lt (show m < 4294967296 by omega), Nat.mod_eq_of_lt h3]
  have h7 : ((v : Int) * 2 ^ w + (m : Int)) % 4294967296 = (((v * 2 ^ w + m) % 4294967296 : Nat) : Int) := by rw [Int.natCast_emod, Int.natCast_add, Int.natCast_mul, Int.natCast_pow]; rfl
  rw [h7, h6]
theorem shr_byte (V : Int) (w : Nat) (hw : w ≤ 24) : (V % 4294967296) / 2 ^ w % 256 = V / 2 ^ w % 256 := by
  have hp := pow_pos2 w
  have e : (4294967296 : Int) = 2 ^ w * (2 ^ (24 - w) * 256) := by
    rw [← Int.mul_assoc, ← Int.pow_add, show w + (24 - w) = 24 by omega]; rfl
  have h1 := Int.mul_ediv_add_emod V 4294967296
  have h2 : V % 4294967296 = V + 2 ^ w * (-(2 ^ (24 - w) * 256 * (V / 4294967296))) := by
    have e3 : 2 ^ w * (-(2 ^ (24 - w) * 256 * (V / 4294967296))) = -(4294967296 * (V / 4294967296)) := by
      rw [e]; rw [Int.mul_neg, ← Int.mul_assoc]
    rw [e3]; omega
  rw [h2, Int.add_mul_ediv_left _ _ (by omega)]
  have e4 : -(2 ^ (24 - w) * 256 * (V / 4294967296)) = 256 * (-(2 ^ (24 - w) * (V / 4294967296))) := by
    rw [Int.mul_neg]; congr 1
    rw [Int.mul_comm (2 ^ (24 - w)) 256, Int.mul_assoc]
  rw [e4, Int.add_mul_emod_self_left]

def WrS (base q : Nat) (v : Value) (pre bs : List Int) (w : World) : Prop :=
  HasO w q (.cells #[v, .int .u32 (valL bs % 4294967296), .int .i64 ((bs.length % 8 : Nat) : Int)] 135 (0, 0)) ∧
  w.ownsRow base 5 1 v (pre.length + bs.length / 8) ((pre ++ bytesN (bs.length / 8) bs).map (.int .u8))

def pv (q : Nat) (v' : Value) (av2 : Int) (m : Nat) : Nat → Value
  | 0 => .pointer (some ⟨q, 0, none⟩) | 1 => .pointer (some ⟨q, 0, none⟩) | 2 => .pointer (some ⟨q, 0, none⟩) | 3 => .pointer (some ⟨q, 0, none⟩) | 4 => v'
  | 5 => .pointer (some ⟨q, 0, none⟩) | 6 => .pointer (some ⟨q, 0, none⟩) | 7 => .pointer (some ⟨q, 1, none⟩) | 8 => .int .u32 av2
  | 9 => .pointer (some ⟨q, 0, none⟩) | 10 => .pointer (some ⟨q, 0, none⟩) | 11 => .pointer (some ⟨q, 2, none⟩) | 12 => .int .i64 m
  | 13 => .int .u32 (av2 / 2 ^ m) | 14 => .int .u8 (av2 / 2 ^ m % 256) | 17 => .pointer (some ⟨q, 0, none⟩) | 18 => .pointer (some ⟨q, 0, none⟩) | _ => undef
def putR (base q : Nat) (v v' : Value) (av2 : Int) (m N : Nat) (xs : List Int) (w wA : World) : (s15 s16 s19 : Bool) → Value → Value → World → Prop
  | _, _, true, _, _, wv => ∃ v'', wv.ownsRow base 5 1 v'' (N + 1) ((xs ++ [av2 / 2 ^ m % 256]).map (.int .u8)) ∧ HasO wv q (.cells #[v'', .int .u32 av2, .int .i64 m] 135 (0, 0)) ∧ Put2 q v w wv ∧ Near w v v''
  | _, true, false, _, u16, wv => wv.ownsRow base 5 1 u16 (N + 1) ((xs ++ [av2 / 2 ^ m % 256]).map (.int .u8)) ∧ HasO wv q (.cells #[v', .int .u32 av2, .int .i64 m] 135 (0, 0)) ∧ Put2 q v w wv ∧ Near w v u16
  | true, false, false, u15, _, wv => u15 = .slice (some ⟨wA.heap.size, 0, none⟩) 1 1 ∧ wv = wA.drew.alloc (.cells #[.int .u8 (av2 / 2 ^ m % 256)] 5)
  | false, false, false, _, _, wv => wv = wA.drew
theorem own_slice {w : World} {base : Nat} {e : TypeId} {size n : Nat} {v : Value} {xs : List Value} (h : w.ownsRow base e size v n xs) : ∃ p n c, v = .slice p n c := by
  rcases h.2 with ⟨rfl, _⟩ | ⟨g, cap, cur, rfl, _⟩
  iterate 2 exact ⟨_, _, _, rfl⟩
theorem putR_has {base q : Nat} {v v' : Value} {av2 : Int} {m N : Nat} {xs : List Int} {w wA : World} {s15 s16 : Bool} {u15 u16 : Value} {wv : World} (h : putR base q v v' av2 m N xs w wA s15 s16 false u15 u16 wv)
    (hM : HasO wA q (.cells #[v', .int .u32 av2, .int .i64 m] 135 (0, 0))) : HasO wv q (.cells #[v', .int .u32 av2, .int .i64 m] 135 (0, 0)) := by
  rcases s16 with _ | _
  · rcases s15 with _ | _
    · obtain rfl : wv = wA.drew := h
      exact hM.drew
    · obtain ⟨_, rfl⟩ : _ ∧ wv = wA.drew.alloc _ := h
      exact hM.drew.alloc _
  · exact h.2.1

set_option maxRecDepth 100000 in
set_option maxHeartbeats 1000000 in
theorem put_any (base q : Nat) (v : Value) (pre bs : List Int) (n : Int) (wd : Nat) (w : World) (hW : WrS base q v pre bs w) (hbits : isBits bs) (h0 : 0 ≤ n) (h1 : n < 2 ^ wd) (hw : wd ≤ 14) (hbase : base ≤ w.heap.size) (hl : pre.length + bs.length ≤ 100000000) :
    Calls Tryz.prog 78 #[.pointer (some ⟨q, 0, none⟩), .int .u32 n, .int .i64 wd] w fun e w' => ∃ v', e = .returned (.tuple #[]) ∧ WrS base q v' pre (bs ++ bitsI wd n) w' ∧ Put2 q v w w' ∧ Near w v v' := by
  obtain ⟨i0, hi0, hz0, hz1, hz2⟩ := info_parts Tryz.info5
  obtain ⟨hM, hown⟩ := hW
  have hb2 := isBits_append hbits (bitsI_bits wd n)
  have hlen : (bs ++ bitsI wd n).length = bs.length + wd := by rw [List.length_append, bitsI_len]
  have hval : valL (bs ++ bitsI wd n) = valL bs * 2 ^ wd + n := by rw [valL_append, bitsI_len, bitsI_val _ _ h0 h1]
  have hacc := Lib.hid (acc_step (valL bs) n wd (valL_bd hbits).1 h0 h1 (by omega))
  rw [← hval] at hacc
  have hpre := bytesN_append (bs.length / 8) bs (bitsI wd n) (by omega)
  rw [← hpre] at hown
  replace hval := Lib.hid hval
  replace hpre := Lib.hid hpre
  replace hbits := Lib.hid hbits
  have hn32 : n < 4294967296 := by
    have h2 := Nat.pow_le_pow_right (show 0 < 2 by decide) hw
    have e : ((2 ^ wd : Nat) : Int) = (2 : Int) ^ wd := by rw [Int.natCast_pow]; rfl
    rw [← e] at h1
    omega
  replace h1 := Lib.hid h1
  have hva : 0 ≤ valL bs % 4294967296 ∧ valL bs % 4294967296 < 4294967296 := ⟨Int.emod_nonneg _ (by decide), Int.emod_lt_of_pos _ (by decide)⟩
  generalize hbs2 : bs ++ bitsI wd n = bs2 at *
  replace hbs2 := Lib.hid hbs2
  generalize valL bs % 4294967296 = av at *
  obtain ⟨r, hr⟩ : ∃ r, r = bs.length % 8 := ⟨_, rfl⟩
  rw [← hr] at hM
  have hr8 : r < 8 := by omega
  obtain ⟨k0, hk0⟩ : ∃ k, k = bs.length / 8 := ⟨_, rfl⟩
  rw [← hk0] at hown
  have hL : bs2.length = 8 * k0 + r + wd := by omega
  have hk0b : 8 * k0 ≤ bs.length := by omega
  replace hr := Lib.hid hr
  replace hk0 := Lib.hid hk0
  replace hlen := Lib.hid hlen
  go_enter Tryz.func78, Tryz.ntmps78
  have c0 := hM.cells 0
  have c1 := hM.cells 1
  have c2 := hM.cells 2
  have f := hM.frozen
  have hlt := hM.lt
  go_wp2_with fail
  go_region
  rw [hacc.out]
  have hM1 := ((hM.set_ 1 (.int .u32 (valL bs2 % 4294967296))).set_ 2 (.int .i64 ((r : Int) + wd))).drew
  have hP1 := (((Put2.refl q v w).setCell 1 (.int .u32 (valL bs2 % 4294967296))).setCell 2 (.int .i64 ((r : Int) + wd))).drew
  have hne : v.ownBlock ≠ some q := own_ne hown hM (by simp)
  have hown1 : ((w.setCell ⟨q, 1, none⟩ (.int .u32 (valL bs2 % 4294967296))).setCell ⟨q, 2, none⟩ (.int .i64 ((r : Int) + wd))).drew.ownsRow base 5 1 v (pre.length + k0) ((pre ++ bytesN k0 bs2).map (.int .u8)) := by
    refine hown.kept (row := some q) ⟨rfl, rfl, rfl, by simp [World.setCell], fun k hk hkq => ?_⟩ (.inr hne)
    show ((w.setCell _ _).setCell _ _).heap[k]? = _
    rw [Below.heap_setCell _ _ _ _ (fun e => hkq (by rw [e])), Below.heap_setCell _ _ _ _ (fun e => hkq (by rw [e]))]
  generalize ((w.setCell ⟨q, 1, none⟩ (.int .u32 (valL bs2 % 4294967296))).setCell ⟨q, 2, none⟩ (.int .i64 ((r : Int) + wd))).drew = wB at *
  have hva2 : 0 ≤ valL bs2 % 4294967296 ∧ valL bs2 % 4294967296 < 4294967296 := ⟨Int.emod_nonneg _ (by decide), Int.emod_lt_of_pos _ (by decide)⟩
  generalize hav2 : valL bs2 % 4294967296 = av2 at *
  replace hav2 := Lib.hid hav2
  clear c0 c1 c2 f hacc hva hne
  go_wp2_with fail
  go_loopg [] 3 (fun qg wr => ∃ (k : Nat) (v' : Value), qg + k = k0 + 3 ∧ k0 ≤ k ∧ 8 * k ≤ bs2.length ∧ HasO wr q (.cells #[v', .int .u32 av2, .int .i64 ((bs2.length : Int) - 8 * k)] 135 (0, 0)) ∧
    wr.ownsRow base 5 1 v' (pre.length + k) ((pre ++ bytesN k bs2).map (.int .u8)) ∧ Put2 q v w wr ∧ Near w v v')
  case atStart => exact ⟨k0, v, by omega, by omega, by omega, by rw [show (bs2.length : Int) - 8 * k0 = (r : Int) + wd by omega]; exact hM1, hown1, hP1, Near.refl _ _⟩
  case round =>
    clear hM1 hown1 hP1 hM hown
    obtain ⟨k, v', hq, hk0k, hk8, hM, hown, hP, hN⟩ := hrel
    by_cases hk : 8 * k + 8 ≤ bs2.length
    · obtain ⟨m, hm⟩ : ∃ m, m = bs2.length - (8 * k + 8) := ⟨_, rfl⟩
      have hm24 : m ≤ 13 := by omega
      have hW : (bs2.length : Int) - 8 * k = m + 8 := by omega
      rw [hW] at hM
      have c0 := hM.cells 0
      have c1 := hM.cells 1
      have c2 := hM.cells 2
      have f := hM.frozen
      have hlt := hM.lt
      have hne : v'.ownBlock ≠ some q := own_ne hown hM (by simp)
      have hMA := hM.set_ 2 (.int .i64 (m : Int))
      have hPA := hP.setCell 2 (.int .i64 (m : Int))
      have hownA : (wr.setCell ⟨q, 2, none⟩ (.int .i64 (m : Int))).ownsRow base 5 1 v' (pre.length + k) ((pre ++ bytesN k bs2).map (.int .u8)) := by
        refine hown.kept (row := some q) ⟨rfl, rfl, rfl, by simp [World.setCell], fun k hk hkq => ?_⟩ (.inr hne)
        rw [Below.heap_setCell _ _ _ _ (fun e => hkq (by rw [e]))]
      replace hm := Lib.hid hm
      replace hW := Lib.hid hW
      replace hL := Lib.hid hL
      have hmm : (m : Int) + 8 - 8 = m := by omega
      go_wp2_with fail
      have hszA : (wr.setCell ⟨q, 2, none⟩ (.int .i64 (m : Int))).heap.size = wr.heap.size := by simp [World.setCell]
      generalize wr.setCell ⟨q, 2, none⟩ (.int .i64 (m : Int)) = wA at *
      have hbA : base ≤ wA.heap.size := by have := hPA.size; omega
      have hltA := hMA.lt
      clear c0 c1 c2 f hne hown hM hP hlt hmm
      replace hszA := True.intro
      refine wp_region_relL (by kernel_rfl) (by kernel_rfl) [some 38, some 39, some 40, some 41, some 42, some 43, some 44, some 45, some 46, some 47, some 48, some 49, some 50, some 51, some 52, some 53, some 54, some 55, some 56, none] (by rfl) (by rfl)
        (fun S f wv => (∀ i, i < 19 → i ≠ 15 → i ≠ 16 → S i = true → f i = pv q v' av2 m i) ∧ putR base q v v' av2 m (pre.length + k) (pre ++ bytesN k bs2) w wA (S 15) (S 16) (S 19) (f 15) (f 16) wv) ?hcong ?h0 ?hstep ?hend
      case hcong =>
        rintro S S' f wv hS ⟨h1, h2⟩
        refine ⟨fun i hi h15 h16 h => h1 i hi h15 h16 (by rw [hS i (Nat.lt_of_lt_of_le hi (by decide))]; exact h), ?_⟩
        rw [← hS 15 (by decide), ← hS 16 (by decide), ← hS 19 (by decide)]; exact h2
      case h0 => exact fun f => ⟨fun i _ _ _ h => (by cases h), rfl⟩
      case hstep =>
        rintro S i o f wv ho hi hSi hpre hcl ⟨hf, hR⟩ K hK
        have hi : i < 20 := hi
        have keep : ∀ u, i ≠ 15 → i ≠ 16 → i < 19 → u = pv q v' av2 m i → (∀ j, j < 19 → j ≠ 15 → j ≠ 16 → upd S i j = true → (if j = i then u else f j) = pv q v' av2 m j) ∧ putR base q v v' av2 m (pre.length + k) (pre ++ bytesN k bs2) w wA (upd S i 15) (upd S i 16) (upd S i 19) (if 15 = i then u else f 15) (if 16 = i then u else f 16) wv := by
          intro u h15 h16 h19 hu
          refine ⟨fun j hj hj15 hj16 hSj => ?_, ?_⟩
          · by_cases e : j = i
            · subst e; simpa using hu
            · simp only [e, if_false]; exact hf j hj hj15 hj16 (by simpa [upd, e] using hSj)
          · simp only [upd, show ¬ 15 = i from fun h => h15 h.symm, show ¬ 16 = i from fun h => h16 h.symm, show ¬ 19 = i by omega, if_false]; exact hR
        have hv : ∀ e ∈ o.after, Region.binds .any e = true → e.on ≠ 15 → e.on ≠ 16 → e.on < 19 → f e.on = pv q v' av2 m e.on := fun e he hb h1 h2 h3 => hf _ h3 h1 h2 (hpre e he hb)
        have h19 : i < 17 → S 19 = false := by
          intro h
          rcases hs : S 19 with _ | _
          · rfl
          · have h4 := hcl 19 _ hs rfl ⟨i, .phase⟩ (by
              rcases (by omega : i = 0 ∨ i = 1 ∨ i = 2 ∨ i = 3 ∨ i = 4 ∨ i = 5 ∨ i = 6 ∨ i = 7 ∨ i = 8 ∨ i = 9 ∨ i = 10 ∨ i = 11 ∨ i = 12 ∨ i = 13 ∨ i = 14 ∨ i = 15 ∨ i = 16) with rfl | rfl | rfl | rfl | rfl | rfl | rfl | rfl | rfl | rfl | rfl | rfl | rfl | rfl | rfl | rfl | rfl <;> simp) rfl
            rw [hSi] at h4; cases h4
        by_cases hspec : i = 15 ∨ i = 16 ∨ i = 19
        · rcases hspec with rfl | rfl | rfl
          · have h19' := h19 (by omega)
            have h16 : S 16 = false := by
              rcases hs : S 16 with _ | _
              · rfl
              · have h4 := hcl 16 _ hs rfl ⟨15, .data⟩ (by simp) rfl
                rw [hSi] at h4; cases h4
            rw [hSi, h16, h19'] at hR
            obtain rfl : wv = wA.drew := hR
            have hK := hK (.slice (some ⟨wA.heap.size, 0, none⟩) 1 1) (wA.drew.alloc (.cells #[.int .u8 (av2 / 2 ^ m % 256)] 5)) ⟨fun j hj h1 h2 h3 => by show (if j = 15 then _ else f j) = _; rw [if_neg h1]; exact hf j hj h1 h2 (by simpa [upd, h1] using h3), by
              rw [show upd S 15 15 = true by simp [upd], show upd S 15 16 = false by simp [upd, h16], show upd S 15 19 = false by simp [upd, h19']]
              exact ⟨rfl, rfl⟩⟩
            clear hcl hpre keep h19 h19' hf
            injection ho with ho; subst ho
            simp [Region.binds] at hv
            simp only [putL, pv] at hv hK ⊢
            simp only [hv] at hK ⊢
            revert hK
            go_simp
          · have h19' := h19 (by omega)
            have h15 : S 15 = true := hpre ⟨15, .data⟩ (by injection ho with ho; subst ho; simp) rfl
            have h4 : f 4 = v' := hv ⟨4, .data⟩ (by injection ho with ho; subst ho; simp) rfl (by decide) (by decide) (by decide)
            rw [h15, hSi, h19'] at hR
            obtain ⟨hu15, rfl⟩ : f 15 = .slice (some ⟨wA.heap.size, 0, none⟩) 1 1 ∧ wv = wA.drew.alloc (.cells #[.int .u8 (av2 / 2 ^ m % 256)] 5) := hR
            have hK : ∀ u w', w'.ownsRow base 5 1 u (pre.length + k + 1) ((pre ++ bytesN k bs2 ++ [av2 / 2 ^ m % 256]).map (.int .u8)) ∧ HasO w' q (.cells #[v', .int .u32 av2, .int .i64 m] 135 (0, 0)) ∧ Put2 q v w w' ∧ Near w v u → K ((putL _ f 0 _).put o.dst u) w' := fun u w' hu => hK u w' ⟨fun j hj h1 h2 h3 => by show (if j = 16 then _ else f j) = _; rw [if_neg h2]; exact hf j hj h1 h2 (by simpa [upd, h2] using h3), by
              rw [show upd S 16 15 = true by simp [upd, h15], show upd S 16 16 = true by simp [upd], show upd S 16 19 = false by simp [upd, h19']]
              exact hu⟩
            clear hcl hpre keep h19 h19' hf hv
            injection ho with ho; subst ho
            rw [if_pos (show Region.wanted _ _ = true from rfl)]
            with_reducible refine wp_push_at (.tmp 42) (.tmp 53) 22 ?_ base 5 i0 (.int .u8 0) 1 ?_ ?_ ?_ ?_ ?_ ?_ v' (pre.length + k) ((pre ++ bytesN k bs2).map (.int .u8)) ?_ ?_ 1 [.int .u8 (av2 / 2 ^ m % 256)] ?_ ?_ wA.drew.heap.size ?_ ?_ ?_ ?_ ?_
            · rfl
            · exact Tryz.underlying22
            · exact hi0
            · exact hz0
            · exact hz1
            · exact hz2
            · rfl
            · simp only [putL]; go_simp
            · exact hownA
            · rfl
            · intro u hu; simp at hu; subst hu; rfl
            · rfl
            · simp only [putL]; go_simp
            · omega
            · exact hbA
            · intro v'' w' ho2 hg hnear
              refine hK v'' w' ⟨by rw [List.map_append]; exact ho2, ?_, ?_, ?_⟩
              · exact (hMA.drew.alloc _).grown hg (own_ne hownA hMA (by simp))
              · exact (hPA.drew.alloc _).grown hN hg
              · exact hN.trans hnear hPA.size
          · have h16 : S 16 = true := hpre ⟨16, .data⟩ (by injection ho with ho; subst ho; simp) rfl
            have h18 : f 18 = .pointer (some ⟨q, 0, none⟩) := hv ⟨18, .data⟩ (by injection ho with ho; subst ho; simp) rfl (by decide) (by decide) (by decide)
            rw [h16, hSi] at hR
            have hR2 : wv.ownsRow base 5 1 (f 16) (pre.length + k + 1) ((pre ++ bytesN k bs2 ++ [av2 / 2 ^ m % 256]).map (.int .u8)) ∧ HasO wv q (.cells #[v', .int .u32 av2, .int .i64 m] 135 (0, 0)) ∧ Put2 q v w wv ∧ Near w v (f 16) := by
              rcases S 15 with _ | _ <;> exact hR
            obtain ⟨ho1, ho2, ho3, ho4⟩ := hR2
            have hne := own_ne ho1 ho2 (by simp)
            have hu := own_slice ho1
            obtain ⟨up, un, uc, hu⟩ := hu
            have hK := hK undef (wv.setCell ⟨q, 0, none⟩ (f 16)) ⟨fun j hj h1 h2 h3 => by show (if j = 19 then _ else f j) = _; rw [if_neg (by omega)]; exact hf j hj h1 h2 (by simpa [upd, show ¬ j = 19 by omega] using h3), by
              rw [show upd S 19 19 = true by simp [upd]]
              have hfin : ∃ v'', (wv.setCell ⟨q, 0, none⟩ (f 16)).ownsRow base 5 1 v'' (pre.length + k + 1) ((pre ++ bytesN k bs2 ++ [av2 / 2 ^ m % 256]).map (.int .u8)) ∧ HasO (wv.setCell ⟨q, 0, none⟩ (f 16)) q (.cells #[v'', .int .u32 av2, .int .i64 m] 135 (0, 0)) ∧ Put2 q v w (wv.setCell ⟨q, 0, none⟩ (f 16)) ∧ Near w v v'' := by
                refine ⟨f 16, ?_, ho2.set_ 0 (f 16), ho3.setCell 0 (f 16), ho4⟩
                refine ho1.kept (row := some q) ⟨rfl, rfl, rfl, by simp [World.setCell], fun k hk hkq => ?_⟩ (.inr hne)
                rw [Below.heap_setCell _ _ _ _ (fun e => hkq (by rw [e]))]
              rcases upd S 19 15 with _ | _ <;> rcases upd S 19 16 with _ | _ <;> exact hfin⟩
            have c0 := ho2.cells 0
            have fz := ho2.frozen
            clear hcl hpre keep h19 hf hv hR
            injection ho with ho; subst ho
            simp only [putL] at hK ⊢
            simp only [h18] at hK ⊢
            simp only [hu] at hK ⊢
            clear ho1 ho2 ho3 ho4 hne
            revert hK
            go_simp
        · by_cases hpt : i = 17 ∨ i = 18
          · have hK := hK _ wv (keep (pv q v' av2 m i) (by omega) (by omega) (by omega) rfl)
            clear hR hcl hpre keep h19 hf
            rcases hpt with rfl | rfl
            all_goals (injection ho with ho; subst ho)
            all_goals (simp [Region.binds] at hv)
            all_goals (simp only [putL, pv] at hv hK ⊢)
            all_goals (try simp only [hv] at hK ⊢)
            all_goals (revert hK)
            all_goals (try go_simp)
            all_goals (try exact id)
          have h19' := h19 (by omega)
          have hR2 := hR
          rw [h19'] at hR2
          have hMv := putR_has hR2 hMA
          have c0 := hMv.cells 0
          have c1 := hMv.cells 1
          have c2 := hMv.cells 2
          have hK := hK _ wv (keep (pv q v' av2 m i) (by omega) (by omega) (by omega) rfl)
          clear hR2 hR hcl hpre keep h19 h19' hf
          rcases (by omega : i = 0 ∨ i = 1 ∨ i = 2 ∨ i = 3 ∨ i = 4 ∨ i = 5 ∨ i = 6 ∨ i = 7 ∨ i = 8 ∨ i = 9 ∨ i = 10 ∨ i = 11 ∨ i = 12 ∨ i = 13 ∨ i = 14) with rfl | rfl | rfl | rfl | rfl | rfl | rfl | rfl | rfl | rfl | rfl | rfl | rfl | rfl | rfl
          all_goals (injection ho with ho; subst ho)
          all_goals (simp [Region.binds] at hv)
          all_goals (simp only [putL, pv] at hv hK ⊢)
          all_goals (try simp only [hv] at hK ⊢)
          all_goals (revert hK)
          all_goals (try go_simp)
          all_goals (try exact id)
      case hend =>
        rintro S f wv hS ⟨hf, hR⟩
        rw [hS 19 (by decide)] at hR
        have hR2 : ∃ v'', wv.ownsRow base 5 1 v'' (pre.length + k + 1) ((pre ++ bytesN k bs2 ++ [av2 / 2 ^ m % 256]).map (.int .u8)) ∧ HasO wv q (.cells #[v'', .int .u32 av2, .int .i64 m] 135 (0, 0)) ∧ Put2 q v w wv ∧ Near w v v'' := by
          rcases S 15 with _ | _ <;> rcases S 16 with _ | _ <;> exact hR
        obtain ⟨v'', ho1, ho2, ho3, ho4⟩ := hR2
        have hx : av2 / 2 ^ m % 256 = valL ((bs2.drop (8 * k)).take 8) := by
          rw [byte_mid hb2 hk, ← hm.out, ← hav2.out, shr_byte _ _ (by omega)]
        rw [hx, List.append_assoc, ← bytesN_succ] at ho1
        clear hR hf hS hMA hPA hownA hN
        simp only [putL]
        go_simp
        go_wp2_with fail
        have hL := hL.out
        go_roundg (gk - 1)
        case measure => omega
        case rel =>
          have e : (bs2.length : Int) - 8 * ((k + 1 : Nat) : Int) = m := by have := hW.out; omega
          exact ⟨k + 1, v'', by omega, by omega, by omega, by rw [e]; exact ho2, ho1, ho3, ho4⟩
    · have hkk : (bs2.length : Int) - 8 * k < 8 := by omega
      have hkk0 : 0 ≤ (bs2.length : Int) - 8 * k := by omega
      have c2 := hM.cells 2
      have hlt := hM.lt
      go_wp2_with fail
      go_end0
      have hkL : k = bs2.length / 8 := by omega
      refine ⟨v', rfl, ⟨?_, ?_⟩, hP, hN⟩
      · rw [hav2.out, show ((bs2.length % 8 : Nat) : Int) = (bs2.length : Int) - 8 * k by omega]; exact hM
      · rw [← hkL]; exact hown
end Go.Proofs.YtddkhnnpeonbgaaGreatDoor
namespace Go.Proofs.YtddkhnnpeonbgaaGreatDoor
open Go.RowKit

theorem padL_len (bs : List Int) : (padL bs).length = bs.length + padN bs.length := by simp [padL]
theorem end_any (base q : Nat) (v : Value) (pre bs : List Int) (w : World) (hW : WrS base q v pre bs w) (hbits : isBits bs) (hbase : base ≤ w.heap.size) (hl : pre.length + bs.length ≤ 100000000) :
    Calls Tryz.prog 79 #[.pointer (some ⟨q, 0, none⟩)] w fun e w' => ∃ v', e = .returned (.tuple #[]) ∧ WrS base q v' (pre ++ bytesL bs) [] w' ∧ Put2 q v w w' ∧ Near w v v' := by
  have hM := hW.1
  have c2 := hM.cells 2
  have hlt := hM.lt
  have key : ∀ v' w', WrS base q v' pre (padL bs) w' → Put2 q v w w' → Near w v v' → (WrS base q v' (pre ++ bytesL bs) [] (w'.setCell ⟨q, 1, none⟩ (.int .u32 0)) ∧ Put2 q v w (w'.setCell ⟨q, 1, none⟩ (.int .u32 0)) ∧ Near w v v') := by
    rintro v' w' ⟨h1, h2⟩ h3 h4
    refine ⟨⟨?_, ?_⟩, h3.setCell 1 _, h4⟩
    · have := h1.set_ 1 (.int .u32 0)
      have e : ((padL bs).length % 8 : Nat) = 0 := by have := padN_lt bs.length; rw [padL_len]; omega
      rw [e] at this
      exact this
    · have hne := own_ne h2 h1 (by simp)
      have e1 : (pre ++ bytesL bs).length + ([] : List Int).length / 8 = pre.length + (padL bs).length / 8 := by simp [bytesL, bytesN_len]
      have e2 : (pre ++ bytesL bs) ++ bytesN (([] : List Int).length / 8) [] = pre ++ bytesN ((padL bs).length / 8) (padL bs) := by simp [bytesL, bytesN]
      rw [e1, e2]
      refine h2.kept (row := some q) ⟨rfl, rfl, rfl, by simp [World.setCell], fun k hk hkq => ?_⟩ (.inr hne)
      rw [Below.heap_setCell _ _ _ _ (fun e => hkq (by rw [e]))]
  replace key := Lib.hid key
  have hr : bs.length % 8 < 8 := Nat.mod_lt _ (by decide)
  generalize hrr : bs.length % 8 = r at *
  go_enter Tryz.func79, Tryz.ntmps79
  by_cases h0 : r = 0
  · subst h0
    have hp : padL bs = bs := by simp [padL, padN, hrr]
    have hk := Lib.hid (key.out v w (by rw [hp]; exact hW) (Put2.refl _ _ _) (Near.refl _ _))
    have f := hM.frozen
    have c1 := hM.cells 1
    replace hrr := Lib.hid hrr
    go_wp2_with fail
    go_end0
    first | exact ⟨v, rfl, hk.out⟩ | exact ⟨rfl, v, hk.out⟩
  · have hr0 : (0 : Int) < r := by omega
    replace hrr := Lib.hid hrr
    go_wp2_with fail
    have e : (8 : Int) - r = ((8 - r : Nat) : Int) := by omega
    rw [e]
    refine (put_any base q v pre bs 0 (8 - r) w hW hbits (Int.le_refl _) (pow_pos2 _) (by omega) hbase hl).mono ?_
    rintro e w' ⟨v', rfl, h1, h2, h3⟩
    have hp : bs ++ bitsI (8 - r) 0 = padL bs := by
      rw [bitsI_zero, padL, padN, hrr.out, Nat.mod_eq_of_lt (by omega)]
    rw [hp] at h1
    have hk := Lib.hid (key.out v' w' h1 h2 h3)
    have hM2 := h1.1
    have f := hM2.frozen
    have c1 := hM2.cells 1
    have hlt2 := hM2.lt
    clear hM c2 hlt hW
    go_wp2_with fail
    go_end0
    first | exact ⟨v', rfl, hk.out⟩ | exact ⟨rfl, v', hk.out⟩

theorem min_any (p : Option Addr) (c : Nat) (xs : List Int) (w : World) (hx : Arr .i16 w p xs) (hl : xs.length ≤ 1000000000) (hne : 0 < xs.length) :
    Calls Tryz.prog 75 #[.slice p xs.length c] w fun e w' => e = .returned (.int .i16 (lowL xs)) ∧ w' = w := by
  obtain ⟨b, o, rfl, hbl, hc⟩ := hx.at hne
  have hc0 := hc 0 hne
  have hn1 : ¬ (xs.length : Int) < 1 := by omega
  obtain ⟨x0, hx0⟩ : ∃ x, x = xs[0]?.getD 0 := ⟨_, rfl⟩
  rw [← hx0, Nat.add_zero] at hc0
  have hlow : Hid (lowL xs = xs.foldl min x0) := Lib.hid (by rw [hx0]; rfl)
  have h0 : Hid (x0 = (xs.take 1).foldl min x0) := Lib.hid (by rw [hx0]; rcases xs with _ | ⟨y, t⟩; simp at hne; simp)
  replace hc := Lib.hid hc
  replace hx0 := Lib.hid hx0
  go_enter Tryz.func75, Tryz.ntmps75
  go_wp2_with fail
  go_loopg [3, 4] 1000000001 (fun q mv iv wr => ∃ i : Nat, q + i = 1000000002 ∧ i ≤ xs.length ∧ mv = .int .i16 ((xs.take i).foldl min x0) ∧ iv = .int .i64 i ∧ wr = w)
  case atStart => exact ⟨1, rfl, hne, by rw [← h0.out], rfl, rfl⟩
  case round =>
    obtain ⟨i, hq, hi, rfl, rfl, rfl⟩ := hrel
    by_cases hlt : i < xs.length
    · have hii : (i : Int) < xs.length := by omega
      have hci := hc.out i hlt
      obtain ⟨x, hxv⟩ : ∃ x, x = xs[i]?.getD 0 := ⟨_, rfl⟩
      rw [← hxv] at hci
      have hst : Hid (min ((xs.take i).foldl min x0) x = (xs.take (i + 1)).foldl min x0) := Lib.hid (by
        rw [List.take_succ_eq_append_getElem hlt, List.foldl_append, hxv]; simp [hlt])
      replace hxv := Lib.hid hxv
      go_wp2_with fail
      rw [hst.out]
      go_roundg (gk - 1)
      case measure => omega
      case rel => exact ⟨i + 1, by omega, by omega, rfl, by go_num, rfl⟩
    · have hii : ¬ (i : Int) < xs.length := by omega
      go_wp2_with fail
      go_ret
      exact ⟨ret_int (by rw [hlow.out, List.take_of_length_le (by omega)]), rfl⟩
theorem max_any (p : Option Addr) (c : Nat) (xs : List Int) (w : World) (hx : Arr .i16 w p xs) (hl : xs.length ≤ 1000000000) (hne : 0 < xs.length) :
    Calls Tryz.prog 77 #[.slice p xs.length c] w fun e w' => e = .returned (.int .i16 (highL xs)) ∧ w' = w := by
  obtain ⟨b, o, rfl, hbl, hc⟩ := hx.at hne
  have hc0 := hc 0 hne
  have hn1 : ¬ (xs.length : Int) < 1 := by omega
  obtain ⟨x0, hx0⟩ : ∃ x, x = xs[0]?.getD 0 := ⟨_, rfl⟩
  rw [← hx0, Nat.add_zero] at hc0
  have hhigh : Hid (highL xs = xs.foldl max x0) := Lib.hid (by rw [hx0]; rfl)
  have h0 : Hid (x0 = (xs.take 1).foldl max x0) := Lib.hid (by rw [hx0]; rcases xs with _ | ⟨y, t⟩; simp at hne; simp)
  replace hc := Lib.hid hc
  replace hx0 := Lib.hid hx0
  go_enter Tryz.func77, Tryz.ntmps77
  go_wp2_with fail
  go_loopg [3, 4] 1000000001 (fun q mv iv wr => ∃ i : Nat, q + i = 1000000002 ∧ i ≤ xs.length ∧ mv = .int .i16 ((xs.take i).foldl max x0) ∧ iv = .int .i64 i ∧ wr = w)
  case atStart => exact ⟨1, rfl, hne, by rw [← h0.out], rfl, rfl⟩
  case round =>
    obtain ⟨i, hq, hi, rfl, rfl, rfl⟩ := hrel
    by_cases hlt : i < xs.length
    · have hii : (i : Int) < xs.length := by omega
      have hci := hc.out i hlt
      obtain ⟨x, hxv⟩ : ∃ x, x = xs[i]?.getD 0 := ⟨_, rfl⟩
      rw [← hxv] at hci
      have hst : Hid (max ((xs.take i).foldl max x0) x = (xs.take (i + 1)).foldl max x0) := Lib.hid (by
        rw [List.take_succ_eq_append_getElem hlt, List.foldl_append, hxv]; simp [hlt])
      replace hxv := Lib.hid hxv
      go_wp2_with fail
      rw [hst.out]
      go_roundg (gk - 1)
      case measure => omega
      case rel => exact ⟨i + 1, by omega, by omega, rfl, by go_num, rfl⟩
    · have hii : ¬ (i : Int) < xs.length := by omega
      go_wp2_with fail
      go_ret
      exact ⟨ret_int (by rw [hhigh.out, List.take_of_length_le (by omega)]), rfl⟩
end Go.Proofs.YtddkhnnpeonbgaaGreatDoor
namespace Go.Proofs.YtddkhnnpeonbgaaGreatDoor
open Go.RowKit
attribute [local go_sem] Oper.semAt_some

def ChunkRd (b1 b2 g o n c : Nat) (W : World) : Prop :=
  W.cell? ⟨b1, 0, none⟩ = some (.slice (some ⟨g, o, none⟩) n c) ∧ W.cell? ⟨b2, 0, none⟩ = some (.int .i64 32)
def chunkE (g o n k : Nat) : Array Value := #[.slice (some ⟨g, o + 32 * k, none⟩) (min 32 (n - 32 * k)) (min 32 (n - 32 * k))]

theorem chunk_seq (b1 b2 g o n c : Nat) (_hn : n ≤ 1000000000) (hc : n ≤ c) :
    SeqI Tryz.prog 113 #[.pointer (some ⟨b1, 0, none⟩), .pointer (some ⟨b2, 0, none⟩)] (nBlk n) (chunkE g o n) (ChunkRd b1 b2 g o n c) (fun _ _ => False) (fun _ => False) := by
  intro n0 l J Jx W0 hst hstx hRd hsz hszx h0 hy
  have hJ0 := h0 W0.heap.size W0 (Below.refl _ _) (Nat.le_refl _) rfl
  obtain ⟨hr1, hr2⟩ := hRd _ _ _ hJ0
  refine callsIn_of_wp Tryz.func113 rfl trivial ?_ rfl
  simp only [Tryz.ntmps113, List.size_toArray, List.length_cons, List.length_nil, Nat.reduceAdd, Nat.reduceSub, Array.replicate_succ, Array.replicate_zero, List.push_toArray, List.append_toArray, List.nil_append, List.cons_append]
  gi_wp2
  gi_loopw [4] (fun i wr => ∃ k : Nat, k ≤ nBlk n ∧ i = .int .i64 (32 * (k : Int)) ∧ J W0.heap.size k wr) (fun i wr => ((n : Int) + 32 - intOf i).toNat)
  case atStart => exact ⟨0, by omega, by simp, hJ0⟩
  case round =>
    clear hr1 hr2
    obtain ⟨k, hk, rfl, hJ⟩ := hrel
    obtain ⟨hr1, hr2⟩ := hRd _ _ _ hJ
    have hnb : nBlk n = (n + 31) / 32 := rfl
    by_cases hlt : k < nBlk n
    · have hi1 : 32 * (k : Int) < n := by omega
      replace hnb := Lib.hid hnb
      gi_wp2
      gi_region
      obtain ⟨e, he⟩ : ∃ e, e = min 32 (n - 32 * k) := ⟨_, rfl⟩
      rw [show min (32 : Int) ((n - 32 * k : Nat) : Int) = (e : Int) by omega]
      have hJ1 : J W0.heap.size k wr.drew := hst _ _ _ _ (Nat.le_refl _) hJ (Alt.drewN 1)
      have hr1 : wr.drew.cell? ⟨b1, 0, none⟩ = some (.slice (some ⟨g, o, none⟩) n c) := hr1
      have hr2 : wr.drew.cell? ⟨b2, 0, none⟩ = some (.int .i64 32) := hr2
      have hce : chunkE g o n k = #[.slice (some ⟨g, o + 32 * k, none⟩) e e] := by unfold chunkE; rw [← he]
      obtain ⟨fn, tmps, assign, body, hy1, hR⟩ := hy W0.heap.size k wr.drew (Nat.le_refl _) hlt hJ1 (fun q h1 h2 => by omega)
      rw [hce] at hy1
      have he1 : 1 ≤ e := by omega
      have he2 : 32 * k + e ≤ n := by omega
      replace he := Lib.hid he
      clear hJ hce
      generalize wr.drew = wd at *
      have hs1 : 32 * (k : Int) + e ≤ c := by omega
      have hs2 : 32 * (k : Int) ≤ 32 * (k : Int) + e := by omega
      have hs3 : (0 : Int) ≤ 32 * (k : Int) := by omega
      gi_wp2
      refine ⟨fun h => by simp [Fence.wide] at h, (roundIn_any hR).mono ?_⟩
      rintro e' W' (⟨rfl, hJ', _⟩ | ⟨rfl, hJx⟩)
      · have hr2' := (hRd _ _ _ hJ').2
        gi_wp2
        go_roundw
        case rel => exact ⟨k + 1, by omega, by go_num, hJ'⟩
        case measure => simp [intOf]; omega
      · gi_wp2
        refine bodyPost_ret (results_none rfl _ _ _) rfl ?_
        exact ⟨W0.heap.size, Nat.le_refl _, .inl ⟨⟨_, rfl⟩, .inr ⟨k, hlt, hJx⟩⟩⟩
    · obtain rfl : k = nBlk n := by omega
      have hi1 : ¬ 32 * ((nBlk n : Nat) : Int) < n := by omega
      replace hnb := Lib.hid hnb
      gi_wp2
      go_end0
      first | exact ⟨W0.heap.size, Nat.le_refl _, .inl ⟨⟨_, rfl⟩, .inl hJ⟩⟩ | exact ⟨W0.heap.size, Nat.le_refl _, ⟨_, rfl⟩, .inl hJ⟩

theorem chunk_any (g o n c : Nat) (w : World) : Calls Tryz.prog 74 #[.slice (some ⟨g, o, none⟩) n c, .int .i64 32] w fun e w' =>
    e = .returned (.func (.func 113) #[] #[.pointer (some ⟨w.heap.size, 0, none⟩), .pointer (some ⟨w.heap.size + 1, 0, none⟩)]) ∧ Below w.heap.size w w' ∧
    HasO w' w.heap.size (.cells #[.slice (some ⟨g, o, none⟩) n c] 42 (0, 0)) ∧ HasO w' (w.heap.size + 1) (.cells #[.int .i64 32] 3 (0, 0)) := by
  have hA : HasO (w.alloc (.cells #[.slice (some ⟨g, o, none⟩) n c] 42)) w.heap.size (.cells #[.slice (some ⟨g, o, none⟩) n c] 42 (0, 0)) := HasO.new _ _
  have hB : HasO ((w.alloc (.cells #[.slice (some ⟨g, o, none⟩) n c] 42)).alloc (.cells #[.int .i64 32] 3)) (w.heap.size + 1) (.cells #[.int .i64 32] 3 (0, 0)) := HasO.new' _ _ (by simp)
  have hA1 := hA.alloc (.cells #[.int .i64 32] 3)
  have hb := (below_box w (.cells #[.slice (some ⟨g, o, none⟩) n c] 42)).alloc (by simp) (.cells #[.int .i64 32] 3)
  have c0 := hB.cells 0
  have hlt := hB.lt
  go_enter Tryz.func74, Tryz.ntmps74
  go_wp2_with fail
  go_ret
  exact ⟨rfl, hb, hA1, hB⟩
theorem wid_half {n : Int} (h0 : 0 < n) (h : n < 32768) : wid n = 1 + wid (n / 2) := by
  have h1 := wid_eq n
  have h2 := wid_eq (n / 2)
  omega
theorem wid_bitLen : ∀ n : Nat, n < 32768 → wid n = Lib.bitLen n := by
  intro n
  induction n using Nat.strongRecOn with
  | _ n ih =>
    intro h
    by_cases h0 : n = 0
    · subst h0; rfl
    · rw [wid_half (by omega) (by omega), Lib.bitLen_half n h0 (by omega), show ((n : Int) / 2) = ((n / 2 : Nat) : Int) by omega, ih (n / 2) (by omega) (by omega)]
theorem len16_any (x : Int) (h0 : 0 ≤ x) (h1 : x < 32768) (w : World) : Calls Tryz.prog 76 #[.int .u16 x] w fun e w' => e = .returned (.int .i64 (wid x : Nat)) ∧ w' = w := by
  refine (Tryz.bits_Len16 x w h0 (by omega)).mono ?_
  rintro e w' ⟨rfl, rfl⟩
  refine ⟨?_, rfl⟩
  have := wid_bitLen x.toNat (by omega)
  rw [show ((x.toNat : Nat) : Int) = x by omega] at this
  rw [this]
end Go.Proofs.YtddkhnnpeonbgaaGreatDoor
