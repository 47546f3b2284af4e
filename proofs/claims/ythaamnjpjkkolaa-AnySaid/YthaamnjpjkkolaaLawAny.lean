import Derived.Test.YthaamnjpjkkolaaOpenP
import Derived.Test.YthaamnjpjkkolaaAnyP
import Derived.StillTailTactics
import Derived.Deep.RegionWith
/- The law Any: its walk. -/
namespace Go.Proofs.Ythaamnjpjkkolaa
open Go.RowKit Go.Proofs Lin
set_option maxRecDepth 100000
set_option linter.unusedVariables false

theorem mask_one {D L G : Nat} (h7 : D + L + G ≤ 16) : IntKind.u64.wrap (IntKind.u64.wrap ((2 : Int) ^ (D + L + G)) - 1) = ((2 ^ (D + L + G) - 1 : Nat) : Int) := by
  have hp : 2 ^ (D + L + G) ≤ 2 ^ 16 := Nat.pow_le_pow_right (by omega) h7
  have hp0 : 0 < 2 ^ (D + L + G) := Nat.pow_pos (by omega)
  have e0 : (2 : Int) ^ (D + L + G) = ((2 ^ (D + L + G) : Nat) : Int) := by simp
  have e1 : IntKind.u64.wrap ((2 : Int) ^ (D + L + G)) = ((2 ^ (D + L + G) : Nat) : Int) := by rw [e0]; exact wraps_u64 _ (Int.natCast_nonneg _) (by omega)
  rw [e1, ← Int.ofNat_one, ← Int.ofNat_sub (by omega)]
  exact wraps_u64 _ (Int.natCast_nonneg _) (by omega)

open Classical in
set_option maxHeartbeats 400000 in
theorem any_bad (D L G : Int) (x y : Nat) (hR : ¬ RightI D L G) (w : World) :
    Calls Try.prog 8 #[PV D L G, U x, U y] w (LawTrue w) := by
  have HN := Lib.hid (show decide (RightI D L G) = false from decide_eq_false hR)
  have H1 := Lib.hid (fun w => sDec_bad D L G x hR w)
  clear hR
  have HB0 := Lib.hid ((Below.refl w.heap.size w).alloc (Nat.le_refl _) (.cells #[I D, I L, I G] 35))
  go_enter Try.func8, Try.ntmps8
  go_wp2_with (first | (go_at_call 20; refine (theirs_any D L G _).mono ?_; rintro e w1 ⟨rfl, hb⟩; have HB1 := Lib.hid (HB0.out.trans (hb.mono (by simp))); have hp := (pcI_new w D L G 35).later hb; have a0 : w1.cell? ⟨w.heap.size, 0, none⟩ = some (I D) := hp 0 (by omega); have a1 : w1.cell? ⟨w.heap.size, 1, none⟩ = some (I L) := hp 1 (by omega); have a2 : w1.cell? ⟨w.heap.size, 2, none⟩ = some (I G) := hp 2 (by omega); have hs2 : w.heap.size < w1.heap.size := (by have := hb.size; rw [Deep.nblk_alloc] at this; omega); clear hb hp) | (go_at_call 23; refine (right_any D L G _).mono ?_; rintro e w2 ⟨rfl, hb⟩; rw [HN.out]; have HB2 := Lib.hid (HB1.out.trans (((Below.refl w1.heap.size w1).alloc (Nat.le_refl _) (.cells #[I D, I L, I G] 37)).trans (hb.mono (by simp)) |>.mono HB1.out.size)); have b0 : w2.cell? ⟨w.heap.size, 0, none⟩ = some (I D) := (hb.cell (p := ⟨w.heap.size, 0, none⟩) (by simp; omega)).trans (cell_alloc a0 _); have b1 : w2.cell? ⟨w.heap.size, 1, none⟩ = some (I L) := (hb.cell (p := ⟨w.heap.size, 1, none⟩) (by simp; omega)).trans (cell_alloc a1 _); have b2 : w2.cell? ⟨w.heap.size, 2, none⟩ = some (I G) := (hb.cell (p := ⟨w.heap.size, 2, none⟩) (by simp; omega)).trans (cell_alloc a2 _); clear hb) | (go_at_call 21; refine (H1.out _).mono ?_; rintro e w3 ⟨rfl, hb⟩; have HB3 := Lib.hid (HB2.out.trans (hb.mono HB2.out.size)); clear hb))
  go_ret
  exact ⟨rfl, HB3.out⟩
theorem mod_bit {N x i : Nat} (hi : i < N) : (x % 2 ^ N).testBit i = x.testBit i := by rw [Nat.testBit_mod_two_pow]; simp [hi]

open Classical in
set_option maxHeartbeats 4000000 in
theorem any_ok (D L G : Nat) (x y : Nat) (hR : Right D L G) (hx : x < 2 ^ 64) (hy : y < 2 ^ 64) (w : World) :
    Calls Try.prog 8 #[PV D L G, U x, U y] w (LawTrue w) := by
  have h1 := hR.d1; have h2 := hR.d2; have h3 := hR.l1; have h4 := hR.l2; have h5 := hR.g2; have h7 := hR.sum
  have HY := Lib.hid (show decide (RightI D L G) = true from decide_eq_true ⟨D, L, G, rfl, rfl, rfl, hR⟩)
  have hp : 2 ^ (D + L + G) ≤ 2 ^ 16 := Nat.pow_le_pow_right (by omega) h7
  have hp0 : 0 < 2 ^ (D + L + G) := Nat.pow_pos (by omega)
  have hall := mask_one h7
  have hx1 : x % 2 ^ (D + L + G) < 2 ^ 64 := Nat.lt_of_lt_of_le (Nat.mod_lt _ hp0) (by omega)
  have hmask : bits BinOp.and IntKind.u64 (x : Int) ((2 ^ (D + L + G) - 1 : Nat) : Int) = ((x % 2 ^ (D + L + G) : Nat) : Int) := by rw [u64_and_nat _ _ hx (by omega), Nat.and_two_pow_sub_one_eq_mod]
  have hand := u64_and_nat (x % 2 ^ (D + L + G)) y hx1 hy
  have hz1 : x % 2 ^ (D + L + G) &&& y < 2 ^ 64 := Nat.and_lt_two_pow _ hy
  have hm1 : 2 ^ (D + L + G) - 1 < 2 ^ 64 := by omega
  -- the three answers
  have hS : (sel (D + L + G) (x % 2 ^ (D + L + G)).testBit).length ≤ G → decB D L G (x % 2 ^ (D + L + G)) = true := fun h => decB_small h1 h2 h7 h
  have hL : decB D L G (x % 2 ^ (D + L + G)) = true → decB D L G (x % 2 ^ (D + L + G) &&& y) = true := decB_less h1 h2 h7 fun i _ hb => by rw [Nat.testBit_and, Bool.and_eq_true] at hb; exact hb.1
  have hA : decB D L G (2 ^ (D + L + G) - 1) = false := decB_none h1 fun i hi => by rw [Nat.testBit_two_pow_sub_one]; simp [hi]
  have HC1 := Lib.hid (fun w => sDec_ok D L G (x % 2 ^ (D + L + G)) hR hx1 w)
  have HC2 := Lib.hid (fun w => sDec_ok D L G (x % 2 ^ (D + L + G) &&& y) hR hz1 w)
  have HC3 := Lib.hid (fun w => sDec_ok D L G (2 ^ (D + L + G) - 1) hR hm1 w)
  have HBit := Lib.hid (fun i => has_spell (x % 2 ^ (D + L + G)) i hx1)
  generalize decB D L G (x % 2 ^ (D + L + G)) = bx at *
  generalize decB D L G (x % 2 ^ (D + L + G) &&& y) = bz at *
  rw [hA] at HC3
  generalize x % 2 ^ (D + L + G) &&& y = z at *
  generalize x % 2 ^ (D + L + G) = x' at *
  generalize 2 ^ (D + L + G) - 1 = m at *
  have HS := Lib.hid hS
  have HLs := Lib.hid hL
  clear hS hL hA hR hp hp0
  have HNN := Lib.hid (show (D : Int) + (L : Int) + (G : Int) = ((D + L + G : Nat) : Int) by simp)
  have HB0 := Lib.hid ((Below.refl w.heap.size w).alloc (Nat.le_refl _) (.cells #[I D, I L, I G] 35))
  go_enter Try.func8, Try.ntmps8
  go_wp2_with (first | (go_at_call 20; refine (theirs_any D L G _).mono ?_; rintro e w1 ⟨rfl, hb⟩; have HB1 := Lib.hid (HB0.out.trans (hb.mono (by simp))); have hp := (pcI_new w D L G 35).later hb; have HA1 := Lib.hid hp; have hs2 : w.heap.size < w1.heap.size := (by have := hb.size; rw [Deep.nblk_alloc] at this; omega); have HP1 := Lib.hid (pcI_new w1 D L G 37); clear hb hp) | (go_at_call 23; refine (right_any D L G _).mono ?_; rintro e w2 ⟨rfl, hb⟩; rw [HY.out]; have HB2 := Lib.hid (HB1.out.trans (((Below.refl w1.heap.size w1).alloc (Nat.le_refl _) (.cells #[I D, I L, I G] 37)).trans (hb.mono (by simp)) |>.mono HB1.out.size)); have HA2 := Lib.hid ((HA1.out.alloc (.cells #[I D, I L, I G] 37)).later hb); have hp := HP1.out.later hb; have b0 : w2.cell? ⟨w1.heap.size, 0, none⟩ = some (I D) := hp 0 (by omega); have b1 : w2.cell? ⟨w1.heap.size, 1, none⟩ = some (I L) := hp 1 (by omega); have b2 : w2.cell? ⟨w1.heap.size, 2, none⟩ = some (I G) := hp 2 (by omega); clear hb hp) | (go_at_call 24; refine (refShards_any D L G (by omega) _).mono ?_; rintro e w3 ⟨rfl, hb⟩; rw [HNN.out]; have HB3 := Lib.hid (HB2.out.trans (hb.mono HB2.out.size)); have hp := HA2.out.later hb; have a0 : w3.cell? ⟨w.heap.size, 0, none⟩ = some (I D) := hp 0 (by omega); have a1 : w3.cell? ⟨w.heap.size, 1, none⟩ = some (I L) := hp 1 (by omega); have a2 : w3.cell? ⟨w.heap.size, 2, none⟩ = some (I G) := hp 2 (by omega); have HA3 := Lib.hid hp; clear hb hp))
  generalize hN : D + L + G = N at *
  go_loopg [11, 12] N (fun g c i wr => ∃ k : Nat, g = N - k ∧ k ≤ N ∧ i = I k ∧ c = I ((sel k x'.testBit).length : Nat) ∧ w3 = wr)
  case atStart => exact ⟨0, rfl, by omega, rfl, rfl, rfl⟩
  case round =>
    obtain ⟨k, rfl, hk, rfl, rfl, rfl⟩ := hrel
    have hlen : (sel k x'.testBit).length ≤ k := sel_len _ _
    by_cases hlt : k < N
    · have hs := sel_succ k x'.testBit
      have hbit := HBit.out k
      by_cases hb : x'.testBit k = true
      · rw [hb] at hbit
        have HSl := Lib.hid (show (sel (k + 1) x'.testBit).length = (sel k x'.testBit).length + 1 by rw [hs, if_pos hb]; simp)
        clear hs
        generalize (sel k x'.testBit).length = c at *
        go_wp2_with fail
        go_roundg (N - (k + 1))
        case measure => omega
        case rel => exact ⟨k + 1, rfl, by omega, by go_num, by rw [HSl.out]; go_num, rfl⟩
      · have hb' : x'.testBit k = false := by simpa using hb
        rw [hb'] at hbit
        have HSl := Lib.hid (show (sel (k + 1) x'.testBit).length = (sel k x'.testBit).length by rw [hs, if_neg hb])
        clear hs
        generalize (sel k x'.testBit).length = c at *
        go_wp2_with fail
        go_roundg (N - (k + 1))
        case measure => omega
        case rel => exact ⟨k + 1, rfl, by omega, by go_num, by rw [HSl.out], rfl⟩
    · obtain rfl : N = k := by omega
      generalize (sel N x'.testBit).length = c at *
      go_upto_region 15 with (go_at_call 21; refine (HC1.out _).mono ?_; rintro e w4 ⟨rfl, hb⟩; have HB4 := Lib.hid (HB3.out.trans (hb.mono HB3.out.size)); have hp := HA3.out.later hb; have d0 : w4.cell? ⟨w.heap.size, 0, none⟩ = some (I D) := hp 0 (by omega); have d1 : w4.cell? ⟨w.heap.size, 1, none⟩ = some (I L) := hp 1 (by omega); have d2 : w4.cell? ⟨w.heap.size, 2, none⟩ = some (I G) := hp 2 (by omega); have HA4 := Lib.hid hp; clear hb hp)
      go_upto_region 16 with (go_at_call 21; refine (HC2.out _).mono ?_; rintro e w5 ⟨rfl, hb⟩; have HB5 := Lib.hid (HB4.out.trans (hb.mono HB4.out.size)); have hp := HA4.out.later hb; have e0 : w5.cell? ⟨w.heap.size, 0, none⟩ = some (I D) := hp 0 (by omega); have e1 : w5.cell? ⟨w.heap.size, 1, none⟩ = some (I L) := hp 1 (by omega); have e2 : w5.cell? ⟨w.heap.size, 2, none⟩ = some (I G) := hp 2 (by omega); have HA5 := Lib.hid hp; clear hb hp)
      have HSS := HS.out; have HLL := HLs.out
      clear HBit HS HLs HC1 HC2 HA3 HA4 HB1 HB2 HB3 HB4 HP1 HA1 HA2 HY HNN hand hmask
      go_region_with (go_at_call 21; rw [show ((D : Int) + (L : Int) + (G : Int)).toNat = N by omega, hall]; refine (HC3.out _).mono ?_; rintro e w6 ⟨rfl, hb⟩; have HB6 := Lib.hid ((HB5.out.trans (show Below w.heap.size w5 w5.drew from ⟨rfl, rfl, rfl, Nat.le_refl _, fun _ _ => rfl⟩)).trans (hb.mono HB5.out.size)); have hp := (HA5.out.drewN 1).later hb; have g2 : w6.cell? ⟨w.heap.size, 2, none⟩ = some (I G) := hp 2 (by omega); clear hb hp)
      all_goals
        have HB7 := Lib.hid HB6.out
        clear HB5 HB6 HA5 HC3 hall hN a0 a1 a2 b0 b1 b2 d0 d1 d2 e0 e1 e2
        by_cases hcG : c ≤ G
        · have hbx := HSS hcG
          have hbz := HLL hbx
          clear HSS HLL
          subst hbx; subst hbz
          go_wp2_with fail
          go_ret
          exact ⟨by simp, HB7.out⟩
        · clear HSS
          cases bx with
          | true =>
            have hbz := HLL rfl
            clear HLL
            subst hbz
            go_wp2_with fail
            go_ret
            exact ⟨by simp, HB7.out⟩
          | false =>
            clear HLL
            go_wp2_with fail
            go_ret
            exact ⟨by simp; omega, HB7.out⟩

theorem any_walk (D L G : Int) (x y : Nat) (hx : x < 2 ^ 64) (hy : y < 2 ^ 64) (w : World) :
    Calls Try.prog 8 #[PV D L G, U x, U y] w (LawTrue w) := by
  by_cases h : RightI D L G
  · obtain ⟨d, l, g, rfl, rfl, rfl, hR⟩ := h
    exact any_ok d l g x y hR hx hy w
  · exact any_bad D L G x y h w
end Go.Proofs.Ythaamnjpjkkolaa
