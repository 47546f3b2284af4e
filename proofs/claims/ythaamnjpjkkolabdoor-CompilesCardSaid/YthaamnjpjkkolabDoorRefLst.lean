import Derived.Test.YthaamnjpjkkolabDoorRefSp
/- The reference's Least. -/
namespace Go.Proofs.YthaamnjpjkkolabDoor
open Go.RowKit Go.Proofs Lin
set_option maxRecDepth 100000
set_option linter.unusedVariables false

theorem and_low (x N : Nat) (hx : x < 2 ^ 64) (hN : N ≤ 16) : bits BinOp.and IntKind.u64 (x : Int) (IntKind.u64.wrap (IntKind.u64.wrap ((2 : Int) ^ N) - 1)) = ((x % 2 ^ N : Nat) : Int) := by
  have hp : 2 ^ N ≤ 2 ^ 16 := Nat.pow_le_pow_right (by omega) hN
  have hp0 : 0 < 2 ^ N := Nat.pow_pos (by omega)
  have e0 : (2 : Int) ^ N = ((2 ^ N : Nat) : Int) := by simp
  have e1 : IntKind.u64.wrap ((2 : Int) ^ N) = ((2 ^ N : Nat) : Int) := by rw [e0]; exact wraps_u64 _ (Int.natCast_nonneg _) (by omega)
  have e2 : ((2 ^ N : Nat) : Int) - 1 = ((2 ^ N - 1 : Nat) : Int) := by omega
  rw [e1, e2, wraps_u64 _ (Int.natCast_nonneg _) (by omega), u64_and_nat x _ hx (by omega), Nat.and_two_pow_sub_one_eq_mod]

set_option maxHeartbeats 2000000 in
theorem refLeast_any (D L G x n r : Nat) (hR : Right D L G) (hx : x < 2 ^ 64) (hn : n ≤ 16) (hr : r < 2 ^ (D + L + G)) (hra : r &&& (x % 2 ^ (D + L + G)) = 0) (hrc : (sel (D + L + G) r.testBit).length = n) (hrs : spB D L (D + L + G) (x % 2 ^ (D + L + G)) r = true)
    (hno : ∀ s, s < 2 ^ (D + L + G) → s &&& (x % 2 ^ (D + L + G)) = 0 → (sel (D + L + G) s.testBit).length < n → spB D L (D + L + G) (x % 2 ^ (D + L + G)) s = false) (w : World) :
    Calls Tryd.prog 28 #[PV D L G, U x, I n] w fun e w' => e = .returned (I n) ∧ Below w.heap.size w w' := by
  have h7 := hR.sum
  have hD12 := hR.d2
  have hd1 := hR.d1
  have HR := Lib.hid hR
  clear hR
  have HB0 := Lib.hid ((Below.refl w.heap.size w).alloc (Nat.le_refl _) (.cells #[I D, I L, I G] 25))
  have HA := Lib.hid (and_low x (D + L + G) hx h7)
  obtain ⟨N, hN⟩ : ∃ N, N = D + L + G := ⟨_, rfl⟩
  rw [← hN] at h7 hr hra hrc hrs hno HA
  have hN1 : 1 ≤ N := by omega
  have HN := Lib.hid hN
  clear hN
  have hp : 2 ^ N ≤ 2 ^ 16 := Nat.pow_le_pow_right (by omega) h7
  have HW := Lib.hid (show IntKind.u64.wrap ((2 : Int) ^ N) = ((2 ^ N : Nat) : Int) by
    rw [show (2 : Int) ^ N = ((2 ^ N : Nat) : Int) by simp]; exact wraps_u64 _ (Int.natCast_nonneg _) (by omega))
  have hy : x % 2 ^ N < 2 ^ N := Nat.mod_lt _ (Nat.pow_pos (by omega))
  generalize x % 2 ^ N = y at *
  obtain ⟨E, hE⟩ : ∃ E, E = 2 ^ N := ⟨_, rfl⟩
  rw [← hE] at hr hno hp hy HW
  have HEq := Lib.hid hE
  clear hE
  have HRA := Lib.hid hra
  have HRC := Lib.hid hrc
  have HRS := Lib.hid hrs
  have HNO := Lib.hid hno
  clear hra hrc hrs hno
  go_enter Tryd.func28, Tryd.ntmps28
  go_wp2_with fail
  refine (refMatrix_ok D L G HR.out _).mono ?_
  rintro e w1 ⟨v, β, rfl, hg⟩
  rw [← HN.out] at hg
  have HG := Lib.hid hg
  have HSh := Lib.hid hg.vc.shape
  obtain ⟨va, vb, vc, rfl, hva, hvr, _, _, _⟩ := hg.vc.shape
  have HB1 := Lib.hid (HB0.out.trans (hg.below.mono (by simp)))
  clear hg hva hvr HSh
  go_wp2_with fail
  rw [HA.out]
  have hsz1 := HB1.out.size
  go_loopg [10] (n + 1) (fun g v wr => ∃ k : Nat, g = n + 1 - k ∧ k ≤ n ∧ v = I k ∧ Below w1.heap.size w1 wr)
  case atStart => exact ⟨0, by omega, by omega, rfl, Below.refl _ _⟩
  case round =>
    obtain ⟨k, rfl, hk, rfl, hb⟩ := hrel
    have HB := Lib.hid hb
    clear hb
    obtain ⟨wo, rfl⟩ : ∃ wo, wo = wr := ⟨_, rfl⟩
    go_wp2_with fail
    go_loopg [11] E (fun g v wr => ∃ s : Nat, g = E - s ∧ s ≤ E ∧ v = U s ∧ Below w1.heap.size w1 wr ∧ (k = n → s ≤ r))
    case atStart => exact ⟨0, by omega, by omega, rfl, HB.out, fun _ => by omega⟩
    case round =>
      obtain ⟨s, rfl, hs, rfl, hb, hkr⟩ := hrel
      have HBi := Lib.hid hb
      have HKR := Lib.hid hkr
      clear hb hkr HB
      by_cases hlt : s < E
      · have hdec : decide ((s : Int) < IntKind.u64.wrap ((2 : Int) ^ N)) = true := by rw [HW.out]; simp; omega
        have HC := Lib.hid (refCount_any s N (by rw [← HEq.out]; exact hlt) (by omega))
        have HSC := Lib.hid (show s = r → (sel N s.testBit).length = n from fun e => e ▸ HRC.out)
        have HSS := Lib.hid (show s = r → spB D L N y s = true from fun e => e ▸ HRS.out)
        have HSN := Lib.hid (show s &&& y = 0 → (sel N s.testBit).length < n → spB D L N y s = false from HNO.out s hlt)
        have HSA := Lib.hid (show s = r → s &&& y = 0 from fun e => e ▸ HRA.out)
        have HAnd := Lib.hid (u64_and_nat s y (by omega) (by omega))
        have HSP := Lib.hid (fun W (hb : Below w1.heap.size w1 W) => refSpans_any _ W D L N y s _ β (HG.out.later hb) hD12 h7 hN1 (by omega) (by omega))
        have hc16 : (sel N s.testBit).length ≤ 16 := Nat.le_trans (sel_len _ _) h7
        generalize (sel N s.testBit).length = c at *
        by_cases hc : c = k
        case neg =>
          have HX := Lib.hid (show k = n → s + 1 ≤ r from fun e => by
            have h1 := HKR.out e
            by_cases e2 : s = r
            · have := HSC.out e2; omega
            · omega)
          have t1 : ((c : Int) != (k : Int)) = true := by simp; omega
          go_wp2_with (go_at_call 42; refine (HC.out _).mono ?_; rintro e w2 ⟨rfl, rfl⟩)
          go_roundg (E - (s + 1))
          case measure => omega
          case rel => exact ⟨s + 1, rfl, by omega, by go_num, HBi.out, HX.out⟩
        case pos =>
          obtain rfl := hc
          have t1 : ((c : Int) != (c : Int)) = false := by simp
          by_cases ha : s &&& y = 0
          case neg =>
            have HX := Lib.hid (show c = n → s + 1 ≤ r from fun e => by
              have h1 := HKR.out e
              by_cases e2 : s = r
              · exact absurd (HSA.out e2) ha
              · omega)
            have t2 : (bits BinOp.and IntKind.u64 (s : Int) (y : Int) != 0) = true := by rw [HAnd.out]; simp; exact ha
            go_wp2_with (go_at_call 42; refine (HC.out _).mono ?_; rintro e w2 ⟨rfl, rfl⟩)
            go_roundg (E - (s + 1))
            case measure => omega
            case rel => exact ⟨s + 1, rfl, by omega, by go_num, HBi.out, HX.out⟩
          case pos =>
            have t2 : (bits BinOp.and IntKind.u64 (s : Int) (y : Int) != 0) = false := by rw [HAnd.out, ha]; rfl
            have HSN2 := Lib.hid (HSN.out ha)
            have hsz := HBi.out.size
            obtain ⟨sb, hsb⟩ : ∃ sb, sb = spB D L N y s := ⟨_, rfl⟩
            rw [← hsb] at HSS HSN2 HSP
            clear hsb HSN
            cases sb with
            | true =>
              have he : ¬ c < n := fun h => by have := HSN2.out h; cases this
              obtain rfl : c = n := by omega
              go_wp2_with (first | (go_at_call 42; refine (HC.out _).mono ?_; rintro e w2 ⟨rfl, rfl⟩) | (go_at_call 43; refine (HSP.out _ HBi.out).mono ?_; rintro e w2 ⟨rfl, hb⟩; have HB2 := Lib.hid (HBi.out.trans (hb.mono hsz)); clear hb))
              go_ret
              exact ⟨rfl, HB1.out.trans (HB2.out.mono hsz1)⟩
            | false =>
              have HX := Lib.hid (show c = n → s + 1 ≤ r from fun e => by
                have h1 := HKR.out e
                by_cases e2 : s = r
                · have := HSS.out e2; cases this
                · omega)
              go_wp2_with (first | (go_at_call 42; refine (HC.out _).mono ?_; rintro e w2 ⟨rfl, rfl⟩) | (go_at_call 43; refine (HSP.out _ HBi.out).mono ?_; rintro e w2 ⟨rfl, hb⟩; have HB2 := Lib.hid (HBi.out.trans (hb.mono hsz)); clear hb))
              go_roundg (E - (s + 1))
              case measure => omega
              case rel => exact ⟨s + 1, rfl, by omega, by go_num, HB2.out, HX.out⟩
      · have hkn : k < n := by
          by_cases e : k = n
          · have := HKR.out e; omega
          · omega
        obtain rfl : E = s := by omega
        have hdec : decide ((E : Int) < IntKind.u64.wrap ((2 : Int) ^ N)) = false := by rw [HW.out]; simp
        go_wp2_with fail
        go_roundg (n + 1 - (k + 1))
        case measure => omega
        case rel => exact ⟨k + 1, rfl, by omega, by go_num, HBi.out⟩
end Go.Proofs.YthaamnjpjkkolabDoor
