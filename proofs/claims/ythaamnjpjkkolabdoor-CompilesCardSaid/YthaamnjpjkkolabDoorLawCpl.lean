import Derived.Test.YthaamnjpjkkolabDoorCplP
import Derived.Test.YthaamnjpjkkolabDoorCplD
import Derived.Test.YthaamnjpjkkolabDoorLawLst
import Derived.Test.YthaamnjpjkkolabDoorRefEnc
import Derived.Test.YthaamnjpjkkolabDoorSameP
import Derived.Test.YthaamnjpjkkolabDoorElsA
import Derived.Test.YthaamnjpjkkolabDoorRefRun
import Derived.Deep.DeepCutAuto
/- The law Compiles: its walk. -/
namespace Go.Proofs.YthaamnjpjkkolabDoor
open Go.RowKit Go.Proofs Lin Go.Shelf
set_option maxRecDepth 100000
set_option linter.unusedVariables false

set_option maxHeartbeats 400000 in
theorem compiles_no (D L G : Int) (x : Nat) (v : Value) (w : World) (hl : Laid w) (hT : Tab w) (hN : ∀ w, Laid w → Tab w → Calls Tryd.prog 24 #[PV D L G, U x] w (CompdNo w)) :
    Calls Tryd.prog 6 #[PV D L G, U x, v] w (LawTrue w) := by
  have HN := Lib.hid hN
  have HL := Lib.hid hl
  have HT := Lib.hid hT
  clear hN hl hT
  have HB := Lib.hid ((Below.refl w.heap.size w).alloc (Nat.le_refl _) (.cells #[I D, I L, I G] 23))
  go_enter Tryd.func6, Tryd.ntmps6
  go_wp2_with fail
  refine (HN.out _ (HL.out.later HB.out) (tab_later HT.out HB.out)).mono ?_
  rintro e w1 ⟨rfl, hb⟩
  have HB1 := Lib.hid ((HB.out.trans (hb.mono HB.out.size)).alloc (Nat.le_trans HB.out.size hb.size) (.cells #[I 0, .slice none 0 0] 39))
  clear hb HB
  go_wp2_with fail
  go_ret
  exact ⟨rfl, HB1.out⟩

set_option maxHeartbeats 80000000 in
theorem compiles_yes (D L G x : Nat) (a : Option Addr) (bD oD m c : Nat) (T : Nat → Sl) (hR : Right D L G) (hx : x < 2 ^ 64) (hd : decB D L G x = true) (w : World) (hl : Laid w) (hT : Tab w) (hdat : Rws w a bD oD m c T) :
    Calls Tryd.prog 6 #[PV D L G, U x, .slice a m c] w (LawTrue w) := by
  have h7 := hR.sum; have hd1 := hR.d1; have hd2 := hR.d2
  have HN := Lib.hid (fun w hl hT => compiled_yes D L G x hR hx hd w hl hT)
  have HSC := Lib.hid (fun w hT => sCompile_ok D L G x hR hx w hT)
  have HDm := Lib.hid ((decB_mod D L G x).trans hd)
  have HR := Lib.hid hR
  have HL := Lib.hid hl
  have HT := Lib.hid hT
  have HDt := Lib.hid hdat
  have hm63 : m ≤ 140737488355328 := Nat.le_trans hdat.cap hdat.max
  have hmc := hdat.cap
  clear hR hl hT hd hdat
  have HB := Lib.hid ((Below.refl w.heap.size w).alloc (Nat.le_refl _) (.cells #[I D, I L, I G] 23))
  have HA := Lib.hid (pcI_new w D L G 23)
  go_enter Tryd.func6, Tryd.ntmps6
  go_wp2_with fail
  refine (HN.out _ (HL.out.later HB.out) (tab_later HT.out HB.out)).mono ?_
  rintro e w1 ⟨⟨v, rfl, hv⟩, hb⟩
  obtain ⟨va, vb, vc, rfl, hst, _, _⟩ := hv.shape
  obtain ⟨P, hP⟩ : ∃ P, P = progL D L (D + L + G) (x % 2 ^ (D + L + G)) := ⟨_, rfl⟩
  obtain ⟨rg, hrg⟩ : ∃ rg, rg = regsN D L (D + L + G) (x % 2 ^ (D + L + G)) := ⟨_, rfl⟩
  rw [← hP] at hst
  rw [← hP, ← hrg]
  have HPP := Lib.hid hP
  have HRG := Lib.hid hrg
  have HBx := Lib.hid (show Below w1.heap.size w1 (w1.alloc (.cells #[I (rg : Nat), .slice va P.length vc] 39)) from (Below.refl _ _).alloc (Nat.le_refl _) _)
  have HB1 := Lib.hid ((HB.out.trans (hb.mono HB.out.size)).trans (HBx.out.mono (Nat.le_trans HB.out.size hb.size)))
  have HA1 := Lib.hid ((HA.out.later hb).later HBx.out)
  have HS1 := Lib.hid (hst.later HBx.out)
  have HG1 := Lib.hid (Pair.new w1 39 (I (rg : Nat)) (.slice va P.length vc))
  have hszw := hb.size
  rw [World.size_alloc] at hszw
  clear hb HB hv hst HA HN hP hrg
  have c0 : (w1.alloc (.cells #[I (rg : Nat), .slice va P.length vc] 39)).cell? ⟨w.heap.size, 0, none⟩ = some (I D) := HA1.out 0 (by omega)
  have c1 : (w1.alloc (.cells #[I (rg : Nat), .slice va P.length vc] 39)).cell? ⟨w.heap.size, 1, none⟩ = some (I L) := HA1.out 1 (by omega)
  have c2 : (w1.alloc (.cells #[I (rg : Nat), .slice va P.length vc] 39)).cell? ⟨w.heap.size, 2, none⟩ = some (I G) := HA1.out 2 (by omega)
  go_wp2_with fail
  refine (theirs_any D L G _).mono ?_
  rintro e w2 ⟨rfl, hb⟩
  have HBy := Lib.hid (show Below _ (w1.alloc (.cells #[I (rg : Nat), .slice va P.length vc] 39)) (w2.alloc (.cells #[I D, I L, I G] 25)) from hb.alloc hb.size _)
  have HB2 := Lib.hid (HB1.out.trans (HBy.out.mono HB1.out.size))
  have HA2 := Lib.hid (HA1.out.later HBy.out)
  have HS2 := Lib.hid (HS1.out.later HBy.out)
  have HG2 := Lib.hid (HG1.out.later HBy.out)
  have HE2 := Lib.hid (pcI_new w2 D L G 25)
  clear hb c0 c1 c2 HB1 HA1 HS1 HG1 HBx HBy
  go_upto_region 5 with fail
  generalize w2.alloc (.cells #[.int .i64 (D : Int), .int .i64 (L : Int), .int .i64 (G : Int)] 25) = w3 at *
  go_wp2_with fail
  go_loopg [11, 12] D (fun g v i wr => ∃ (k : Nat) (S : Nat → Sl), g = D - k ∧ k ≤ D ∧ i = I k ∧ DRows w3 wr v k S)
  case atStart => exact ⟨0, fun _ => ⟨none, 0, 0, 0, 0, fun _ => 0⟩, rfl, by omega, rfl, DRows.start _ _⟩
  case round =>
    obtain ⟨k, S, rfl, hk, rfl, hdr⟩ := hrel
    have HDR := Lib.hid hdr
    have hbr := hdr.below
    have c0 : wr.cell? ⟨w.heap.size, 0, none⟩ = some (I D) := (HA2.out.later hbr) 0 (by omega)
    have HDa := Lib.hid (HDt.out.later (HB2.out.trans (hbr.mono HB2.out.size)))
    have hszr := hbr.size
    clear hdr
    by_cases hlt : k < D
    · obtain ⟨wo, rfl⟩ : ∃ wo, wo = wr := ⟨_, rfl⟩
      go_upto_region 10 with fail
      obtain ⟨u0, h0⟩ := u8_mod ((k : Int) * 31 + 1)
      obtain ⟨u1, h1⟩ := u8_mod (wrap64 ((k : Int) * (k : Int)))
      obtain ⟨u2, h2⟩ := u8_mod ((x : Int) / 2 ^ k)
      rw [h0, h1, h2]
      clear h0 h1 h2
      have HV0 := Lib.hid (vc_three wo u0 u1 u2)
      have HB0 := Lib.hid (show Below wo.heap.size wo (wo.alloc (.cells #[B u0, B u1, B u2] 5)) from (Below.refl _ _).alloc (Nat.le_refl _) _)
      change Code.wp _ _ _ _ (wo.alloc (.cells #[B u0, B u1, B u2] 5))
      generalize wo.alloc (.cells #[B u0, B u1, B u2] 5) = wz at *
      go_wp2_with fail
      go_loopg [13, 14] 6 (fun g v p wr => ∃ (q : Nat) (y : Nat → UInt8), g = 6 - q ∧ q ≤ 6 ∧ p = I q ∧ Below wo.heap.size wo wr ∧ Vc wr wo.heap.size 5 v (3 + q) (bs y))
      case atStart => exact ⟨0, _, rfl, by omega, rfl, HB0.out, HV0.out⟩
      case round =>
        obtain ⟨q, y, rfl, hq, rfl, hb, hv⟩ := hrel
        have HV := Lib.hid hv
        have HBq := Lib.hid hb
        have hszq := hb.size
        clear hv HV0 HB0
        by_cases hq6 : q < 6
        · have hd6 : decide ((q : Int) < 6) = true := by simp; omega
          by_cases hkm : k < m
          · have hdm : decide ((k : Int) < (m : Int)) = true := by simp; omega
            obtain rfl := HDa.out.addr (by omega)
            have hdq := HDa.out.later hb
            have cD : wr.cell? ⟨bD, oD + k, none⟩ = some (.slice (T k).a (T k).n (T k).c) := hdq.out k hkm
            have hok := hdq.ok k hkm
            have hTn : (T k).n ≤ 140737488355328 := Nat.le_trans hok.cap hok.max
            clear hb hdq
            by_cases hqn : q < (T k).n
            · have ha := hok.addr (by omega)
              rw [ha] at cD
              have cB : wr.cell? ⟨(T k).b, (T k).o + q, none⟩ = some (B ((T k).x q)) := hok.rd q hqn
              have hTc := hok.cap
              clear hok ha
              go_wp2_with (refine wpList_append_one rfl (.tmp 96) (.tmp 98) 28 rfl wo.heap.size 5 (.int .u8 0) 1 Tryd.underlying28 infoU8 rfl _ (3 + q) _ rfl HV.out (B ((T k).x q)) _ rfl rfl (by omega) (by omega) hszq ?_; intro v3 w4 hv3 hu3; have HV3 := Lib.hid (vc_byte hv3); have HU3 := Lib.hid (Below.upd HBq.out hu3 (fun t ht => (HV.out.lt t ht.symm).1) hszq); clear hv3 hu3; simp only [Act.put, List.setIfInBounds_toArray, List.set_cons_succ, List.set_cons_zero])
              go_roundg (6 - (q + 1))
              case measure => omega
              case rel => exact ⟨q + 1, _, rfl, by omega, by go_num, HU3.out, HV3.out⟩
            · have hu8 : ((UInt8.ofNat q).toNat : Int) = (q : Int) := by rw [UInt8.toNat_ofNat', Nat.mod_eq_of_lt (by omega)]
              clear hok
              go_wp2_with (refine wpList_append_one rfl (.tmp 96) (.tmp 98) 28 rfl wo.heap.size 5 (.int .u8 0) 1 Tryd.underlying28 infoU8 rfl _ (3 + q) _ rfl HV.out (.int .u8 (q : Int)) _ rfl rfl (by omega) (by omega) hszq ?_; intro v3 w4 hv3 hu3; rw [← hu8] at hv3; have HV3 := Lib.hid (vc_byte hv3); have HU3 := Lib.hid (Below.upd HBq.out hu3 (fun t ht => (HV.out.lt t ht.symm).1) hszq); clear hv3 hu3; simp only [Act.put, List.setIfInBounds_toArray, List.set_cons_succ, List.set_cons_zero])
              go_roundg (6 - (q + 1))
              case measure => omega
              case rel => exact ⟨q + 1, _, rfl, by omega, by go_num, HU3.out, HV3.out⟩
          · have hdm : decide ((k : Int) < (m : Int)) = false := by simp; omega
            clear hb
            obtain ⟨ra, rb, rc, rfl, _⟩ := HV.out.shape
            go_wp2_with fail
            go_loopg [13, 16] (9 - (3 + q)) (fun g v p wr => ∃ (n : Nat) (y : Nat → UInt8), g = 9 - n ∧ n ≤ 9 ∧ p = I n ∧ Below wo.heap.size wo wr ∧ Vc wr wo.heap.size 5 v n (bs y))
            case atStart => exact ⟨3 + q, y, rfl, by omega, by go_num, HBq.out, HV.out⟩
            case round =>
              obtain ⟨n, y2, rfl, hn, rfl, hb, hv⟩ := hrel
              have HV2 := Lib.hid hv
              have HB2q := Lib.hid hb
              have hszq2 := hb.size
              clear hb hv
              by_cases hn9 : n < 9
              · have hu8 : ((UInt8.ofNat n).toNat : Int) = (n : Int) := by rw [UInt8.toNat_ofNat', Nat.mod_eq_of_lt (by omega)]
                go_wp2_with (refine wpList_append_one rfl (.tmp 106) (.tmp 109) 28 rfl wo.heap.size 5 (.int .u8 0) 1 Tryd.underlying28 infoU8 rfl _ n _ rfl HV2.out (.int .u8 (n : Int)) _ rfl rfl (by omega) (by omega) hszq2 ?_; intro v3 w4 hv3 hu3; rw [← hu8] at hv3; have HV3 := Lib.hid (vc_byte hv3); have HU3 := Lib.hid (Below.upd HB2q.out hu3 (fun t ht => (HV2.out.lt t ht.symm).1) hszq2); clear hv3 hu3; simp only [Act.put, List.setIfInBounds_toArray, List.set_cons_succ, List.set_cons_zero])
                go_roundg (9 - (n + 1))
                case measure => omega
                case rel => exact ⟨n + 1, _, rfl, by omega, by go_num, HU3.out, HV3.out⟩
              · obtain rfl : n = 9 := by omega
                obtain ⟨s, rfl, hs9, hsok, hskd⟩ := row9 HV2.out
                have HSr := Lib.hid (And.intro hs9 (And.intro hsok hskd))
                have hsz3 : w3.heap.size ≤ wr.heap.size := Nat.le_trans hszr hszq2
                clear hs9 hsok hskd
                go_wp2_with (refine wpList_append_one rfl (.tmp 111) (.tmp 113) 24 rfl w3.heap.size 28 (.slice none 0 0) 24 Tryd.underlying24 infoBs rfl _ k _ rfl (HDR.out.vc.later HB2q.out) s.v _ rfl rfl (by omega) (by omega) hsz3 ?_; intro v3 w4 hv3 hu3; have HDn := Lib.hid (HDR.out.next HB2q.out s HSr.out.2.1 HSr.out.1 HSr.out.2.2 hv3 hu3); clear hv3 hu3; simp only [Act.put, List.setIfInBounds_toArray, List.set_cons_succ, List.set_cons_zero])
                go_roundg (D - (k + 1))
                case measure => omega
                case rel => exact ⟨k + 1, _, rfl, by omega, by go_num, HDn.out⟩
        · obtain rfl : q = 6 := by omega
          clear hb
          obtain ⟨ra, rb, rc, rfl, _⟩ := HV.out.shape
          go_wp2_with fail
          go_loopg [13, 16] (9 - (3 + 6)) (fun g v p wr => ∃ (n : Nat) (y : Nat → UInt8), g = 9 - n ∧ n ≤ 9 ∧ p = I n ∧ Below wo.heap.size wo wr ∧ Vc wr wo.heap.size 5 v n (bs y))
          case atStart => exact ⟨3 + 6, y, rfl, by omega, by go_num, HBq.out, HV.out⟩
          case round =>
            obtain ⟨n, y2, rfl, hn, rfl, hb, hv⟩ := hrel
            have HV2 := Lib.hid hv
            have HB2q := Lib.hid hb
            have hszq2 := hb.size
            clear hb hv
            by_cases hn9 : n < 9
            · have hu8 : ((UInt8.ofNat n).toNat : Int) = (n : Int) := by rw [UInt8.toNat_ofNat', Nat.mod_eq_of_lt (by omega)]
              go_wp2_with (refine wpList_append_one rfl (.tmp 106) (.tmp 109) 28 rfl wo.heap.size 5 (.int .u8 0) 1 Tryd.underlying28 infoU8 rfl _ n _ rfl HV2.out (.int .u8 (n : Int)) _ rfl rfl (by omega) (by omega) hszq2 ?_; intro v3 w4 hv3 hu3; rw [← hu8] at hv3; have HV3 := Lib.hid (vc_byte hv3); have HU3 := Lib.hid (Below.upd HB2q.out hu3 (fun t ht => (HV2.out.lt t ht.symm).1) hszq2); clear hv3 hu3; simp only [Act.put, List.setIfInBounds_toArray, List.set_cons_succ, List.set_cons_zero])
              go_roundg (9 - (n + 1))
              case measure => omega
              case rel => exact ⟨n + 1, _, rfl, by omega, by go_num, HU3.out, HV3.out⟩
            · obtain rfl : n = 9 := by omega
              obtain ⟨s, rfl, hs9, hsok, hskd⟩ := row9 HV2.out
              have HSr := Lib.hid (And.intro hs9 (And.intro hsok hskd))
              have hsz3 : w3.heap.size ≤ wr.heap.size := Nat.le_trans hszr hszq2
              clear hs9 hsok hskd
              go_wp2_with (refine wpList_append_one rfl (.tmp 111) (.tmp 113) 24 rfl w3.heap.size 28 (.slice none 0 0) 24 Tryd.underlying24 infoBs rfl _ k _ rfl (HDR.out.vc.later HB2q.out) s.v _ rfl rfl (by omega) (by omega) hsz3 ?_; intro v3 w4 hv3 hu3; have HDn := Lib.hid (HDR.out.next HB2q.out s HSr.out.2.1 HSr.out.1 HSr.out.2.2 hv3 hu3); clear hv3 hu3; simp only [Act.put, List.setIfInBounds_toArray, List.set_cons_succ, List.set_cons_zero])
              go_roundg (D - (k + 1))
              case measure => omega
              case rel => exact ⟨k + 1, _, rfl, by omega, by go_num, HDn.out⟩
    · obtain rfl : D = k := by omega
      obtain ⟨da, db, dc, rfl, hda, hdr, hdc, _, _⟩ := HDR.out.vc.shape
      have hS0 : (S 0).n = 9 := HDR.out.n9 0 (by omega)
      have HEn := Lib.hid (refEncode_okN D L G HR.out da db 0 D dc S wr hda hdr.rd HDR.out.ok hdc (by omega))
      have HEp := Lib.hid (show EncP D D S from ⟨rfl, fun i hi => ⟨(HDR.out.n9 i hi).trans hS0.symm, by rw [HDR.out.n9 i hi]; omega⟩⟩)
      have HB4 := Lib.hid (HB2.out.trans (hbr.mono HB2.out.size))
      have HA4 := Lib.hid (HA2.out.later hbr)
      have HS4 := Lib.hid (HS2.out.later hbr)
      have HG4 := Lib.hid (HG2.out.later hbr)
      have e0 : wr.cell? ⟨w2.heap.size, 0, none⟩ = some (I D) := (HE2.out.later hbr) 0 (by omega)
      have e1 : wr.cell? ⟨w2.heap.size, 1, none⟩ = some (I L) := (HE2.out.later hbr) 1 (by omega)
      have e2 : wr.cell? ⟨w2.heap.size, 2, none⟩ = some (I G) := (HE2.out.later hbr) 2 (by omega)
      clear hda hdr hdc HDR HDa hbr HB2 HA2 HS2 HG2 HE2
      obtain ⟨N, hN⟩ : ∃ N, N = D + L + G := ⟨_, rfl⟩
      have hN1 : 1 ≤ N := by omega
      have hN16 : N ≤ 16 := by omega
      go_wp2_with fail
      refine HEn.out.mono ?_
      rintro e w5 (⟨_, ⟨v5, γ, rfl, hmr⟩⟩ | ⟨hno, _⟩)
      case inr => exact absurd HEp.out hno
      rw [hS0, ← hN] at hmr
      obtain ⟨M, hM⟩ : ∃ M, M = encM D L (fun i => (S i).x) := ⟨_, rfl⟩
      rw [← hM] at hmr
      have HM := Lib.hid hM
      have HNe := Lib.hid hN
      obtain ⟨sa, sb, sc, rfl, hsa, hsr, _, hsc⟩ := hmr.sh
      obtain rfl := hsa (by omega)
      have HMr := Lib.hid hmr
      have HSr := Lib.hid hsr
      have HB5 := Lib.hid (HB4.out.trans (hmr.below.mono HB4.out.size))
      have HA5 := Lib.hid (HA4.out.later hmr.below)
      have HS5 := Lib.hid (HS4.out.later hmr.below)
      have HG5 := Lib.hid (HG4.out.later hmr.below)
      clear hM hN hsa hsr hmr e0 e1 e2 HB4 HA4 HS4 HG4 HEn HEp hS0 c0
      go_wp2_with fail
      go_loopg [19, 20, 21] N (fun g nv iv i wr => ∃ k : Nat, g = N - k ∧ k ≤ N ∧ i = I k ∧ Below w5.heap.size w5 wr ∧ Vc wr w5.heap.size 4 nv k (fun i => .bool (x.testBit i)) ∧ Vc wr w5.heap.size 28 iv k (fun i => (inT x γ M i).v))
      case atStart => exact ⟨0, rfl, by omega, rfl, Below.refl _ _, Vc.nil _ _ _ _, Vc.nil _ _ _ _⟩
      case round =>
        obtain ⟨k, rfl, hk, rfl, hb, hnv, hiv⟩ := hrel
        have HBi := Lib.hid hb
        have HNV := Lib.hid hnv
        have HIV := Lib.hid hiv
        have hszi := hb.size
        clear hb hnv hiv
        by_cases hlt : k < N
        · have HHas := Lib.hid (refHas_any x k hx (by omega))
          have HAp := Lib.hid (vc_apart HIV.out HNV.out (by decide))
          cases hbit : x.testBit k with
          | true =>
            rw [hbit] at HHas
            have HTk := Lib.hid (inT_lost (γ := γ) (M := M) hbit)
            have HBit := Lib.hid hbit
            clear hbit
            go_wp2_with (first | (go_at_call 15; refine (HHas.out _).mono ?_; rintro e wq ⟨rfl, rfl⟩) | (refine wpList_append_one rfl (.tmp 130) (.tmp 132) 43 rfl w5.heap.size 4 (.bool false) 1 Tryd.underlying43 infoBo rfl _ k _ rfl HNV.out (.bool true) _ rfl rfl (by omega) (by omega) hszi ?_; intro v3 w4 hv3 hu3; have HNV3 := Lib.hid (vc_bit hv3 HBit.out); have HB3 := Lib.hid (Below.upd HBi.out hu3 (fun t ht => (HNV.out.lt t ht.symm).1) hszi); have HIV3 := Lib.hid (HIV.out.kept hu3 HAp.out); have hsz4 := HB3.out.size; clear hv3 hu3; simp only [Act.put, List.setIfInBounds_toArray, List.set_cons_succ, List.set_cons_zero]) | (refine wpList_append_one rfl (.tmp 135) (.tmp 136) 24 rfl w5.heap.size 28 (.slice none 0 0) 24 Tryd.underlying24 infoBs rfl _ k _ rfl HIV3.out (.slice none 0 0) _ rfl rfl (by omega) (by omega) hsz4 ?_; intro v6 w6 hv6 hu6; have HIV6 := Lib.hid (vc_in hv6 (by rw [HTk.out])); have HB6 := Lib.hid (Below.upd HB3.out hu6 (fun t ht => (HIV3.out.lt t ht.symm).1) hsz4); have HNV6 := Lib.hid (HNV3.out.kept hu6 (vc_apart HNV3.out HIV3.out (by decide))); clear hv6 hu6; simp only [Act.put, List.setIfInBounds_toArray, List.set_cons_succ, List.set_cons_zero]))
            go_roundg (N - (k + 1))
            case measure => omega
            case rel => exact ⟨k + 1, rfl, by omega, by go_num, HB6.out, HNV6.out, HIV6.out⟩
          | false =>
            rw [hbit] at HHas
            have HTk := Lib.hid (inT_here (γ := γ) (M := M) hbit)
            have HBit := Lib.hid hbit
            clear hbit
            go_wp2_with (first | (go_at_call 15; refine (HHas.out _).mono ?_; rintro e wq ⟨rfl, rfl⟩) | (refine wpList_append_one rfl (.tmp 130) (.tmp 132) 43 rfl w5.heap.size 4 (.bool false) 1 Tryd.underlying43 infoBo rfl _ k _ rfl HNV.out (.bool false) _ rfl rfl (by omega) (by omega) hszi ?_; intro v3 w4 hv3 hu3; have HNV3 := Lib.hid (vc_bit hv3 HBit.out); have HB3 := Lib.hid (Below.upd HBi.out hu3 (fun t ht => (HNV.out.lt t ht.symm).1) hszi); have HIV3 := Lib.hid (HIV.out.kept hu3 HAp.out); have hsz4 := HB3.out.size; have y2 : w4.cell? ⟨sb, k, none⟩ = some (.slice (some ⟨γ k, 0, none⟩) 9 9) := (by have h := (HSr.out.later HB3.out) k hlt; rwa [Nat.zero_add] at h); clear hv3 hu3; simp only [Act.put, List.setIfInBounds_toArray, List.set_cons_succ, List.set_cons_zero]) | (refine wpList_append_one rfl (.tmp 138) (.tmp 143) 24 rfl w5.heap.size 28 (.slice none 0 0) 24 Tryd.underlying24 infoBs rfl _ k _ rfl HIV3.out (.slice (some ⟨γ k, 0, none⟩) 9 9) _ rfl rfl (by omega) (by omega) hsz4 ?_; intro v6 w6 hv6 hu6; have HIV6 := Lib.hid (vc_in hv6 (by rw [HTk.out])); have HB6 := Lib.hid (Below.upd HB3.out hu6 (fun t ht => (HIV3.out.lt t ht.symm).1) hsz4); have HNV6 := Lib.hid (HNV3.out.kept hu6 (vc_apart HNV3.out HIV3.out (by decide))); clear hv6 hu6; simp only [Act.put, List.setIfInBounds_toArray, List.set_cons_succ, List.set_cons_zero]))
            go_roundg (N - (k + 1))
            case measure => omega
            case rel => exact ⟨k + 1, rfl, by omega, by go_num, HB6.out, HNV6.out, HIV6.out⟩
        · obtain rfl : N = k := by omega
          obtain ⟨na, nb, nc, rfl, hna, hnr, hnc, _, _⟩ := HNV.out.shape
          obtain ⟨ia, ib, ic, rfl, hia, hir, hic, _, _⟩ := HIV.out.shape
          obtain rfl := hna (by omega)
          obtain rfl := hia (by omega)
          have HB8 := Lib.hid (HB5.out.trans (HBi.out.mono HB5.out.size))
          have HA8 := Lib.hid (HA5.out.later HBi.out)
          have HS8 := Lib.hid (HS5.out.later HBi.out)
          have HG8 := Lib.hid (HG5.out.later HBi.out)
          have HSr8 := Lib.hid (HSr.out.later HBi.out)
          have HRow8 := Lib.hid (fun i (hi : i < N) => (HMr.out.row i hi).later HBi.out)
          have HNr8 := Lib.hid hnr.rd
          have HIr8 := Lib.hid hir.rd
          obtain ⟨y, hy⟩ : ∃ y, y = x % 2 ^ (D + L + G) := ⟨_, rfl⟩
          have hro := reads_ok hd1 hd2 HR.out.l1 HR.out.div h7 HDm.out
          have hok := prog_ok h7 hro.apart
          have hlo := loaded_prog h7 hro.lt
          rw [← hy] at hro hok hlo
          have hPy := HPP.out
          have hRy := HRG.out
          rw [← hy] at hPy hRy
          rw [← hPy, ← hRy, ← HNe.out] at hok
          rw [← hPy, ← HNe.out] at hlo
          have hP2 : P.length ≤ 2000 := hok.2.2.1
          have hyb : ∀ i, i < N → x.testBit i = y.testBit i := fun i hi => by rw [hy, Nat.testBit_mod_two_pow, ← HNe.out]; simp [hi]
          have hrd : ∀ i ∈ readL D L N y, x.testBit i = false := fun i hi => by
            obtain ⟨i1, i2⟩ := mem_sel.1 hi
            rw [hyb i i1]
            exact hro.apart i (by rw [← HNe.out]; exact i2)
          have hrun := prog_run (D := D) (L := L) (N := N) (x := y) (T := inT x γ M) (gone := x.testBit) fun i hi => ⟨hrd i hi, by rw [inT_here (hrd i hi)]⟩
          have hout := run_prog (refX (inT x γ M)) D L N y
          rw [← HNe.out] at hPy
          rw [← hPy] at hrun hout
          have hsame := fun (j : Nat) hj => outs_same hro (T := inT x γ M) (fun i => (S i).x) (fun i hi t ht => by rw [inT_here (hrd i (by rw [HNe.out]; exact hi)), HM.out]) (j := j) hj
          rw [← HNe.out] at hsame
          have hlost : lostL N y = sel N x.testBit := sel_congr fun i hi => (hyb i hi).symm
          rw [hlost] at hsame hout
          have HOk := Lib.hid hok
          have HLo := Lib.hid hlo
          have HRun := Lib.hid hrun
          have HOut := Lib.hid hout
          have HSm := Lib.hid hsame
          clear hro hok hlo hPy hRy hyb hrd hrun hout hsame hlost hna hia hnr hir HB5 HA5 HS5 HG5 HSr HNV HIV HBi hy
          obtain ⟨R, hR⟩ : ∃ R, R = readL D L N y := ⟨_, rfl⟩
          rw [← hR] at HLo HRun HOut HSm
          have HRe := Lib.hid hR
          obtain ⟨O, hO⟩ : ∃ O, O = outP (refX (inT x γ M)) R D L (sel N x.testBit) := ⟨_, rfl⟩
          rw [← hO] at HOut HSm
          have HOl := Lib.hid (show O.length = (sel N x.testBit).length by rw [hO]; simp [outP])
          have HO1 := Lib.hid (fun (j : Nat) (hj : j < (sel N x.testBit).length) => show (O.getD j Od).1 = (((sel N x.testBit).getD j 0 : Nat) : Int) by rw [hO, outs_at hj])
          clear hR hO
          have g0 := HG8.out.c0; have g1 := HG8.out.c1
          go_wp2_with fail
          refine (program_any va vb 0 P.length vc (fun i => P.getD i Sd) (rg : Int) wr HS8.out (by omega)).mono ?_
          rintro e w6 ⟨pv, rfl, hb, hpv⟩
          obtain ⟨pa, pb, pc, rfl, hps, _, _⟩ := hpv.shape
          have HBp := Lib.hid (show Below wr.heap.size wr (w6.alloc (.cells #[I (rg : Nat), .slice pa P.length pc] 51)) from hb.alloc hb.size _)
          have HPs := Lib.hid (hps.later ((Below.refl _ _).alloc (Nat.le_refl _) (.cells #[I (rg : Nat), .slice pa P.length pc] 51)))
          have HGp := Lib.hid (Pair.new w6 51 (I (rg : Nat)) (.slice pa P.length pc))
          clear hb hpv hps g0 g1
          go_wp2_with fail
          refine (refRun_anyN pa (some ⟨ib, 0, none⟩) (some ⟨nb, 0, none⟩) pb ib nb 0 0 0 P.length N pc ic nc (fun t => P.getD t Sd) (inT x γ M) x.testBit (rg : Int) _ HPs.out
            ⟨fun _ => rfl, HIr8.out.later HBp.out, fun i hi => inT_ok ((HRow8.out i hi).later HBp.out), hic, by omega⟩ (fun i _ => inT_n) (fun _ => rfl) (HNr8.out.later HBp.out) hnc).mono ?_
          rintro e w7 ⟨⟨_, _, ⟨v7, δ, rfl, ho7⟩⟩ | ⟨_, hno, _⟩ | ⟨hno, _⟩, hb⟩
          case inr.inl => exact absurd HRun.out.1 hno
          case inr.inr => exact absurd HOk.out hno
          rw [HOut.out] at ho7
          obtain ⟨oa, ob, oc, rfl, hels⟩ := ho7.els
          have hW9 : refN (fun t => P.getD t Sd) (inT x γ M) P.length ≤ 4096 := by
            unfold refN
            have h := firstN_max HRun.out.1
            omega
          have H9 := Lib.hid HRun.out.2
          generalize refN (fun t => P.getD t Sd) (inT x γ M) P.length = W9 at *
          have HEl := Lib.hid hels
          have HOs := Lib.hid ho7
          have hocap := hels.cap; have homax := hels.max
          have HBr := Lib.hid (HBp.out.trans (hb.mono HBp.out.size))
          have HB9 := Lib.hid (HB8.out.trans (HBr.out.mono HB8.out.size))
          have HA9 := Lib.hid (HA8.out.later HBr.out)
          have HS9 := Lib.hid (HS8.out.later HBr.out)
          have HG9 := Lib.hid (HG8.out.later HBr.out)
          have HSr9 := Lib.hid (HSr8.out.later HBr.out)
          have HRow9 := Lib.hid (fun i (hi : i < N) => (HRow8.out i hi).later HBr.out)
          have HNr9 := Lib.hid (HNr8.out.later HBr.out)
          have HGp9 := Lib.hid (HGp.out.later hb)
          have HPs9 := Lib.hid (HPs.out.later hb)
          have hO16 : O.length ≤ 16 := by rw [HOl.out]; exact Nat.le_trans (sel_len _ _) hN16
          clear ho7 hels hb HB8 HA8 HS8 HG8 HSr8 HRow8 HNr8 HIr8 HGp HPs HBp HBr HRun HOut
          go_wp2_with fail
          go_loopg [26, 27] N (fun g av i wr => ∃ k : Nat, g = N - k ∧ k ≤ N ∧ av = I ((sel k x.testBit).length : Nat) ∧ i = I k ∧ Below w7.heap.size w7 wr)
          case atStart => exact ⟨0, rfl, by omega, rfl, rfl, Below.refl _ _⟩
          case round =>
            obtain ⟨k, rfl, hk, rfl, rfl, hb⟩ := hrel
            have HBj := Lib.hid hb
            have hszj := hb.size
            clear hb
            by_cases hlt : k < N
            · have n1 : wr.cell? ⟨nb, k, none⟩ = some (.bool (x.testBit k)) := by have h := (HNr9.out.later HBj.out) k hlt; rwa [Nat.zero_add] at h
              have hsl := sel_len k x.testBit
              have hss := sel_succ k x.testBit
              cases hbit : x.testBit k with
              | false =>
                rw [hbit] at n1 hss
                have HSs := Lib.hid (show (sel (k + 1) x.testBit).length = (sel k x.testBit).length by rw [hss]; simp)
                clear hbit hss
                generalize (sel k x.testBit).length = q at *
                go_wp2_with fail
                go_roundg (N - (k + 1))
                case measure => omega
                case rel => exact ⟨k + 1, rfl, by omega, by rw [HSs.out], by go_num, HBj.out⟩
              | true =>
                have hnth := sel_nth hlt hbit
                rw [hbit] at n1 hss
                have HSl := Lib.hid (show (sel (k + 1) x.testBit).length = (sel k x.testBit).length + 1 by rw [hss]; simp)
                clear hbit hss
                generalize (sel k x.testBit).length = q at *
                have hq1 : q < O.length := by rw [HOl.out]; exact hnth.1
                obtain rfl := HEl.out.addr (by omega)
                have s0 : wr.cell? ⟨ob, q * 2, none⟩ = some (I (k : Int)) := by
                  have h := (HEl.out.later HBj.out).at0 hq1
                  rw [h]
                  show some (I (O.getD q Od).1) = _
                  rw [HO1.out q hnth.1, hnth.2]
                have hgp := HG9.out.later HBj.out
                have g0 := hgp.c0; have g1 := hgp.c1
                have hqI : (q : Int) < (O.length : Int) := by omega
                have hqJ : ¬ (O.length : Int) ≤ (q : Int) := by omega
                have hkk : ((k : Int) != (k : Int)) = false := by simp
                clear hgp
                by_cases hR0 : R.length = 0
                · have hdr0 : decide ((0 : Int) < (R.length : Int)) = false := decide_eq_false (by omega)
                  go_wp2_with fail
                  refine (loaded_any va vb 0 P.length vc P rfl (rg : Int) wr (HS9.out.later HBj.out)).mono ?_
                  rintro e w8 ⟨rfl, hb⟩
                  rw [HLo.out]
                  have HBk := Lib.hid (HBj.out.trans (hb.mono hszj))
                  have s1 : w8.cell? ⟨ob, q * 2 + 1, none⟩ = some (.slice (some ⟨δ q, 0, none⟩) W9 W9) := (HEl.out.later HBk.out).at1 hq1
                  have sh : w8.cell? ⟨sb, k, none⟩ = some (.slice (some ⟨γ k, 0, none⟩) 9 9) := by have h := (HSr9.out.later HBk.out) k hlt; rwa [Nat.zero_add] at h
                  have HSame := Lib.hid (fun n => same_any (some ⟨δ q, 0, none⟩) (some ⟨γ k, 0, none⟩) (δ q) 0 (γ k) 0 W9 9 W9 9 (O.getD q Od).2 (M k) (w8.drewN n) (fun _ => rfl) (fun _ => rfl) (((HOs.out.row q hq1).later HBk.out).rd.drewN n) (((HRow9.out k hlt).later HBk.out).rd.drewN n) (by omega) (by omega))
                  clear hb g0 g1 s0
                  go_wp2_with fail
                  go_quiet ((go_at_call 26; exact Calls.quiet_of (HSame.out _)))
                  have hdn : Below w8.heap.size w8 (w8.drewN nq) := ⟨rfl, rfl, rfl, Nat.le_refl _, fun _ _ => rfl⟩
                  have HBn := Lib.hid (HBk.out.trans (hdn.mono HBk.out.size))
                  clear hdn
                  go_wp2_with fail
                  go_roundg (N - (k + 1))
                  case measure => omega
                  case rel => exact ⟨k + 1, rfl, by omega, by rw [HSl.out]; go_num, by go_num, HBn.out⟩
                · have hdN : decide (0 < R.length) = true := decide_eq_true (by omega)
                  have hW9 : W9 = 9 := H9.out (by omega)
                  subst hW9
                  have HYs := Lib.hid (show sameB 9 9 (O.getD q Od).2 (M k) = true from sameB_yes fun t ht => by rw [HSm.out q hnth.1 t ht, hnth.2, HM.out])
                  go_wp2_with fail
                  refine (loaded_any va vb 0 P.length vc P rfl (rg : Int) wr (HS9.out.later HBj.out)).mono ?_
                  rintro e w8 ⟨rfl, hb⟩
                  rw [HLo.out]
                  have HBk := Lib.hid (HBj.out.trans (hb.mono hszj))
                  have s1 : w8.cell? ⟨ob, q * 2 + 1, none⟩ = some (.slice (some ⟨δ q, 0, none⟩) 9 9) := (HEl.out.later HBk.out).at1 hq1
                  have sh : w8.cell? ⟨sb, k, none⟩ = some (.slice (some ⟨γ k, 0, none⟩) 9 9) := by have h := (HSr9.out.later HBk.out) k hlt; rwa [Nat.zero_add] at h
                  have HSame := Lib.hid (fun n => same_any (some ⟨δ q, 0, none⟩) (some ⟨γ k, 0, none⟩) (δ q) 0 (γ k) 0 9 9 9 9 (O.getD q Od).2 (M k) (w8.drewN n) (fun _ => rfl) (fun _ => rfl) (((HOs.out.row q hq1).later HBk.out).rd.drewN n) (((HRow9.out k hlt).later HBk.out).rd.drewN n) (by omega) (by omega))
                  rw [HYs.out] at HSame
                  clear hb g0 g1 s0
                  go_wp2_with fail
                  go_quiet ((go_at_call 26; exact Calls.quiet_of (HSame.out _)))
                  have hdn : Below w8.heap.size w8 (w8.drewN nq) := ⟨rfl, rfl, rfl, Nat.le_refl _, fun _ _ => rfl⟩
                  have HBn := Lib.hid (HBk.out.trans (hdn.mono HBk.out.size))
                  clear hdn
                  go_wp2_with fail
                  go_roundg (N - (k + 1))
                  case measure => omega
                  case rel => exact ⟨k + 1, rfl, by omega, by rw [HSl.out]; go_num, by go_num, HBn.out⟩
            · obtain rfl : N = k := by omega
              have HBe := Lib.hid (HB9.out.trans (HBj.out.mono HB9.out.size))
              have HAe := Lib.hid (HA9.out.later HBj.out)
              have HTe := Lib.hid (tab_later HT.out HBe.out)
              have HGe := Lib.hid (HGp9.out.later HBj.out)
              have HPe := Lib.hid (HPs9.out.later HBj.out)
              have c0 : wr.cell? ⟨w.heap.size, 0, none⟩ = some (I D) := HAe.out 0 (by omega)
              have c1 : wr.cell? ⟨w.heap.size, 1, none⟩ = some (I L) := HAe.out 1 (by omega)
              have c2 : wr.cell? ⟨w.heap.size, 2, none⟩ = some (I G) := HAe.out 2 (by omega)
              rw [← HOl.out]
              have hoo : ((O.length : Int) == (O.length : Int)) = true := by simp
              go_wp2_with fail
              refine (HSC.out wr HTe.out).mono ?_
              rintro e w8 ⟨⟨_, v8, rfl, hv8⟩ | ⟨hd, _⟩, hb⟩
              case inr => rw [HDm.out] at hd; cases hd
              rw [← HPP.out] at hv8
              rw [← HRG.out]
              obtain ⟨va8, vb8, vc8, rfl, hst8, _, _⟩ := hv8.shape
              have HBz := Lib.hid (show Below wr.heap.size wr (w8.alloc (.cells #[I (rg : Nat), .slice va8 P.length vc8] 39)) from hb.alloc hb.size _)
              have HS8 := Lib.hid (hst8.later ((Below.refl _ _).alloc (Nat.le_refl _) (.cells #[I (rg : Nat), .slice va8 P.length vc8] 39)))
              have HPz := Lib.hid (HPe.out.later HBz.out)
              have p0 := (HGe.out.later HBz.out).c0; have p1 := (HGe.out.later HBz.out).c1
              have HBy := Lib.hid (HBe.out.trans (HBz.out.mono HBe.out.size))
              clear hb hv8 hst8 c0 c1 c2
              go_wp2_with fail
              refine (sameProgram_yes va8 pa vb8 pb 0 0 P.length vc8 pc (fun i => P.getD i Sd) (rg : Int) _ HS8.out HPz.out).mono ?_
              rintro e w9 ⟨rfl, hb⟩
              have HBf := Lib.hid (HBy.out.trans (hb.mono HBy.out.size))
              clear hb p0 p1
              go_wp2_with fail
              go_ret
              exact ⟨rfl, HBf.out⟩

theorem compiles_walk (D L G : Int) (x : Nat) (a : Option Addr) (bD oD m c : Nat) (T : Nat → Sl) (hx : x < 2 ^ 64) (w : World) (hl : Laid w) (hT : Tab w) (hdat : Rws w a bD oD m c T) : Calls Tryd.prog 6 #[PV D L G, U x, .slice a m c] w (LawTrue w) := by
  by_cases hR : RightI D L G
  · obtain ⟨d, l, g, rfl, rfl, rfl, hR⟩ := hR
    cases hd : decB d l g x with
    | true => exact compiles_yes d l g x a bD oD m c T hR hx hd w hl hT hdat
    | false => exact compiles_no d l g x _ w hl hT fun w hl hT => compiled_no d l g x hR hx hd w hl hT
  · exact compiles_no D L G x _ w hl hT fun w hl _ => compiled_bad D L G x hR w hl
end Go.Proofs.YthaamnjpjkkolabDoor
