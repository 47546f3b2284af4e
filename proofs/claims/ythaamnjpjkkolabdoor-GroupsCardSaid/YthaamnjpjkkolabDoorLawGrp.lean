import Derived.Test.YthaamnjpjkkolabDoorCompd
import Derived.Test.YthaamnjpjkkolabDoorMaHeap
import Derived.Test.YthaamnjpjkkolabDoorLawLst
import Derived.Deep.DeepCutAuto
/- The law Groups: its walk. -/
namespace Go.Proofs.YthaamnjpjkkolabDoor
open Go.RowKit Go.Proofs Lin Go.Shelf
set_option maxRecDepth 100000
set_option linter.unusedVariables false

set_option maxHeartbeats 400000 in
theorem groups_no (D L G : Int) (which : Int) (hR : ¬ RightI D L G) (w : World) (hl : Laid w) :
    Calls Tryd.prog 5 #[PV D L G, I which] w (LawTrue w) := by
  have HN := Lib.hid (fun w => sCompile_bad D L G 1 hR w)
  have HRt := Lib.hid (fun w => right_no hR w)
  have HL := Lib.hid hl
  clear hl hR
  have HB := Lib.hid ((Below.refl w.heap.size w).alloc (Nat.le_refl _) (.cells #[I D, I L, I G] 23))
  have HA := Lib.hid (pcI_new w D L G 23)
  go_enter Tryd.func5, Tryd.ntmps5
  go_wp2_with fail
  refine (theirs_any D L G _).mono ?_
  rintro e w1 ⟨rfl, hb⟩
  have HBx := Lib.hid (show Below w1.heap.size w1 (w1.alloc (.cells #[I D, I L, I G] 25)) from (Below.refl _ _).alloc (Nat.le_refl _) _)
  have HB1 := Lib.hid ((HB.out.trans (hb.mono HB.out.size)).trans (HBx.out.mono (Nat.le_trans HB.out.size hb.size)))
  have HA1 := Lib.hid ((HA.out.later hb).later HBx.out)
  clear hb HB HA HBx
  go_wp2_with fail
  refine (HRt.out _).mono ?_
  rintro e w2 ⟨rfl, hb⟩
  have HB2 := Lib.hid (HB1.out.trans (hb.mono HB1.out.size))
  have HA2 := Lib.hid (HA1.out.later hb)
  have c0 : w2.cell? ⟨w.heap.size, 0, none⟩ = some (I D) := HA2.out 0 (by omega)
  have c1 : w2.cell? ⟨w.heap.size, 1, none⟩ = some (I L) := HA2.out 1 (by omega)
  have c2 : w2.cell? ⟨w.heap.size, 2, none⟩ = some (I G) := HA2.out 2 (by omega)
  clear hb HB1 HA1
  go_wp2_with fail
  refine (HN.out _).mono ?_
  rintro e w3 ⟨rfl, hb⟩
  have HB3 := Lib.hid ((HB2.out.trans (hb.mono HB2.out.size)).alloc (Nat.le_trans HB2.out.size hb.size) (.cells #[I 0, .slice none 0 0] 39))
  clear hb c0 c1 c2
  go_wp2_with fail
  refine (tell_errno 1 _ (HL.out.later HB3.out)).mono ?_
  rintro e w4 ⟨rfl, hb⟩
  have HB4 := Lib.hid (HB3.out.trans (hb.mono HB3.out.size))
  clear hb
  go_wp2_with fail
  go_ret
  exact ⟨rfl, HB4.out⟩

theorem pick_k (which : Int) (N : Nat) (h1 : 1 ≤ N) (h2 : N ≤ 16) : ∃ k : Nat, k < N ∧ wrap64 ((IntKind.u64.wrap which).tmod (N : Int)) = (k : Int) := by
  have e : IntKind.u64.wrap which = which % 18446744073709551616 := rfl
  have h0 : 0 ≤ IntKind.u64.wrap which := by rw [e]; omega
  rw [Int.tmod_eq_emod_of_nonneg h0]
  have ha := Int.emod_nonneg (IntKind.u64.wrap which) (b := (N : Int)) (by omega)
  have hb := Int.emod_lt_of_pos (IntKind.u64.wrap which) (b := (N : Int)) (by omega)
  exact ⟨((IntKind.u64.wrap which) % (N : Int)).toNat, by omega, by rw [IntWalk.wrap64_in _ ⟨by omega, by omega⟩]; omega⟩

theorem size_facts {D L : Nat} (h1 : 1 ≤ D) (h2 : D ≤ 12) (h3 : 1 ≤ L) (h6 : D % L = 0) :
    ∃ s, s = D / L ∧ D = L * s ∧ 1 ≤ s ∧ s ≤ D ∧ wrap64 ((D : Int) / (L : Int)) = (s : Int) ∧ ¬ (L : Int) = 0 ∧ ¬ (s : Int) = 0 := by
  have hDs : D = L * (D / L) := by rw [Nat.mul_div_cancel' (Nat.dvd_of_mod_eq_zero h6)]
  have hsD : D / L ≤ D := Nat.div_le_self _ _
  have hs1 : 1 ≤ D / L := Nat.div_pos (Nat.le_of_dvd (by omega) (Nat.dvd_of_mod_eq_zero h6)) (by omega)
  have hq : wrap64 ((D : Int) / (L : Int)) = ((D / L : Nat) : Int) := by
    have : (D : Int) / (L : Int) = ((D / L : Nat) : Int) := by simp
    rw [this]
    exact IntWalk.wrap64_in _ ⟨by omega, by omega⟩
  exact ⟨_, rfl, hDs, hs1, hsD, hq, by omega, fun e => by have := Int.natCast_eq_zero.1 e; omega⟩

def OneIs (D L G k : Nat) (W : World) (e : Ending) (w' : World) : Prop :=
  (∃ va vc, e = .returned (.tuple #[.agg #[I (regsN D L (D + L + G) (2 ^ k) : Nat), .slice va (progL D L (D + L + G) (2 ^ k)).length vc], .nilIface]) ∧ V4 w' W.heap.size 84 (.slice va (progL D L (D + L + G) (2 ^ k)).length vc) (progL D L (D + L + G) (2 ^ k)).length (fun i => sc ((progL D L (D + L + G) (2 ^ k)).getD i Sd))) ∧ Below W.heap.size W w'
theorem one_comp (D L G k : Nat) (hR : Right D L G) (hk : k < D + L + G) (W : World) (hT : Tab W) : Calls Tryd.prog 22 #[PV D L G, U (2 ^ k : Nat)] W (OneIs D L G k W) := by
  have h7 := hR.sum
  have hp : 2 ^ k < 2 ^ (D + L + G) := Nat.pow_lt_pow_right (by omega) hk
  have hp16 : 2 ^ (D + L + G) ≤ 2 ^ 16 := Nat.pow_le_pow_right (by omega) h7
  have h := sCompile_ok D L G (2 ^ k) hR (by omega) W hT
  rw [Nat.mod_eq_of_lt hp] at h
  refine h.mono fun e w' hc => ⟨?_, hc.2⟩
  rcases hc.1 with ⟨_, v, rfl, hv⟩ | ⟨hd, _⟩
  · obtain ⟨va, vb, vc, rfl, hs, _⟩ := hv.shape
    exact ⟨va, vc, rfl, hv⟩
  · rw [decB_one hR.d1 hR.d2 hR.l1 hR.div h7 hk] at hd; cases hd

set_option maxHeartbeats 4000000 in
theorem groups_yes (D L G : Nat) (which : Int) (hR : Right D L G) (w : World) (hl : Laid w) (hT : Tab w) :
    Calls Tryd.prog 5 #[PV D L G, I which] w (LawTrue w) := by
  have h7 := hR.sum; have hd1 := hR.d1; have hd2 := hR.d2
  have HRt := Lib.hid (fun w => right_yes hR w)
  have hsh := fun w => refShards_any D L G (by omega) w
  rw [shards3] at hsh
  have HSh := Lib.hid hsh
  have HR := Lib.hid hR
  have HL := Lib.hid hl
  have HT := Lib.hid hT
  clear hsh hR hl hT
  have HB := Lib.hid ((Below.refl w.heap.size w).alloc (Nat.le_refl _) (.cells #[I D, I L, I G] 23))
  have HA := Lib.hid (pcI_new w D L G 23)
  go_enter Tryd.func5, Tryd.ntmps5
  go_wp2_with fail
  refine (theirs_any D L G _).mono ?_
  rintro e w1 ⟨rfl, hb⟩
  have HBx := Lib.hid (show Below w1.heap.size w1 (w1.alloc (.cells #[I D, I L, I G] 25)) from (Below.refl _ _).alloc (Nat.le_refl _) _)
  have HB1 := Lib.hid ((HB.out.trans (hb.mono HB.out.size)).trans (HBx.out.mono (Nat.le_trans HB.out.size hb.size)))
  have HA1 := Lib.hid ((HA.out.later hb).later HBx.out)
  have HE1 := Lib.hid (pcI_new w1 D L G 25)
  clear hb HB HA HBx
  go_wp2_with fail
  refine (HRt.out _).mono ?_
  rintro e w2 ⟨rfl, hb⟩
  have HB2 := Lib.hid (HB1.out.trans (hb.mono HB1.out.size))
  have HA2 := Lib.hid (HA1.out.later hb)
  have HE2 := Lib.hid (HE1.out.later hb)
  have e0 : w2.cell? ⟨w1.heap.size, 0, none⟩ = some (I D) := HE2.out 0 (by omega)
  have e1 : w2.cell? ⟨w1.heap.size, 1, none⟩ = some (I L) := HE2.out 1 (by omega)
  have e2 : w2.cell? ⟨w1.heap.size, 2, none⟩ = some (I G) := HE2.out 2 (by omega)
  clear hb HB1 HA1 HE1
  go_wp2_with fail
  refine (HSh.out _).mono ?_
  rintro e w3 ⟨rfl, hb⟩
  have HB3 := Lib.hid (HB2.out.trans (hb.mono HB2.out.size))
  have HA3 := Lib.hid (HA2.out.later hb)
  clear hb HB2 HA2 HE2 e0 e1 e2
  obtain ⟨N, hN⟩ : ∃ N, N = D + L + G := ⟨_, rfl⟩
  rw [← hN]
  have hN1 : 1 ≤ N := by omega
  have hN16 : N ≤ 16 := by omega
  have HNe := Lib.hid hN
  clear hN
  obtain ⟨k, hk, hke⟩ := pick_k which N hN1 hN16
  go_wp2_with fail
  rw [hke]
  have HOne := Lib.hid (fun W hT => one_comp D L G k HR.out (by rw [← HNe.out]; exact hk) W hT)
  unfold OneIs at HOne
  rw [← HNe.out] at HOne
  have HTW := Lib.hid (fun W (hb : Below w3.heap.size w3 W) => (tab_later HT.out (HB3.out.trans (hb.mono HB3.out.size)) : Tab W))
  have HK2 := Lib.hid (shl16 k (by omega))
  clear hke
  obtain ⟨P, hP⟩ : ∃ P, P = progL D L N (2 ^ k) := ⟨_, rfl⟩
  rw [← hP] at HOne
  have HPe := Lib.hid hP
  clear hP
  generalize regsN D L N (2 ^ k) = rg at *
  go_cut [11, 12] (fun b v wx => ∃ g va vc base, b = .pointer (some ⟨g, 0, none⟩) ∧ v = .nilIface ∧ Pair wx g 39 (I (rg : Nat)) (.slice va P.length vc) ∧ V4 wx base 84 (.slice va P.length vc) P.length (fun i => sc (P.getD i Sd)) ∧ Below w3.heap.size w3 wx)
  case first =>
    obtain ⟨w4, hw4⟩ : ∃ w4, w4 = w3.drew := ⟨_, rfl⟩
    have HD4 := Lib.hid (show Below w3.heap.size w3 w4 from hw4 ▸ below_drew w3)
    obtain ⟨ι1, hι1, wA, hwA, HWA⟩ := later_worlds w3
    have c0 : ∀ n, (wA n).cell? ⟨w.heap.size, 0, none⟩ = some (I D) := fun n => (HA3.out.later (hwA n)) 0 (by omega)
    have c1 : ∀ n, (wA n).cell? ⟨w.heap.size, 1, none⟩ = some (I L) := fun n => (HA3.out.later (hwA n)) 1 (by omega)
    have c2 : ∀ n, (wA n).cell? ⟨w.heap.size, 2, none⟩ = some (I G) := fun n => (HA3.out.later (hwA n)) 2 (by omega)
    have hsz4 := HD4.out.size
    refine wp_region_held_fork [0, 1, 2] 3 7 [([4, 5, 6], [7, 8])] [([], [3]), ([4, 5, 6], [8])] 9 (fun V => ∃ n, V = wA n) mixed (by kernel_rfl) (by kernel_rfl) (fun c a d v w h => by cases d <;> exact h) (HWA.out _ (below_drew w3)) ?_
    rw [← hw4]
    clear hw4 hwA
    simp only [pick, List.filterMap_cons, List.filterMap_nil, List.getElem?_cons_succ, List.getElem?_cons_zero]
    change wpQuiet _ _ _ _ (_ :: _ :: _ :: []) _
    repeat (go_big_quiet_step (fail))
    refine wpQuiet_nil ⟨?_, ?_⟩
    · refine wpOp_listG (i := 3) rfl rfl ?_
      go_wp2_with fail
      rw [HK2.out]
      refine (HOne.out _ (HTW.out _ HD4.out)).mono ?_
      rintro e w5 ⟨⟨va, vc, rfl, hst⟩, hb⟩
      have HB5 := Lib.hid (HD4.out.trans (hb.mono HD4.out.size))
      have HS5 := Lib.hid hst
      clear hb hst
      go_wp2_with fail
      refine ⟨HWA.out _ HB5.out, ?_⟩
      unfold scriptW
      simp only [pick, List.filterMap_cons, List.filterMap_nil, List.getElem?_cons_succ, List.getElem?_cons_zero]
      change wpQuiet _ _ _ _ (_ :: _ :: _ :: []) _
      repeat (go_big_quiet_step (fail))
      refine wpQuiet_nil ?_
      simp only [chainM, scriptW]
      refine wpOp_listG (i := 7) rfl rfl ?_
      go_wp2_with fail
      have HB6 := Lib.hid (HB5.out.alloc HB5.out.size (.cells #[I 0, .slice none 0 0] 39))
      have HP6 := Lib.hid (Pair.new w5 39 (I 0) (.slice none 0 0))
      have HS6 := Lib.hid (HS5.out.later ((Below.refl _ _).alloc (Nat.le_refl _) (.cells #[I 0, .slice none 0 0] 39)))
      have hsz5 := HB5.out.size
      refine ⟨HWA.out _ HB6.out, ?_⟩
      generalize w5.alloc (.cells #[.int .i64 0, .slice none 0 0] 39) = w6 at *
      have q0 := HP6.out.c0; have q1 := HP6.out.c1; have q2 := HP6.out.f0; have q3 := HP6.out.f1
      refine wpOp_listG (i := 8) rfl rfl ?_
      go_wp2_with fail
      have hU := ((Upd.refl (fun b => b = w5.heap.size) w6).setCell (a := ⟨w5.heap.size, 0, none⟩) (fun _ => rfl) (I (rg : Nat))).setCell (a := ⟨w5.heap.size, 1, none⟩) (fun _ => rfl) (.slice va P.length vc)
      have HPz := Lib.hid ((HP6.out.set0 (I (rg : Nat))).set1 (.slice va P.length vc))
      have HVz := Lib.hid (HS6.out.kept hU fun t ht e => HS6.out.block_ne HP6.out.kd (by decide) t ht e)
      have HBz := Lib.hid (show Below w3.heap.size w3 ((w6.setCell ⟨w5.heap.size, 0, none⟩ (I (rg : Nat))).setCell ⟨w5.heap.size, 1, none⟩ (.slice va P.length vc)) from (HB6.out.setCell (by show w3.heap.size ≤ w5.heap.size; omega) _).setCell (by show w3.heap.size ≤ w5.heap.size; omega) _)
      clear q0 q1 q2 q3 hU
      refine ⟨HWA.out _ HBz.out, ?_⟩
      simp only [List.drop_succ_cons, List.drop_zero]
      go_wp2_with fail
      go_meet
      exact ⟨_, va, vc, w4.heap.size, rfl, rfl, HPz.out, HVz.out, HBz.out⟩
    · refine wpOp_listG (i := 7) rfl rfl ?_
      go_wp2_with fail
      have HB5 := Lib.hid (HD4.out.alloc HD4.out.size (.cells #[I 0, .slice none 0 0] 39))
      have HP5 := Lib.hid (Pair.new w4 39 (I 0) (.slice none 0 0))
      refine ⟨HWA.out _ HB5.out, ?_⟩
      generalize w4.alloc (.cells #[.int .i64 0, .slice none 0 0] 39) = w5 at *
      simp only [scriptW, pick, List.filterMap_nil]
      refine wpQuiet_nil ?_
      simp only [chainM]
      refine wpOp_listG (i := 3) rfl rfl ?_
      go_wp2_with fail
      rw [HK2.out]
      refine (HOne.out _ (HTW.out _ HB5.out)).mono ?_
      rintro e w6 ⟨⟨va, vc, rfl, hst⟩, hb⟩
      have HB6 := Lib.hid (HB5.out.trans (hb.mono HB5.out.size))
      have HS6 := Lib.hid hst
      have HP6 := Lib.hid (HP5.out.later hb)
      clear hb hst
      go_wp2_with fail
      refine ⟨HWA.out _ HB6.out, ?_⟩
      try simp only [pick, List.filterMap_cons, List.filterMap_nil, List.getElem?_cons_succ, List.getElem?_cons_zero]
      change wpQuiet _ _ _ _ (_ :: _ :: _ :: []) _
      repeat (go_big_quiet_step (fail))
      refine wpQuiet_nil ?_
      try simp only [chainM, scriptW]
      have q0 := HP6.out.c0; have q1 := HP6.out.c1; have q2 := HP6.out.f0; have q3 := HP6.out.f1
      refine wpOp_listG (i := 8) rfl rfl ?_
      go_wp2_with fail
      have hU := ((Upd.refl (fun b => b = w4.heap.size) w6).setCell (a := ⟨w4.heap.size, 0, none⟩) (fun _ => rfl) (I (rg : Nat))).setCell (a := ⟨w4.heap.size, 1, none⟩) (fun _ => rfl) (.slice va P.length vc)
      have HPz := Lib.hid ((HP6.out.set0 (I (rg : Nat))).set1 (.slice va P.length vc))
      have HVz := Lib.hid (HS6.out.kept hU fun t ht e => HS6.out.block_ne HP6.out.kd (by decide) t ht e)
      have HBz := Lib.hid (show Below w3.heap.size w3 ((w6.setCell ⟨w4.heap.size, 0, none⟩ (I (rg : Nat))).setCell ⟨w4.heap.size, 1, none⟩ (.slice va P.length vc)) from (HB6.out.setCell (by show w3.heap.size ≤ w4.heap.size; omega) _).setCell (by show w3.heap.size ≤ w4.heap.size; omega) _)
      clear q0 q1 q2 q3 hU
      refine ⟨HWA.out _ HBz.out, ?_⟩
      simp only [List.drop_succ_cons, List.drop_zero]
      go_wp2_with fail
      go_meet
      exact ⟨_, va, vc, w5.heap.size, rfl, rfl, HPz.out, HVz.out, HBz.out⟩
  case rest =>
    obtain ⟨g, va, vc, base, rfl, rfl, hp, hv, hb⟩ := hcut
    obtain ⟨va', vb, vc', hve, hst, _, _⟩ := hv.shape
    cases hve
    have HBc := Lib.hid (HB3.out.trans (hb.mono HB3.out.size))
    have HAc := Lib.hid (HA3.out.later hb)
    have HSc := Lib.hid hst
    have g0 := hp.c0; have g1 := hp.c1
    have hp2 : 2 ^ k < 2 ^ N := Nat.pow_lt_pow_right (by omega) hk
    have hro := reads_ok hd1 hd2 HR.out.l1 HR.out.div h7 (decB_one hd1 hd2 HR.out.l1 HR.out.div h7 (by rw [← HNe.out]; exact hk))
    have hlo := loaded_prog h7 hro.lt
    have hone := one_ok hd1 hd2 HR.out.l1 HR.out.div h7 (k := k) (by rw [← HNe.out]; exact hk)
    have hnear := fun h => one_near hd1 HR.out.l1 HR.out.div h7 (k := k) h
    have hrlt := hro.lt
    rw [← HNe.out] at hlo hone hnear hrlt
    rw [← HPe.out] at hlo
    have hp16 : 2 ^ N ≤ 2 ^ 16 := Nat.pow_le_pow_right (by omega) hN16
    obtain ⟨n, hn⟩ : ∃ n, n = (readL D L N (2 ^ k)).length := ⟨_, rfl⟩
    rw [← hn] at hlo hone hnear
    generalize readsN D L N (2 ^ k) = r at *
    have hnD := hone.1
    have HBit := Lib.hid hone.2
    have HLo := Lib.hid hlo
    have HNear := Lib.hid hnear
    clear hp hv hb hst hro hlo hone hnear hn HOne HTW HA3 HB3
    go_wp2_with fail
    refine (loaded_any va vb 0 P.length vc P rfl (rg : Int) wc HSc.out).mono ?_
    rintro e w5 ⟨rfl, hb⟩
    rw [HLo.out]
    have HB5 := Lib.hid (HBc.out.trans (hb.mono HBc.out.size))
    have HA5 := Lib.hid (HAc.out.later hb)
    clear hb HBc HAc HSc g0 g1 HLo
    go_wp2_with fail
    refine (tell_nil _).mono ?_
    rintro e w6 ⟨rfl, hb⟩
    have HB6 := Lib.hid (HB5.out.trans (hb.mono HB5.out.size))
    have HA6 := Lib.hid (HA5.out.later hb)
    have c0 : w6.cell? ⟨w.heap.size, 0, none⟩ = some (I D) := HA6.out 0 (by omega)
    have c1 : w6.cell? ⟨w.heap.size, 1, none⟩ = some (I L) := HA6.out 1 (by omega)
    have c2 : w6.cell? ⟨w.heap.size, 2, none⟩ = some (I G) := HA6.out 2 (by omega)
    clear hb HB5 HA5
    have hL1 := HR.out.l1
    obtain ⟨s, hs, hDs, hs1, hsD, hq, hL0, hs0⟩ := size_facts hd1 hd2 HR.out.l1 HR.out.div
    rw [← hs] at HNear
    have HQ := Lib.hid hq
    have HDs := Lib.hid hDs
    clear hq hDs hs
    go_upto_region 13 with fail
    rw [HQ.out]
    by_cases hk1 : D + L ≤ k
    · have HBf := Lib.hid (show (bits BinOp.and IntKind.u64 ((r : Int) / 2 ^ k) 1 == 0) = true by
        have e : (r : Int) / 2 ^ k = ((r / 2 ^ k : Nat) : Int) := by simp
        rw [e, and_one _ (Nat.lt_of_le_of_lt (Nat.div_le_self _ _) (by omega))]
        have h := HBit.out
        rw [Nat.testBit_eq_decide_div_mod_eq] at h
        have h0 : r / 2 ^ k % 2 = 0 := by have : ¬ r / 2 ^ k % 2 = 1 := by simpa using h
                                          omega
        rw [h0]; rfl)
      go_wp2_with fail
      go_ret
      exact ⟨by rw [HBf.out]; rfl, HB6.out⟩
    · have hns : n = s := HNear.out (by omega)
      subst hns
      by_cases hkD : k < D
      · have hqL : k / n < L := Nat.div_lt_of_lt_mul (by rw [Nat.mul_comm, ← HDs.out]; exact hkD)
        have hq1 : (k / n + 1) * n ≤ L * n := Nat.mul_le_mul_right _ hqL
        rw [← HDs.out, Nat.add_mul, Nat.one_mul] at hq1
        have hkq : wrap64 ((k : Int) / (n : Int)) = ((k / n : Nat) : Int) := by
          have : (k : Int) / (n : Int) = ((k / n : Nat) : Int) := by simp
          rw [this]
          have hz : k / n ≤ k := Nat.div_le_self _ _
          generalize k / n = z at hz ⊢
          exact IntWalk.wrap64_in _ ⟨by omega, by omega⟩
        have hq16 : k / n ≤ k := Nat.div_le_self _ _
        have HKq := Lib.hid hkq
        clear hkq
        go_upto_region 18 with fail
        rw [HKq.out]
        generalize k / n = q at *
        obtain ⟨f, hf⟩ : ∃ f, f = q * n := ⟨_, rfl⟩
        rw [← hf] at hq1
        have hf1 : (q : Int) * (n : Int) = (f : Int) := by rw [hf]; simp
        have hf2 : ((q : Int) + 1) * (n : Int) = (f : Int) + (n : Int) := by rw [Int.add_mul, hf1, Int.one_mul]
        clear hf
        go_wp2_with fail
        go_loopg [18, 19] n (fun gg v i wr => ∃ (m : Nat) (u : Int), gg = f + n - m ∧ f ≤ m ∧ m ≤ f + n ∧ v = .int .u64 u ∧ i = I m ∧ w6 = wr)
        case atStart => exact ⟨f, _, by omega, by omega, by omega, rfl, rfl, rfl⟩
        case round =>
          obtain ⟨m, u, rfl, hm1, hm2, rfl, rfl, rfl⟩ := hrel
          by_cases hlt : m < f + n
          · go_wp2_with fail
            go_roundg (f + n - (m + 1))
            case measure => omega
            case rel => exact ⟨m + 1, _, rfl, by omega, by omega, rfl, by go_num, rfl⟩
          · obtain rfl : m = f + n := by omega
            have hnn : ((n : Int) == (n : Int)) = true := by simp
            by_cases hb : ((r : Int) == bits BinOp.andNot IntKind.u64 u (IntKind.u64.wrap ((2 : Int) ^ k))) = true
            · go_wp2_with fail
              go_ret
              exact ⟨rfl, HB6.out⟩
            · have hb' : ((r : Int) == bits BinOp.andNot IntKind.u64 u (IntKind.u64.wrap ((2 : Int) ^ k))) = false := by simpa using hb
              clear hb
              go_wp2_with fail
              go_ret
              exact ⟨rfl, HB6.out⟩
      · obtain ⟨q, hq⟩ : ∃ q, k = D + q := ⟨k - D, by omega⟩
        have hqL : q < L := by omega
        have hq1 : (q + 1) * n ≤ L * n := Nat.mul_le_mul_right _ hqL
        rw [← HDs.out, Nat.add_mul, Nat.one_mul] at hq1
        have hkq : (k : Int) - (D : Int) = (q : Int) := by omega
        clear hq
        obtain ⟨f, hf⟩ : ∃ f, f = q * n := ⟨_, rfl⟩
        rw [← hf] at hq1
        have hf1 : (q : Int) * (n : Int) = (f : Int) := by rw [hf]; simp
        have hf2 : ((q : Int) + 1) * (n : Int) = (f : Int) + (n : Int) := by rw [Int.add_mul, hf1, Int.one_mul]
        clear hf
        go_wp2_with fail
        go_loopg [18, 19] n (fun gg v i wr => ∃ (m : Nat) (u : Int), gg = f + n - m ∧ f ≤ m ∧ m ≤ f + n ∧ v = .int .u64 u ∧ i = I m ∧ w6 = wr)
        case atStart => exact ⟨f, _, by omega, by omega, by omega, rfl, rfl, rfl⟩
        case round =>
          obtain ⟨m, u, rfl, hm1, hm2, rfl, rfl, rfl⟩ := hrel
          by_cases hlt : m < f + n
          · go_wp2_with fail
            go_roundg (f + n - (m + 1))
            case measure => omega
            case rel => exact ⟨m + 1, _, rfl, by omega, by omega, rfl, by go_num, rfl⟩
          · obtain rfl : m = f + n := by omega
            have hnn : ((n : Int) == (n : Int)) = true := by simp
            by_cases hb : ((r : Int) == bits BinOp.andNot IntKind.u64 u (IntKind.u64.wrap ((2 : Int) ^ k))) = true
            · go_wp2_with fail
              go_ret
              exact ⟨rfl, HB6.out⟩
            · have hb' : ((r : Int) == bits BinOp.andNot IntKind.u64 u (IntKind.u64.wrap ((2 : Int) ^ k))) = false := by simpa using hb
              clear hb
              go_wp2_with fail
              go_ret
              exact ⟨rfl, HB6.out⟩

theorem groups_walk (D L G which : Int) (w : World) (hl : Laid w) (hT : Tab w) : Calls Tryd.prog 5 #[PV D L G, I which] w (LawTrue w) := by
  by_cases hR : RightI D L G
  · obtain ⟨d, l, g, rfl, rfl, rfl, hR⟩ := hR
    exact groups_yes d l g which hR w hl hT
  · exact groups_no D L G which hR w hl
end Go.Proofs.YthaamnjpjkkolabDoor
