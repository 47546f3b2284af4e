import Derived.Test.YthaamnjpjkkolaaDoorUnps
import Derived.Test.YthaamnjpjkkolaaDoorNum
/- The law Packs: its walk. -/
namespace Go.Proofs.YthaamnjpjkkolaaDoor
open Go.RowKit Go.Proofs
set_option maxRecDepth 100000
set_option linter.unusedVariables false

def SPackY (w : World) (regs : Int) (n : Nat) (S : Nat → Stp) (e : Ending) (w' : World) : Prop :=
  ∃ v, e = .returned (.tuple #[v, .nilIface]) ∧ Vc w' w.heap.size 5 v (3 + 4 * n) (bs (packX regs n S)) ∧ Below w.heap.size w w'

set_option maxHeartbeats 400000 in
theorem sPack_yes (a : Option Addr) (b o n c : Nat) (S : Nat → Stp) (regs : Int) (w : World) (h : Stps w a b o n c fun i => sc (S i)) (hP : PackP regs n S) :
    Calls Tryd.prog 12 #[.agg #[I regs, .slice a n c]] w (SPackY w regs n S) := by
  have HS := Lib.hid (h.later ((Below.refl w.heap.size w).alloc (Nat.le_refl _) (.cells #[I regs, .slice a n c] 24)))
  have HB := Lib.hid ((Below.refl w.heap.size w).alloc (Nat.le_refl _) (.cells #[I regs, .slice a n c] 24))
  have HP := Lib.hid hP
  clear h hP
  go_enter Tryd.func12, Tryd.ntmps12
  go_wp2_with fail
  refine (pack_any a b o n c S regs _ HS.out).mono ?_
  rintro e w1 ⟨⟨_, v, rfl, hv⟩ | ⟨hn, rfl⟩, hb⟩
  · obtain ⟨va, vb, vc, rfl, _⟩ := hv.shape
    have HV := Lib.hid (hv.base_le (base' := w.heap.size) (by rw [World.size_alloc]; omega))
    have HB1 := Lib.hid (HB.out.trans (hb.mono (by rw [World.size_alloc]; omega)))
    clear hv hb
    go_wp2_with fail
    go_ret2
    exact ⟨_, rfl, HV.out, HB1.out⟩
  · exact absurd HP.out hn

set_option maxHeartbeats 400000 in
theorem sPack_no (a : Option Addr) (b o n c : Nat) (S : Nat → Stp) (regs : Int) (w : World) (h : Stps w a b o n c fun i => sc (S i)) (hP : ¬ PackP regs n S) :
    Calls Tryd.prog 12 #[.agg #[I regs, .slice a n c]] w fun e w' => e = .returned (.tuple #[.slice none 0 0, .iface 28 (I 4)]) ∧ Below w.heap.size w w' := by
  have HS := Lib.hid (h.later ((Below.refl w.heap.size w).alloc (Nat.le_refl _) (.cells #[I regs, .slice a n c] 24)))
  have HB := Lib.hid ((Below.refl w.heap.size w).alloc (Nat.le_refl _) (.cells #[I regs, .slice a n c] 24))
  have HP := Lib.hid hP
  clear h hP
  go_enter Tryd.func12, Tryd.ntmps12
  go_wp2_with fail
  refine (pack_any a b o n c S regs _ HS.out).mono ?_
  rintro e w1 ⟨⟨hn, _⟩ | ⟨_, rfl⟩, hb⟩
  · exact absurd hn HP.out
  · have HB1 := Lib.hid (HB.out.trans (hb.mono (by rw [World.size_alloc]; omega)))
    clear hb
    go_wp2_with fail
    go_ret2
    exact ⟨rfl, HB1.out⟩

set_option maxHeartbeats 4000000 in
theorem packs_walk (a a' : Option Addr) (b b' o o' n m c c' : Nat) (S : Nat → Stp) (x : Nat → UInt8) (regs : Int) (w : World) (h : Stps w a b o n c fun i => sc (S i))
    (ha' : 0 < m → a' = some ⟨b', o', none⟩) (hx : Rd w b' o' m (bs x)) (hc' : m ≤ c') (hm' : c' ≤ 9223372036854775807) (hL : Laid w) :
    Calls Tryd.prog 4 #[.agg #[I regs, .slice a n c], .slice a' m c'] w (LawT w) := by
  have HS := Lib.hid h
  have HX := Lib.hid hx
  have HL := Lib.hid hL
  have HA := Lib.hid ha'
  have hcap := h.cap; have hmax := h.max
  clear h hx hL ha'
  have HB := Lib.hid ((Below.refl w.heap.size w).alloc (Nat.le_refl _) (.cells #[I regs, .slice a n c] 24))
  have HP := Lib.hid (Pair.new w 24 (I regs) (.slice a n c))
  by_cases h5 : 5000 < n
  · go_enter Tryd.func4, Tryd.ntmps4
    go_wp2_with fail
    go_ret
    exact ⟨rfl, HB.out⟩
  by_cases h6 : 100000 < m
  · go_enter Tryd.func4, Tryd.ntmps4
    go_wp2_with fail
    go_ret
    exact ⟨rfl, HB.out⟩
  have HPr := Lib.hid (fun w h => program_any a b o n c S regs w h (by omega))
  have HS1 := Lib.hid (HS.out.later HB.out)
  have hnil := fun (w : World) (a : Option Addr) (n c : Nat) => run_neq_slice_nil_any (P := Tryd.prog) w 37 5 a n c 0 0 Tryd.underlying37
  by_cases hP : PackP regs n S
  case neg =>
    have HN := Lib.hid hP
    clear hP
    go_enter Tryd.func4, Tryd.ntmps4
    go_wp2_with fail
    refine (sPack_no a b o n c S regs _ HS1.out HN.out).mono ?_
    rintro e w1 ⟨rfl, hb1⟩
    have HB1 := Lib.hid (HB.out.trans (hb1.mono (by rw [World.size_alloc]; omega)))
    have HP1 := Lib.hid (HP.out.later hb1)
    have HL1 := Lib.hid (HL.out.later HB1.out)
    clear hb1
    go_wp2_with fail
    refine (tell_errno 4 _ HL1.out).mono ?_
    rintro e w2 ⟨rfl, hb2⟩
    have HB2 := Lib.hid (HB1.out.trans (hb2.mono HB1.out.size))
    have hp := HP1.out.later hb2
    have q0 := hp.c0; have q1 := hp.c1
    clear hb2 hp
    go_wp2_with fail
    refine (HPr.out _ (HS.out.later HB2.out)).mono ?_
    rintro e w3 ⟨v3, rfl, hb3, hv3⟩
    have HB3 := Lib.hid (HB2.out.trans (hb3.mono HB2.out.size))
    obtain ⟨a3, b3, c3, rfl, hs3, _⟩ := hv3.shape
    have HS3 := Lib.hid hs3
    clear hb3 hv3 hs3 q0 q1
    go_wp2_with fail
    refine (refPack_any a3 b3 0 n c3 S regs _ (HS3.out.later ((Below.refl _ _).alloc (Nat.le_refl _) _))).mono ?_
    rintro e w4 ⟨⟨hno, _⟩ | ⟨_, rfl⟩, hb4⟩
    case inl => exact absurd hno HN.out
    have HB4 := Lib.hid ((HB3.out.alloc HB3.out.size (.cells #[.int .i64 regs, .slice a3 n c3] 32)).trans (hb4.mono (Nat.le_trans HB3.out.size (by simp))))
    clear hb4
    go_wp2_with fail
    refine (same_any none none 0 0 0 0 0 0 0 0 (fun _ => 0) (fun _ => 0) w4 (fun h => absurd h (by omega)) (fun h => absurd h (by omega)) (Rd.empty _ _ _ _) (Rd.empty _ _ _ _) (by omega) (by omega)).mono ?_
    rintro e w5 ⟨rfl, k5, rfl⟩
    have HB5 := Lib.hid (below_drewN HB4.out k5)
    rw [sameB_yes (fun i hi => absurd hi (by omega))]
    clear HB4
    go_wp2_with fail
    refine (num_any _ _).mono ?_
    rintro e w6 ⟨rfl, rfl⟩
    go_wp2_with fail
    refine (unpacks_any a' b' o' m c' x _ HA.out (HX.out.later HB5.out) (by omega) hc' (HL.out.later HB5.out)).mono ?_
    rintro e w7 ⟨rfl, hb7⟩
    have HB7 := Lib.hid (HB5.out.trans (hb7.mono HB5.out.size))
    clear hb7
    go_wp2_with fail
    go_ret
    exact ⟨rfl, HB7.out⟩
  have HY := Lib.hid hP
  clear hP
  go_enter Tryd.func4, Tryd.ntmps4
  go_wp2_with fail
  refine (sPack_yes a b o n c S regs _ HS1.out HY.out).mono ?_
  rintro e w1 ⟨v1, rfl, hv1, hb1⟩
  obtain ⟨va, vb, vc, rfl, hva, _⟩ := hv1.shape
  obtain rfl := hva (by omega)
  have HB1 := Lib.hid (HB.out.trans (hb1.mono (by rw [World.size_alloc]; omega)))
  have HP1 := Lib.hid (HP.out.later hb1)
  have HV1 := Lib.hid (hv1.base_le (base' := w.heap.size) (by rw [World.size_alloc]; omega))
  clear hb1 hv1 hva
  go_wp2_with fail
  refine (tell_nil _).mono ?_
  rintro e w2 ⟨rfl, hb2⟩
  have HB2 := Lib.hid (HB1.out.trans (hb2.mono HB1.out.size))
  have HV2 := Lib.hid (HV1.out.later hb2)
  have hp := HP1.out.later hb2
  have q0 := hp.c0; have q1 := hp.c1
  clear hb2 hp HV1
  go_wp2_with fail
  refine (HPr.out _ (HS.out.later HB2.out)).mono ?_
  rintro e w3 ⟨v3, rfl, hb3, hv3⟩
  have HB3 := Lib.hid (HB2.out.trans (hb3.mono HB2.out.size))
  have HV3 := Lib.hid (HV2.out.later hb3)
  obtain ⟨a3, b3, c3, rfl, hs3, _⟩ := hv3.shape
  have HS3 := Lib.hid hs3
  clear hb3 hv3 hs3 q0 q1 HV2
  go_wp2_with fail
  refine (refPack_any a3 b3 0 n c3 S regs _ (HS3.out.later ((Below.refl _ _).alloc (Nat.le_refl _) _))).mono ?_
  rintro e w4 ⟨⟨_, u, rfl, hu⟩ | ⟨hno, _⟩, hb4⟩
  case inr => exact absurd HY.out hno
  obtain ⟨ua, ub, uc, rfl, hua, hur, huc, _⟩ := hu.shape
  obtain rfl := hua (by omega)
  have HV4 := Lib.hid ((HV3.out.alloc (.cells #[.int .i64 regs, .slice a3 n c3] 32)).later hb4)
  have HB4 := Lib.hid ((HB3.out.alloc HB3.out.size (.cells #[.int .i64 regs, .slice a3 n c3] 32)).trans (hb4.mono (Nat.le_trans HB3.out.size (by simp))))
  have HU4 := Lib.hid hur.rd
  obtain ⟨_, vb', vc', e', hva', hvr, hvc, _⟩ := HV4.out.shape
  obtain ⟨rfl, rfl⟩ : vb' = vb ∧ vc' = vc := by
    have h0 := hva' (by omega)
    subst h0
    cases e'
    exact ⟨rfl, rfl⟩
  have HV5 := Lib.hid hvr.rd
  clear hb4 hu hur hua huc e' hva' hvr HV3
  go_wp2_with fail
  refine (same_any (some ⟨vb', 0, none⟩) (some ⟨ub, 0, none⟩) vb' 0 ub 0 (3 + 4 * n) (3 + 4 * n) vc' uc (packX regs n S) (packX regs n S) w4 (fun _ => rfl) (fun _ => rfl) HV5.out HU4.out (by omega) (by omega)).mono ?_
  rintro e w5 ⟨rfl, k5, rfl⟩
  have HB5 := Lib.hid (below_drewN HB4.out k5)
  have HV6 := Lib.hid (HV4.out.drewN k5)
  have HV7 := Lib.hid (HV5.out.drewN k5)
  rw [sameB_yes (fun i hi => rfl)]
  clear HB4 HV4 HV5 HU4
  go_wp2_with fail
  refine (num_any _ _).mono ?_
  rintro e w6 ⟨rfl, rfl⟩
  go_wp2_with fail
  refine (unpacks_any a' b' o' m c' x _ HA.out (HX.out.later HB5.out) (by omega) hc' (HL.out.later HB5.out)).mono ?_
  rintro e w7 ⟨rfl, hb7⟩
  have HB7 := Lib.hid (HB5.out.trans (hb7.mono HB5.out.size))
  have HV8 := Lib.hid (HV6.out.later hb7)
  have HV9 := Lib.hid (HV7.out.later hb7)
  clear hb7 HV6 HV7
  go_wp2_with fail
  refine (unpacks_any (some ⟨vb', 0, none⟩) vb' 0 (3 + 4 * n) vc' (packX regs n S) _ (fun _ => rfl) HV9.out (by omega) hvc (HL.out.later HB7.out)).mono ?_
  rintro e w8 ⟨rfl, hb8⟩
  have HB8 := Lib.hid (HB7.out.trans (hb8.mono HB7.out.size))
  have HV10 := Lib.hid (HV8.out.later hb8)
  have HX8 := Lib.hid (HX.out.later HB8.out)
  clear hb8 HV8 HV9 HB7
  have hs8 := HB8.out.size
  go_wp2_with (refine wpList_append_vc rfl (.tmp 64) (.tmp 65) 37 rfl w.heap.size 5 (.int .u8 0) 1 Tryd.underlying37 infoU8 rfl (.slice (some ⟨vb', 0, none⟩) (3 + 4 * n) vc') (3 + 4 * n) _ rfl HV10.out a' m c' b' o' (bs x) rfl HA.out HX8.out (fun _ _ => rfl) (by omega) (by omega) hs8 ?_; intro v9 w9 hv9 hu9; have HB9 := Lib.hid (Below.upd HB8.out hu9 (fun b e => (HV10.out.lt b e.symm).1) hs8); have HV11 := Lib.hid hv9; clear hv9 hu9)
  obtain ⟨za, zb, zc, rfl, hza, hzr, hzc, _⟩ := HV11.out.shape
  refine (unpacks_any za zb 0 (3 + 4 * n + m) zc (fun i => if i < 3 + 4 * n then packX regs n S i else x (i - (3 + 4 * n))) _ hza (hzr.rd.congr fun i hi => by by_cases e : i < 3 + 4 * n <;> simp [bs, e]) (by omega) hzc (HL.out.later HB9.out)).mono ?_
  rintro e w10 ⟨rfl, hb10⟩
  have HB10 := Lib.hid (HB9.out.trans (hb10.mono HB9.out.size))
  clear hb10 hza hzr hzc
  go_wp2_with fail
  go_ret
  exact ⟨rfl, HB10.out⟩
end Go.Proofs.YthaamnjpjkkolaaDoor
