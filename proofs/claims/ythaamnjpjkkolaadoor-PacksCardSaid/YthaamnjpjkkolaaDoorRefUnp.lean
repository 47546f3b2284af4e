import Derived.Test.YthaamnjpjkkolaaDoorUnp
/- The reference's Unpack. -/
namespace Go.Proofs.YthaamnjpjkkolaaDoor
open Go.RowKit Go.Proofs
set_option maxRecDepth 100000
set_option linter.unusedVariables false

def RefUnpIs (w : World) (m : Nat) (x : Nat → UInt8) (e : Ending) (w' : World) : Prop :=
  (UnpP m x ∧ (∃ v, e = .returned (.tuple #[.agg #[I ((x 0).toNat : Int), v], .bool true]) ∧ V4 w' w.heap.size 67 v (unN x) (fun i => rc (unS x i))) ∨
   ¬ UnpP m x ∧ ∃ (ua : Option Addr) (un uc : Nat), e = .returned (.tuple #[.agg #[I 0, .slice ua un uc], .bool false])) ∧ Below w.heap.size w w'

theorem refUnp_no {w w' : World} {m : Nat} {x : Nat → UInt8} {ua : Option Addr} {un uc : Nat} (h : ¬ UnpP m x) (hB : Below w.heap.size w w') : RefUnpIs w m x (.returned (.tuple #[.agg #[I 0, .slice ua un uc], .bool false])) w' := ⟨.inr ⟨h, _, _, _, rfl⟩, hB⟩

set_option maxHeartbeats 4000000 in
theorem refUnp_any (a : Option Addr) (b o m c : Nat) (x : Nat → UInt8) (w : World) (ha : 0 < m → a = some ⟨b, o, none⟩) (hx : Rd w b o m (bs x)) (hm : m ≤ 1000000) :
    Calls Tryd.prog 31 #[.slice a m c] w (RefUnpIs w m x) := by
  have HX := Lib.hid hx
  clear hx
  have HP0 := Lib.hid (Unpd.start 32 67 w (fun i => rc (unS x i)) 0)
  by_cases h3 : m < 3
  · go_enter Tryd.func31, Tryd.ntmps31
    go_wp2_with fail
    exact bodyPost_ret (v := .tuple #[.agg #[I 0, .slice none 0 0], .bool false]) (by simp [results, Tryd.results31, go_sem]) rfl (refUnp_no (fun h => by have := h.1; omega) HP0.out.below)
  obtain rfl := ha (by omega)
  have hbl : b < w.heap.size := HX.out.lt (by omega)
  have x0 : w.cell? ⟨b, o, none⟩ = some (B (x 0)) := HX.out 0 (by omega)
  have x1 : w.cell? ⟨b, o + 1, none⟩ = some (B (x 1)) := HX.out 1 (by omega)
  have x2 : w.cell? ⟨b, o + 2, none⟩ = some (B (x 2)) := HX.out 2 (by omega)
  obtain ⟨N, hN⟩ : ∃ N, N = unN x := ⟨_, rfl⟩
  have hN2 : N < 65536 := by rw [hN]; unfold unN; have h1 := (x 1).toNat_lt; have h2 := (x 2).toNat_lt; omega
  have hNN : ((x 1).toNat : Int) * 256 + ((x 2).toNat : Int) = (N : Int) := by rw [hN]; unfold unN; simp
  have b1 := (x 1).toNat_lt; have b2 := (x 2).toNat_lt; have b0 := (x 0).toNat_lt
  have HN := Lib.hid hN
  have HPn := Lib.hid (show ¬ (3 ≤ m ∧ (x 0).toNat ≤ 32 ∧ N ≤ 2000 ∧ m = 3 + 4 * N ∧ FitTo N (unS x)) → ¬ UnpP m x by rw [hN]; exact fun h => h)
  have hwr : IntKind.i64.wrap (((x 1).toNat : Int) * 256) = ((x 1).toNat : Int) * 256 := wraps_i64 _ (by omega) (by omega)
  have hws : IntKind.i64.wrap (((x 1).toNat : Int) * 256 + ((x 2).toNat : Int)) = (N : Int) := by rw [hNN]; exact wraps_i64 _ (by omega) (by omega)
  clear hN ha hNN
  by_cases r1 : 32 < (x 0).toNat
  · have d1 : decide ((32 : Int) < ((x 0).toNat : Int)) = true := decide_eq_true (by omega)
    go_enter Tryd.func31, Tryd.ntmps31
    go_wp2_with fail
    exact bodyPost_ret (v := .tuple #[.agg #[I 0, .slice none 0 0], .bool false]) (by simp [results, Tryd.results31, go_sem]) rfl (refUnp_no (HPn.out fun h => by omega) HP0.out.below)
  go_enter Tryd.func31, Tryd.ntmps31
  go_wp2_with fail
  go_quiet (fail)
  clear hwr hws
  by_cases r2 : 2000 < N
  · go_wp2_with fail
    exact bodyPost_ret (v := .tuple #[.agg #[I 0, .slice none 0 0], .bool false]) (by simp [results, Tryd.results31, go_sem]) rfl (refUnp_no (HPn.out fun h => by omega) (((below_drewN HP0.out.below nq).setCell (Nat.le_refl _) _).setCell (Nat.le_refl _) _))
  by_cases r3 : m = 3 + 4 * N
  case neg =>
    have hne : ((m : Int) != 3 + 4 * (N : Int)) = true := by simp; omega
    go_wp2_with fail
    exact bodyPost_ret (v := .tuple #[.agg #[I 0, .slice none 0 0], .bool false]) (by simp [results, Tryd.results31, go_sem]) rfl (refUnp_no (HPn.out fun h => by omega) (((below_drewN HP0.out.below nq).setCell (Nat.le_refl _) _).setCell (Nat.le_refl _) _))
  have hne : ((m : Int) != 3 + 4 * (N : Int)) = false := by simp; omega
  have r4 : m ≤ 3 + 4 * N := by omega
  have r5 : 3 + 4 * N ≤ m := by omega
  clear r3
  go_wp2_with fail
  go_loopg [6] N (fun g v wr => ∃ (k : Nat) (u : Value), g = N - k ∧ k ≤ N ∧ v = I k ∧ Unpd 32 67 w wr k (fun i => rc (unS x i)) 0 u ∧ FitTo k (unS x))
  case atStart => exact ⟨0, _, rfl, by omega, rfl, HP0.out.drewN nq, fun i hi => absurd hi (by omega)⟩
  case round =>
    obtain ⟨k, u, rfl, hk, rfl, hP, hft⟩ := hrel
    obtain ⟨ua, ub, uc, rfl, hsh, _⟩ := hP.vs.shape
    have HP := Lib.hid hP
    have HFT := Lib.hid hft
    have hsz : w.heap.size + 1 < wr.heap.size := hP.lt
    clear hP hft hsh x0 x1 x2 HP0
    by_cases hlt : k < N
    · have key : ∀ j, j < 4 → wr.cell? ⟨b, o + (3 + 4 * k + j), none⟩ = some (B (x (3 + 4 * k + j))) := fun j hj =>
        (HX.out.below HP.out.below (fun _ => hbl)) (3 + 4 * k + j) (by omega)
      obtain ⟨k0, hk0⟩ : ∃ z, z = x (3 + 4 * k) := ⟨_, rfl⟩
      obtain ⟨k1, hk1⟩ : ∃ z, z = x (3 + 4 * k + 1) := ⟨_, rfl⟩
      obtain ⟨k2, hk2⟩ : ∃ z, z = x (3 + 4 * k + 2) := ⟨_, rfl⟩
      obtain ⟨k3, hk3⟩ : ∃ z, z = x (3 + 4 * k + 3) := ⟨_, rfl⟩
      have y0 : wr.cell? ⟨b, o + (3 + 4 * k), none⟩ = some (B k0) := by rw [hk0]; exact key 0 (by omega)
      have y1 : wr.cell? ⟨b, o + (4 + 4 * k), none⟩ = some (B k1) := by rw [hk1, show 4 + 4 * k = 3 + 4 * k + 1 by omega]; exact key 1 (by omega)
      have y2 : wr.cell? ⟨b, o + (5 + 4 * k), none⟩ = some (B k2) := by rw [hk2, show 5 + 4 * k = 3 + 4 * k + 2 by omega]; exact key 2 (by omega)
      have y3 : wr.cell? ⟨b, o + (6 + 4 * k), none⟩ = some (B k3) := by rw [hk3, show 6 + 4 * k = 3 + 4 * k + 3 by omega]; exact key 3 (by omega)
      have HS := Lib.hid (show unS x k = ⟨k0, (k1.toNat : Int), (k2.toNat : Int), k3⟩ by rw [hk0, hk1, hk2, hk3]; rfl)
      clear key hk0 hk1 hk2 hk3
      have t1 := k1.toNat_lt; have t2 := k2.toNat_lt; have t0 := k0.toNat_lt
      have HP1 := Lib.hid ((HP.out.drewN 1).alloc (.cells #[I (k0.toNat : Int), I (k1.toNat : Int), I (k2.toNat : Int), B k3] 67))
      have HR := Lib.hid (Row.new4 (wr.drewN 1) (I (k0.toNat : Int)) (I (k1.toNat : Int)) (I (k2.toNat : Int)) (B k3) 67)
      go_wp2_with fail
      obtain ⟨wA, hA0, hA1, hAA⟩ := two_worlds wr.drew (wr.drew.alloc (.cells #[.int .i64 0, .int .i64 0, .int .i64 0, .int .u8 0] 67))
      have HA0 := Lib.hid hA0
      have HA1 := Lib.hid hA1
      have z0 := hAA (fun W => W.cell? ⟨b, o + (3 + 4 * k), none⟩ = some (B k0)) y0 (cell_alloc' (W := wr.drew) y0 _)
      have z1 := hAA (fun W => W.cell? ⟨b, o + (4 + 4 * k), none⟩ = some (B k1)) y1 (cell_alloc' (W := wr.drew) y1 _)
      have z2 := hAA (fun W => W.cell? ⟨b, o + (5 + 4 * k), none⟩ = some (B k2)) y2 (cell_alloc' (W := wr.drew) y2 _)
      have z3 := hAA (fun W => W.cell? ⟨b, o + (6 + 4 * k), none⟩ = some (B k3)) y3 (cell_alloc' (W := wr.drew) y3 _)
      have w0 : IntKind.i64.wrap (4 * (k : Int)) = 4 * (k : Int) := wraps_i64 _ (by omega) (by omega)
      have w3 : IntKind.i64.wrap (3 + 4 * (k : Int)) = 3 + 4 * (k : Int) := wraps_i64 _ (by omega) (by omega)
      have w4 : IntKind.i64.wrap (4 + 4 * (k : Int)) = 4 + 4 * (k : Int) := wraps_i64 _ (by omega) (by omega)
      have w5 : IntKind.i64.wrap (5 + 4 * (k : Int)) = 5 + 4 * (k : Int) := wraps_i64 _ (by omega) (by omega)
      have w6 : IntKind.i64.wrap (6 + 4 * (k : Int)) = 6 + 4 * (k : Int) := wraps_i64 _ (by omega) (by omega)
      have n3 : (3 + 4 * (k : Int)).toNat = 3 + 4 * k := by omega
      have n4 : (4 + 4 * (k : Int)).toNat = 4 + 4 * k := by omega
      have n5 : (5 + 4 * (k : Int)).toNat = 5 + 4 * k := by omega
      have n6 : (6 + 4 * (k : Int)).toNat = 6 + 4 * k := by omega
      have g3 : (0 : Int) ≤ 3 + 4 * (k : Int) := by omega
      have g4 : (0 : Int) ≤ 4 + 4 * (k : Int) := by omega
      have g5 : (0 : Int) ≤ 5 + 4 * (k : Int) := by omega
      have g6 : (0 : Int) ≤ 6 + 4 * (k : Int) := by omega
      have l3 : 3 + 4 * (k : Int) < (m : Int) := by omega
      have l4 : 4 + 4 * (k : Int) < (m : Int) := by omega
      have l5 : 5 + 4 * (k : Int) < (m : Int) := by omega
      have l6 : 6 + 4 * (k : Int) < (m : Int) := by omega
      clear hA0 hA1 hAA
      refine wp_region_held_quiet 28 (fun W => ∃ n, W = wA n) (by kernel_rfl) (by kernel_rfl) rfl ?hq ⟨0, HA0.out.symm⟩ ?_
      case hq => intro c a d v w h; cases d <;> exact h
      simp only [List.take_succ_cons, List.take_zero, List.drop_succ_cons, List.drop_zero]
      repeat (go_big_quiet_step (fail))
      refine wpQuiet_nil ?_
      refine wpOp_of (i := 28) rfl rfl ?_
      clear z0 z1 z2 z3 w0 w3 w4 w5 w6 n3 n4 n5 n6 g3 g4 g5 g6 l3 l4 l5 l6
      have HP2 := Lib.hid (show Unpd 32 67 w ((wr.alloc (.cells #[.int .i64 (k0.toNat : Int), .int .i64 (k1.toNat : Int), .int .i64 (k2.toNat : Int), .int .u8 (k3.toNat : Int)] 67)).drew) k (fun i => rc (unS x i)) 0 (.slice ua k uc) from HP1.out)
      have HR2 := Lib.hid (show Four ((wr.alloc (.cells #[.int .i64 (k0.toNat : Int), .int .i64 (k1.toNat : Int), .int .i64 (k2.toNat : Int), .int .u8 (k3.toNat : Int)] 67)).drew) wr.heap.size (I (k0.toNat : Int)) (I (k1.toNat : Int)) (I (k2.toNat : Int)) (B k3) from HR.out)
      clear y0 y1 y2 y3 HP1 HR
      go_simp
      refine ⟨⟨1, HA1.out.symm⟩, ?_⟩
      clear HA0 HA1
      go_upto_region 11 with fail
      have hs2 : w.heap.size + 1 < ((wr.alloc (.cells #[.int .i64 (k0.toNat : Int), .int .i64 (k1.toNat : Int), .int .i64 (k2.toNat : Int), .int .u8 (k3.toNat : Int)] 67)).drew).heap.size := HP2.out.lt
      generalize (wr.alloc (.cells #[.int .i64 (k0.toNat : Int), .int .i64 (k1.toNat : Int), .int .i64 (k2.toNat : Int), .int .u8 (k3.toNat : Int)] 67)).drew = W2 at *
      have e0 := HR2.out.c0; have e1 := HR2.out.c1; have e2 := HR2.out.c2; have e3 := HR2.out.c3
      by_cases c2 : 2 < k0.toNat
      · have d2 : decide ((2 : Int) < (k0.toNat : Int)) = true := decide_eq_true (by omega)
        have HNF := Lib.hid (show ¬ Fit ⟨k0, (k1.toNat : Int), (k2.toNat : Int), k3⟩ from fun h => by unfold Fit at h; dsimp only at h; omega)
        have r0 := HP2.out.res.c0; have r1 := HP2.out.res.c1; have r2 := HP2.out.res.f0; have r3 := HP2.out.res.f1; have o0 := HP2.out.out.c0; have o1 := HP2.out.out.c1
        have hB3 := Lib.hid ((HP2.out.below.setCell (p := ⟨w.heap.size, 0, none⟩) (Nat.le_refl _) (.int .i64 0)).setCell (p := ⟨w.heap.size, 1, none⟩) (Nat.le_refl _) (.slice ua k uc))
        go_wp2_with fail
        have t0 : (W2.setCell ⟨w.heap.size, 0, none⟩ (.int .i64 0)).cell? ⟨w.heap.size, 0, none⟩ = some (.int .i64 0) := cell_set_same r0 _
        have t1 : ((W2.setCell ⟨w.heap.size, 0, none⟩ (.int .i64 0)).setCell ⟨w.heap.size, 1, none⟩ (.slice ua k uc)).cell? ⟨w.heap.size, 1, none⟩ = some (.slice ua k uc) := cell_set_same (by rw [cell_set_off (by omega)]; exact r1) _
        clear r0 r1 r2 r3 o0 o1 e0 e1 e2 e3
        exact bodyPost_ret (v := .tuple #[.agg #[I 0, .slice ua k uc], .bool false]) (by simp [results, Tryd.results31, go_sem, t0, t1]) rfl (refUnp_no (HPn.out fun h => HNF.out (HS.out ▸ h.2.2.2.2 k hlt)) hB3.out)
      have d2 : decide ((2 : Int) < (k0.toNat : Int)) = false := decide_eq_false (by omega)
      by_cases c1 : k0.toNat = 1
      · have t1 := nfalse (a := (k0.toNat : Int)) (b := 1) (by omega)
        have HYF := Lib.hid (show Fit ⟨k0, (k1.toNat : Int), (k2.toNat : Int), k3⟩ by unfold Fit; dsimp only; omega)
        have q1 := HP2.out.out.c1
        clear c1
        go_wp2_with (refine wpList_append_four rfl (.tmp 88) (.tmp 90) 30 rfl w.heap.size 67 (.agg #[.int .i64 0, .int .i64 0, .int .i64 0, .int .u8 0]) 32 Tryd.underlying30 infoRS rfl (.slice ua k uc) k _ rfl HP2.out.vs (rc ⟨k0, (k1.toNat : Int), (k2.toNat : Int), k3⟩) 67 rfl (fun j hj => by rcases (show j = 0 ∨ j = 1 ∨ j = 2 ∨ j = 3 by omega) with rfl | rfl | rfl | rfl <;> rfl) (by omega) (by omega) (by omega) ?_; intro v3 w3 hv3 hu3; have HN := Lib.hid (HP2.out.next (by decide) (HS.out ▸ hv3) hu3); obtain ⟨va3, vb3, vc3, rfl, _⟩ := hv3.shape; have n1 : w3.cell? ⟨w.heap.size + 1, 1, none⟩ = some (.slice ua k uc) := HN.out.2.1; have n2 : w3.frozen? ⟨w.heap.size + 1, 1, none⟩ = false := HN.out.2.2; clear hv3 hu3)
        go_roundg (N - (k + 1))
        case measure => omega
        case rel => exact ⟨k + 1, _, rfl, by omega, by go_num, HN.out.1, HFT.out.next (HS.out ▸ HYF.out)⟩
      have d1 := ntrue (a := (k0.toNat : Int)) (b := 1) (by omega)
      by_cases c3 : k3.toNat = 0
      · have t1 := nfalse (a := (k3.toNat : Int)) (b := 0) (by omega)
        have HYF := Lib.hid (show Fit ⟨k0, (k1.toNat : Int), (k2.toNat : Int), k3⟩ by unfold Fit; dsimp only; omega)
        have q1 := HP2.out.out.c1
        clear c3
        go_wp2_with (refine wpList_append_four rfl (.tmp 88) (.tmp 90) 30 rfl w.heap.size 67 (.agg #[.int .i64 0, .int .i64 0, .int .i64 0, .int .u8 0]) 32 Tryd.underlying30 infoRS rfl (.slice ua k uc) k _ rfl HP2.out.vs (rc ⟨k0, (k1.toNat : Int), (k2.toNat : Int), k3⟩) 67 rfl (fun j hj => by rcases (show j = 0 ∨ j = 1 ∨ j = 2 ∨ j = 3 by omega) with rfl | rfl | rfl | rfl <;> rfl) (by omega) (by omega) (by omega) ?_; intro v3 w3 hv3 hu3; have HN := Lib.hid (HP2.out.next (by decide) (HS.out ▸ hv3) hu3); obtain ⟨va3, vb3, vc3, rfl, _⟩ := hv3.shape; have n1 : w3.cell? ⟨w.heap.size + 1, 1, none⟩ = some (.slice ua k uc) := HN.out.2.1; have n2 : w3.frozen? ⟨w.heap.size + 1, 1, none⟩ = false := HN.out.2.2; clear hv3 hu3)
        go_roundg (N - (k + 1))
        case measure => omega
        case rel => exact ⟨k + 1, _, rfl, by omega, by go_num, HN.out.1, HFT.out.next (HS.out ▸ HYF.out)⟩
      · have d3 := ntrue (a := (k3.toNat : Int)) (b := 0) (by omega)
        have HNF := Lib.hid (show ¬ Fit ⟨k0, (k1.toNat : Int), (k2.toNat : Int), k3⟩ from fun h => by unfold Fit at h; dsimp only at h; omega)
        have r0 := HP2.out.res.c0; have r1 := HP2.out.res.c1; have r2 := HP2.out.res.f0; have r3 := HP2.out.res.f1; have o0 := HP2.out.out.c0; have o1 := HP2.out.out.c1
        have hB3 := Lib.hid ((HP2.out.below.setCell (p := ⟨w.heap.size, 0, none⟩) (Nat.le_refl _) (.int .i64 0)).setCell (p := ⟨w.heap.size, 1, none⟩) (Nat.le_refl _) (.slice ua k uc))
        go_wp2_with fail
        have t0 : (W2.setCell ⟨w.heap.size, 0, none⟩ (.int .i64 0)).cell? ⟨w.heap.size, 0, none⟩ = some (.int .i64 0) := cell_set_same r0 _
        have t1 : ((W2.setCell ⟨w.heap.size, 0, none⟩ (.int .i64 0)).setCell ⟨w.heap.size, 1, none⟩ (.slice ua k uc)).cell? ⟨w.heap.size, 1, none⟩ = some (.slice ua k uc) := cell_set_same (by rw [cell_set_off (by omega)]; exact r1) _
        clear r0 r1 r2 r3 o0 o1 e0 e1 e2 e3
        exact bodyPost_ret (v := .tuple #[.agg #[I 0, .slice ua k uc], .bool false]) (by simp [results, Tryd.results31, go_sem, t0, t1]) rfl (refUnp_no (HPn.out fun h => HNF.out (HS.out ▸ h.2.2.2.2 k hlt)) hB3.out)
    · obtain rfl : N = k := by omega
      have y0 : wr.cell? ⟨b, o, none⟩ = some (B (x 0)) := (HX.out.below HP.out.below (fun _ => hbl)) 0 (by omega)
      have o0 := HP.out.out.c0; have o1 := HP.out.out.c1; have o2 := HP.out.out.f0
      have HU1 := Lib.hid ((Upd.refl (fun b => b = w.heap.size + 1) wr).setCell (a := ⟨w.heap.size + 1, 0, none⟩) (fun _ => rfl) (.int .i64 ((x 0).toNat : Int)))
      have HV1 := Lib.hid (HP.out.vs.kept HU1.out fun t ht => HP.out.vs.block_ne HP.out.out.kd (by decide) t ht)
      have HR1 := Lib.hid (HP.out.res.upd HU1.out (by omega))
      have HO1 := Lib.hid (HP.out.out.set0 (.int .i64 ((x 0).toNat : Int)))
      have HB1 := Lib.hid (Below.upd HP.out.below HU1.out (fun b e => by omega) (by omega))
      have hs1 : (wr.setCell ⟨w.heap.size + 1, 0, none⟩ (.int .i64 ((x 0).toNat : Int))).heap.size = wr.heap.size := Deep.nblk_setCell _ _ _
      go_upto_region 15 with fail
      generalize wr.setCell ⟨w.heap.size + 1, 0, none⟩ (.int .i64 ((x 0).toNat : Int)) = W2 at *
      clear o0 o1 o2 y0
      have r0 := HR1.out.c0; have r1 := HR1.out.c1; have r2 := HR1.out.f0; have r3 := HR1.out.f1; have o0 := HO1.out.c0; have o1 := HO1.out.c1
      have HU := Lib.hid (((Upd.refl (fun b => b = w.heap.size) W2).setCell (a := ⟨w.heap.size, 0, none⟩) (fun _ => rfl) (.int .i64 ((x 0).toNat : Int))).setCell (a := ⟨w.heap.size, 1, none⟩) (fun _ => rfl) (.slice ua N uc))
      have HV := Lib.hid (HV1.out.kept HU.out fun t ht => HV1.out.block_ne HR1.out.kd (by decide) t ht)
      go_wp2_with fail
      have t0 : (W2.setCell ⟨w.heap.size, 0, none⟩ (.int .i64 ((x 0).toNat : Int))).cell? ⟨w.heap.size, 0, none⟩ = some (.int .i64 ((x 0).toNat : Int)) := cell_set_same r0 _
      have t1 : ((W2.setCell ⟨w.heap.size, 0, none⟩ (.int .i64 ((x 0).toNat : Int))).setCell ⟨w.heap.size, 1, none⟩ (.slice ua N uc)).cell? ⟨w.heap.size, 1, none⟩ = some (.slice ua N uc) := cell_set_same (by rw [cell_set_off (by omega)]; exact r1) _
      clear r0 r1 r2 r3 o0 o1
      refine bodyPost_ret (v := .tuple #[.agg #[I ((x 0).toNat : Int), .slice ua N uc], .bool true]) (by simp [results, Tryd.results31, go_sem, t0, t1]) rfl ⟨.inl ⟨?_, _, rfl, ?_⟩, Below.upd HB1.out HU.out (fun b e => by omega) (by omega)⟩
      · have h1 := HN.out
        have h2 := HFT.out
        rw [h1] at h2
        exact ⟨by omega, by omega, by omega, by omega, h2⟩
      · have := HV.out
        rw [← HN.out]
        exact this
end Go.Proofs.YthaamnjpjkkolaaDoor
