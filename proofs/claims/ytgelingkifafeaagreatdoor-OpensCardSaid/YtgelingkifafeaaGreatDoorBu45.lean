import Derived.Test.YtgelingkifafeaaGreatDoorBu44
/- archive.Open: what it refuses. -/
namespace Go.Proofs.YtgelingkifafeaaGreatDoor
open Go Go.RowKit Go.Proofs Lin
set_option maxRecDepth 100000
set_option linter.unusedVariables false

set_option maxHeartbeats 4000000 in
theorem opnF_drives (w : World) (l : ArrL) (A : Arr) (D L G c : Nat) (H : ArrAt w l A) (hR : Right D L G) (hc : c ≤ 64) (hn : A.n ≠ D + L + G) :
    Calls Tryz.prog 18 #[.pointer (some ⟨l.ab, 0, none⟩), PV D L G, .agg #[I c]] w (OpnBad w 5) := by
  have HH := Lib.hid H
  have HRt := Lib.hid hR
  have d1 := hR.d1
  have b1 : decide ((c : Int) < 0) = false := decide_eq_false (by omega)
  have b2 : decide ((64 : Int) < (c : Int)) = false := decide_eq_false (by omega)
  have HBx := Lib.hid (show Below w.heap.size w ((w.alloc (.cells #[I D, I L, I G] 23)).alloc (.cells #[I c] 33)) from ((Below.refl _ w).alloc (Nat.le_refl _) _).alloc (by simp) _)
  have HPx := Lib.hid (show Row ((w.alloc (.cells #[I D, I L, I G] 23)).alloc (.cells #[I c] 33)) w.heap.size 0 3 (pcells D L G) from by
    refine ((Row.lit w #[I D, I L, I G] 23).later ((Below.refl _ _).alloc (Nat.le_refl _) _)).congr fun i hi => ?_
    match i, hi with | 0, _ | 1, _ | 2, _ => rfl)
  have HCx := Lib.hid (Row.lit (w.alloc (.cells #[I D, I L, I G] 23)) #[I c] 33)
  have hzx : (w.alloc (.cells #[I D, I L, I G] 23)).heap.size = w.heap.size + 1 := World.size_alloc ..
  rw [hzx] at HCx
  clear H hR
  go_enter Tryz.func18, Tryz.ntmps18
  go_upto_region 1 with fail
  generalize (w.alloc (.cells #[.int .i64 D, .int .i64 L, .int .i64 G] 23)).alloc (.cells #[.int .i64 c] 33) = w1 at *
  have HK1 := Lib.hid (HH.out.later HBx.out)
  have x0 : w1.cell? ⟨w.heap.size, 0, none⟩ = some (I D) := HPx.out.cell 0 (by omega)
  have x1 : w1.cell? ⟨w.heap.size, 1, none⟩ = some (I L) := HPx.out.cell 1 (by omega)
  have x2 : w1.cell? ⟨w.heap.size, 2, none⟩ = some (I G) := HPx.out.cell 2 (by omega)
  clear hzx
  go_upto_region 2 with (go_at_call 26; refine (new_ok D L G HRt.out w1).mono ?_; rintro e w2 ⟨cb, cv, β, rfl, hC2⟩)
  have HK2 := Lib.hid (HK1.out.later hC2.below)
  have HB2 := Lib.hid (HBx.out.trans (hC2.below.mono HBx.out.size))
  have HP2 := Lib.hid (HPx.out.later hC2.below)
  have HX2 := Lib.hid (HCx.out.later hC2.below)
  have HC2 := Lib.hid (Cd.of hC2)
  have HOw := Lib.hid (show w1.heap.size ≤ cb from hC2.own)
  clear hC2 x0 x1 x2 HK1 HBx HPx HCx
  have y0 : w2.cell? ⟨w.heap.size + 1, 0, none⟩ = some (I c) := HX2.out.cell 0 (by simp)
  go_upto_region 6 with fail
  obtain ⟨N, hN⟩ : ∃ N, N = D + L + G := ⟨_, rfl⟩
  have eN : (D : Int) + L + G = (N : Int) := by omega
  have hnn : ((A.n : Int) == (N : Int)) = false := by simp; omega
  have hnn2 : ((A.n : Int) != (N : Int)) = true := by simp; omega
  obtain ⟨M, hM⟩ : ∃ M, M = A.m := ⟨_, rfl⟩
  have hD7 := HRt.out.sum
  obtain ⟨ι1, hι1, wA, hwA, HWA⟩ := later_worlds w2
  have HBA := Lib.hid hwA
  have HDr := Lib.hid (fun n => show Calls Tryz.prog 27 #[.pointer (some ⟨l.ab, 0, none⟩)] (wA n) fun e w' => e = .returned (I A.n) ∧ w' = wA n from drives_any (wA n) l A (HK2.out.later (hwA n)))
  have HSh := Lib.hid (fun V => show Calls Tryz.prog 15 #[PV D L G] V fun e w' => e = .returned (I N) ∧ Below V.heap.size V w' from by
    have := shards_any D L G (by omega) V; rwa [eN] at this)
  have x0 : ∀ n, (wA n).cell? ⟨w.heap.size, 0, none⟩ = some (I D) := fun n => (HP2.out.later (hwA n)).cell 0 (by omega)
  have x1 : ∀ n, (wA n).cell? ⟨w.heap.size, 1, none⟩ = some (I L) := fun n => (HP2.out.later (hwA n)).cell 1 (by omega)
  have x2 : ∀ n, (wA n).cell? ⟨w.heap.size, 2, none⟩ = some (I G) := fun n => (HP2.out.later (hwA n)).cell 2 (by omega)
  have HNx := Lib.hid (fun n V (hb : Below (wA n).heap.size (wA n) V) => HWA.out V ((hwA n).trans (hb.mono (hwA n).size)))
  have HNe := Lib.hid hN
  clear hwA eN hN hM hc d1 hn
  refine wp_region_I (fun _ V => ∃ n, V = wA n) mixed0 (by kernel_rfl) (HWA.out _ (below_drew' w2)) ?_
  refine wpI_reads (C := fun V => ∃ n, V = wA n) 1 (by decide) rfl (fun L V h => h) (fun j _ _ L V h => h) ?_
  simp only [List.drop_zero, List.take_succ_cons, List.take_zero]
  repeat (go_big_quiet_step (fail))
  refine wpQuiet_nil ?_
  simp only [Nat.zero_add]
  refine wpI_eff rfl rfl (I A.n) ?_ ?_
  · intro L' V hL _ hS
    obtain ⟨n, rfl⟩ := hS
    go_wp2_with fail
    refine (HDr.out n).mono ?_
    rintro e w3 ⟨rfl, rfl⟩
    go_wp2_with fail
    exact ⟨rfl, n, rfl⟩
  simp only [Act.put, List.setIfInBounds_toArray, List.set_cons_succ, List.set_cons_zero]
  refine wpI_reads (C := fun V => ∃ n, V = wA n) 1 (by decide) rfl (fun L V h => h) (fun j _ _ L V h => h) ?_
  simp only [List.drop_succ_cons, List.drop_zero, List.take_succ_cons, List.take_zero]
  repeat (go_big_quiet_step (fail))
  refine wpQuiet_nil ?_
  refine wpI_eff rfl rfl (I N) ?_ ?_
  · intro L' V hL _ hS
    obtain ⟨n, rfl⟩ := hS
    go_wp2_with fail
    refine (HSh.out _).mono ?_
    rintro e w3 ⟨rfl, hb⟩
    go_wp2_with fail
    exact ⟨rfl, HNx.out n _ hb⟩
  simp only [Act.put, List.setIfInBounds_toArray, List.set_cons_succ, List.set_cons_zero]
  refine wpI_reads (C := fun V => ∃ n, V = wA n) 3 (by decide) rfl (fun L V h => h) (fun j _ _ L V h => h) ?_
  simp only [List.drop_succ_cons, List.drop_zero, List.take_succ_cons, List.take_zero]
  repeat (go_big_quiet_step (fail))
  refine wpQuiet_nil ?_
  refine wpI_skip rfl rfl (fun L V h => h) ?_
  simp only [Act.put, List.setIfInBounds_toArray, List.set_cons_succ, List.set_cons_zero]
  refine wpI_reads (C := fun V => ∃ n, V = wA n) 2 (by decide) rfl (fun L V h => h) (fun j _ _ L V h => h) ?_
  simp only [List.drop_succ_cons, List.drop_zero, List.take_succ_cons, List.take_zero]
  repeat (go_big_quiet_step (fail))
  refine wpQuiet_nil ?_
  refine wpI_end (by decide) ?_
  intro L' w3 _ hS
  have HB23 : Hid (Below w2.heap.size w2 w3) := by obtain ⟨n, rfl⟩ := hS; exact Lib.hid (HBA.out n)
  clear hS HBA HDr HSh x0 x1 x2 HNx y0 HWA
  have HB3 := Lib.hid (HB2.out.trans (HB23.out.mono HB2.out.size))
  go_wp2_with fail
  go_ret2
  exact ⟨rfl, HB3.out⟩

set_option maxHeartbeats 4000000 in
theorem opnF_blocks (w : World) (l : ArrL) (A : Arr) (D L G c : Nat) (H : ArrAt w l A) (hR : Right D L G) (hc : c ≤ 64) (hn : A.n = D + L + G) (hm : A.m < 8) :
    Calls Tryz.prog 18 #[.pointer (some ⟨l.ab, 0, none⟩), PV D L G, .agg #[I c]] w (OpnBad w 5) := by
  have HH := Lib.hid H
  have HRt := Lib.hid hR
  have Hn := Lib.hid hn
  have Hm := Lib.hid hm
  have d1 := hR.d1
  have b1 : decide ((c : Int) < 0) = false := decide_eq_false (by omega)
  have b2 : decide ((64 : Int) < (c : Int)) = false := decide_eq_false (by omega)
  have HBx := Lib.hid (show Below w.heap.size w ((w.alloc (.cells #[I D, I L, I G] 23)).alloc (.cells #[I c] 33)) from ((Below.refl _ w).alloc (Nat.le_refl _) _).alloc (by simp) _)
  have HPx := Lib.hid (show Row ((w.alloc (.cells #[I D, I L, I G] 23)).alloc (.cells #[I c] 33)) w.heap.size 0 3 (pcells D L G) from by
    refine ((Row.lit w #[I D, I L, I G] 23).later ((Below.refl _ _).alloc (Nat.le_refl _) _)).congr fun i hi => ?_
    match i, hi with | 0, _ | 1, _ | 2, _ => rfl)
  have HCx := Lib.hid (Row.lit (w.alloc (.cells #[I D, I L, I G] 23)) #[I c] 33)
  have hzx : (w.alloc (.cells #[I D, I L, I G] 23)).heap.size = w.heap.size + 1 := World.size_alloc ..
  rw [hzx] at HCx
  clear H hR
  go_enter Tryz.func18, Tryz.ntmps18
  go_upto_region 1 with fail
  generalize (w.alloc (.cells #[.int .i64 D, .int .i64 L, .int .i64 G] 23)).alloc (.cells #[.int .i64 c] 33) = w1 at *
  have HK1 := Lib.hid (HH.out.later HBx.out)
  have x0 : w1.cell? ⟨w.heap.size, 0, none⟩ = some (I D) := HPx.out.cell 0 (by omega)
  have x1 : w1.cell? ⟨w.heap.size, 1, none⟩ = some (I L) := HPx.out.cell 1 (by omega)
  have x2 : w1.cell? ⟨w.heap.size, 2, none⟩ = some (I G) := HPx.out.cell 2 (by omega)
  clear hzx
  go_upto_region 2 with (go_at_call 26; refine (new_ok D L G HRt.out w1).mono ?_; rintro e w2 ⟨cb, cv, β, rfl, hC2⟩)
  have HK2 := Lib.hid (HK1.out.later hC2.below)
  have HB2 := Lib.hid (HBx.out.trans (hC2.below.mono HBx.out.size))
  have HP2 := Lib.hid (HPx.out.later hC2.below)
  have HX2 := Lib.hid (HCx.out.later hC2.below)
  have HC2 := Lib.hid (Cd.of hC2)
  have HOw := Lib.hid (show w1.heap.size ≤ cb from hC2.own)
  clear hC2 x0 x1 x2 HK1 HBx HPx HCx
  have y0 : w2.cell? ⟨w.heap.size + 1, 0, none⟩ = some (I c) := HX2.out.cell 0 (by simp)
  go_upto_region 6 with fail
  obtain ⟨N, hN⟩ : ∃ N, N = D + L + G := ⟨_, rfl⟩
  have eN : (D : Int) + L + G = (N : Int) := by omega
  have hnn : ((N : Int) == (N : Int)) = true := by simp
  obtain ⟨M, hM⟩ : ∃ M, M = A.m := ⟨_, rfl⟩
  have hm8 : decide ((M : Int) < 8) = true := decide_eq_true (by have := Hm.out; omega)
  have hD7 := HRt.out.sum
  obtain ⟨ι1, hι1, wA, hwA, HWA⟩ := later_worlds w2
  have HBA := Lib.hid hwA
  have HDr := Lib.hid (fun n => show Calls Tryz.prog 27 #[.pointer (some ⟨l.ab, 0, none⟩)] (wA n) fun e w' => e = .returned (I N) ∧ w' = wA n from by
    have := drives_any (wA n) l A (HK2.out.later (hwA n)); rwa [Hn.out, ← hN] at this)
  have HBl := Lib.hid (fun n => show Calls Tryz.prog 28 #[.pointer (some ⟨l.ab, 0, none⟩)] (wA n) fun e w' => e = .returned (I M) ∧ w' = wA n from by
    have := blocks_any (wA n) l A (HK2.out.later (hwA n)); rwa [if_neg (by rw [Hn.out]; omega), ← hM] at this)
  have HSh := Lib.hid (fun V => show Calls Tryz.prog 15 #[PV D L G] V fun e w' => e = .returned (I N) ∧ Below V.heap.size V w' from by
    have := shards_any D L G (by omega) V; rwa [eN] at this)
  have x0 : ∀ n, (wA n).cell? ⟨w.heap.size, 0, none⟩ = some (I D) := fun n => (HP2.out.later (hwA n)).cell 0 (by omega)
  have x1 : ∀ n, (wA n).cell? ⟨w.heap.size, 1, none⟩ = some (I L) := fun n => (HP2.out.later (hwA n)).cell 1 (by omega)
  have x2 : ∀ n, (wA n).cell? ⟨w.heap.size, 2, none⟩ = some (I G) := fun n => (HP2.out.later (hwA n)).cell 2 (by omega)
  have HNx := Lib.hid (fun n V (hb : Below (wA n).heap.size (wA n) V) => HWA.out V ((hwA n).trans (hb.mono (hwA n).size)))
  have HNe := Lib.hid hN
  clear hwA eN hN hM hc d1
  refine wp_region_I (fun _ V => ∃ n, V = wA n) mixed0 (by kernel_rfl) (HWA.out _ (below_drew' w2)) ?_
  refine wpI_reads (C := fun V => ∃ n, V = wA n) 1 (by decide) rfl (fun L V h => h) (fun j _ _ L V h => h) ?_
  simp only [List.drop_zero, List.take_succ_cons, List.take_zero]
  repeat (go_big_quiet_step (fail))
  refine wpQuiet_nil ?_
  simp only [Nat.zero_add]
  refine wpI_eff rfl rfl (I N) ?_ ?_
  · intro L' V hL _ hS
    obtain ⟨n, rfl⟩ := hS
    go_wp2_with fail
    refine (HDr.out n).mono ?_
    rintro e w3 ⟨rfl, rfl⟩
    go_wp2_with fail
    exact ⟨rfl, n, rfl⟩
  simp only [Act.put, List.setIfInBounds_toArray, List.set_cons_succ, List.set_cons_zero]
  refine wpI_reads (C := fun V => ∃ n, V = wA n) 1 (by decide) rfl (fun L V h => h) (fun j _ _ L V h => h) ?_
  simp only [List.drop_succ_cons, List.drop_zero, List.take_succ_cons, List.take_zero]
  repeat (go_big_quiet_step (fail))
  refine wpQuiet_nil ?_
  refine wpI_eff rfl rfl (I N) ?_ ?_
  · intro L' V hL _ hS
    obtain ⟨n, rfl⟩ := hS
    go_wp2_with fail
    refine (HSh.out _).mono ?_
    rintro e w3 ⟨rfl, hb⟩
    go_wp2_with fail
    exact ⟨rfl, HNx.out n _ hb⟩
  simp only [Act.put, List.setIfInBounds_toArray, List.set_cons_succ, List.set_cons_zero]
  refine wpI_reads (C := fun V => ∃ n, V = wA n) 3 (by decide) rfl (fun L V h => h) (fun j _ _ L V h => h) ?_
  simp only [List.drop_succ_cons, List.drop_zero, List.take_succ_cons, List.take_zero]
  repeat (go_big_quiet_step (fail))
  refine wpQuiet_nil ?_
  refine wpI_effG rfl rfl (I M) ?_ ?_
  · intro L' V hL _ hS
    obtain ⟨n, rfl⟩ := hS
    go_wp2_with fail
    refine (HBl.out n).mono ?_
    rintro e w3 ⟨rfl, rfl⟩
    go_wp2_with fail
    exact ⟨rfl, n, rfl⟩
  simp only [Act.put, List.setIfInBounds_toArray, List.set_cons_succ, List.set_cons_zero]
  refine wpI_reads (C := fun V => ∃ n, V = wA n) 2 (by decide) rfl (fun L V h => h) (fun j _ _ L V h => h) ?_
  simp only [List.drop_succ_cons, List.drop_zero, List.take_succ_cons, List.take_zero]
  repeat (go_big_quiet_step (fail))
  refine wpQuiet_nil ?_
  refine wpI_end (by decide) ?_
  intro L' w3 _ hS
  have HB23 : Hid (Below w2.heap.size w2 w3) := by obtain ⟨n, rfl⟩ := hS; exact Lib.hid (HBA.out n)
  clear hS HBA HDr HBl HSh x0 x1 x2 HNx y0 HWA
  have HB3 := Lib.hid (HB2.out.trans (HB23.out.mono HB2.out.size))
  go_wp2_with fail
  go_ret2
  exact ⟨rfl, HB3.out⟩

end Go.Proofs.YtgelingkifafeaaGreatDoor
