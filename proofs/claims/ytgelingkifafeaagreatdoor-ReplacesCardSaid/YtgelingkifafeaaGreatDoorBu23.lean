import Derived.Test.YtgelingkifafeaaGreatDoorBu22
import Derived.Test.YtgelingkifafeaaGreatDoorBu15
/- frame.Open. -/
namespace Go.Proofs.YtgelingkifafeaaGreatDoor
open Go Go.RowKit Go.Proofs
set_option maxRecDepth 100000
set_option linter.unusedVariables false

def frm0 : Frm.Frm := ⟨0, 0, 0, fun _ => 0⟩
/-- What is read so far. -/
def frmN (x : Nat → UInt8) (k : Nat) : Frm.Frm := ⟨x 0, (x 1).toNat, Frm.seqOf x k, fun i => x (i + 20)⟩

/-- The frame that is built of some parts, the number left out. -/
theorem build_frame (k : UInt8) (s : Nat) (d : Nat → UInt8) (w : World) : (Instr.build 130 #[(0, B k), (1, I s), (3, av 44 (rb d))]).run Tryz.prog w = .ok (fv ⟨k, s, 0, d⟩) w := by kernel_rfl
/-- The frame of a stripe or a head. -/
theorem build_frame4 (k : UInt8) (s q : Nat) (d : Nat → UInt8) (w : World) : (Instr.build 130 #[(0, B k), (1, I s), (2, U64 q), (3, av 44 (rb d))]).run Tryz.prog w = .ok (fv ⟨k, s, q, d⟩) w := by kernel_rfl
theorem at_44 (b off : Nat) (c : Nat) (w : World) : (Instr.arrayAt 127 (.slice (some ⟨b, off, none⟩) 44 c)).run Tryz.prog w = .ok (.pointer (some ⟨b, off, none⟩)) w := by kernel_rfl
theorem at_4 (b off : Nat) (c : Nat) (w : World) : (Instr.arrayAt 211 (.slice (some ⟨b, off, none⟩) 4 c)).run Tryz.prog w = .ok (.pointer (some ⟨b, off, none⟩)) w := by kernel_rfl

theorem seq_or (q b : Nat) (hb : b < 256) : bits BinOp.or IntKind.u64 (IntKind.u64.wrap ((q : Int) * 256)) (IntKind.u64.wrap (b : Int)) = (((q * 256 + b) % 2 ^ 64 : Nat) : Int) := by
  have w1 : IntKind.u64.wrap ((q : Int) * 256) = ((256 * (q % 2 ^ 56) : Nat) : Int) := by show ((q : Int) * 256) % 2 ^ 64 = _; omega
  have w2 : IntKind.u64.wrap (b : Int) = (b : Int) := by show (b : Int) % 2 ^ 64 = _; omega
  rw [w1, w2, (bits_nat .u64 64 (by decide) (fun n h₀ h₁ => Int.emod_eq_of_lt h₀ h₁) (256 * (q % 2 ^ 56)) b (by omega) (by omega)).2]
  have h := Nat.two_pow_add_eq_or_of_lt (i := 8) (b := b) (by omega) (q % 2 ^ 56)
  rw [show (256 : Nat) = 2 ^ 8 from rfl, ← h]
  omega
theorem fc_one (f : Frm.Frm) (i : Nat) : (fc f i).oneCell' = true := by
  unfold fc
  split
  · rfl
  · split
    · rfl
    · split <;> rfl
set_option maxHeartbeats 400000 in
theorem open_any (x : Nat → UInt8) (w : World) : Calls Tryz.prog 66 #[av 64 (rb x)] w fun e w' => e = .returned (.tuple #[fv (Frm.read x), .bool (Frm.okB x)]) ∧ Below w.heap.size w w' := by
  have HB := Lib.hid (((Below.refl w.heap.size w).alloc (Nat.le_refl _) (.cells (bc 64 (rb x)) 170)).alloc (by simp) (.cells (bc 47 (fc frm0)) 130))
  have HX := Lib.hid ((Row.box w 64 (rb x) 170).alloc (.cells (bc 47 (fc frm0)) 130))
  have HV := Lib.hid (show Row ((w.alloc (.cells (bc 64 (rb x)) 170)).alloc (.cells (bc 47 (fc frm0)) 130)) (w.heap.size + 1) 0 47 (fc frm0) from by have h := Row.box (w.alloc (.cells (bc 64 (rb x)) 170)) 47 (fc frm0) 130; rwa [World.size_alloc] at h)
  have hz : w.heap.size + 1 + 1 ≤ ((w.alloc (.cells (bc 64 (rb x)) 170)).alloc (.cells (bc 47 (fc frm0)) 130)).heap.size := by simp
  go_enter Tryz.func66, Tryz.ntmps66
  go_upto_region 1 with fail
  change Code.wp _ _ _ _ ((w.alloc (.cells (bc 64 (rb x)) 170)).alloc (.cells (bc 47 (fc frm0)) 130))
  generalize (w.alloc (.cells (bc 64 (rb x)) 170)).alloc (.cells (bc 47 (fc frm0)) 130) = W0 at *
  obtain ⟨Wd, hWd⟩ : ∃ V, V = W0.drew := ⟨_, rfl⟩
  replace HX := Lib.hid (show Row Wd _ _ _ _ from hWd ▸ HX.out.drew)
  replace HV := Lib.hid (show Row Wd _ _ _ _ from hWd ▸ HV.out.drew)
  replace HB := Lib.hid (show Below w.heap.size w Wd from hWd ▸ (HB.out.trans (show Below w.heap.size W0 W0.drew from ⟨rfl, rfl, rfl, Nat.le_refl _, fun _ _ => rfl⟩)))
  replace hz : w.heap.size + 1 + 1 ≤ Wd.heap.size := hWd ▸ hz
  obtain ⟨ι, hne, wA, hAB, HWA⟩ := later_worlds Wd
  have y0 : ∀ n, (wA n).cell? ⟨w.heap.size, 0, none⟩ = some (B (x 0)) := fun n => (HX.out.later (hAB n)).cell 0 (by omega)
  have y1 : ∀ n, (wA n).cell? ⟨w.heap.size, 1, none⟩ = some (B (x 1)) := fun n => (HX.out.later (hAB n)).cell 1 (by omega)
  have HYD := Lib.hid (fun n => show Rd (wA n) w.heap.size 20 44 (fun i => B (x (i + 20))) from fun i hi => by have h := (HX.out.later (hAB n)).cell (20 + i) (by omega); rw [Nat.zero_add, Nat.add_comm 20 i] at h; rw [Nat.add_comm 20 i]; exact h)
  have t1 := (x 1).toNat_lt
  refine wp_region_held_quiet 9 (fun V => ∃ n, V = wA n) mixed0 (by kernel_rfl) rfl (fun c a d v w h => by cases d <;> exact h) (HWA.out _ (by rw [← hWd]; exact Below.refl _ _)) ?_
  rw [← hWd]
  clear hWd
  have hat := at_44 w.heap.size 20 44
  simp only [List.take_succ_cons, List.take_zero, List.drop_succ_cons, List.drop_zero]
  have HBL := Lib.hid (build_frame (x 0) (x 1).toNat (fun i => x (i + 20)))
  repeat (first | (refine wpQuiet_load_rd (n := 44) (f := rb fun i => x (i + 20)) rfl 127 (.tmp 12) rfl rfl ?_ Tryz.underlying127 rfl a127 ?_; (rintro _ ⟨n, rfl⟩; exact HYD.out n); simp only [Act.put, List.setIfInBounds_toArray, List.set_cons_succ, List.set_cons_zero]) | go_big_quiet_step (fail))
  refine wpQuiet_build rfl 130 [(0, .tmp 7), (1, .tmp 10), (3, .tmp 13)] rfl _ rfl _ HBL.out ?_
  simp only [Act.put, List.setIfInBounds_toArray, List.set_cons_succ, List.set_cons_zero]
  refine wpQuiet_nil ?_
  refine wpOp_of (i := 9) rfl rfl ?_
  clear y0 y1 HYD
  have HX1 := Lib.hid (HX.out.alloc (.cells (bc 47 (fc frm0)) 130))
  have HV1 := Lib.hid (HV.out.alloc (.cells (bc 47 (fc frm0)) 130))
  have HF1 := Lib.hid (Row.box Wd 47 (fc frm0) 130)
  have hb1 : Below Wd.heap.size Wd (Wd.alloc (.cells (bc 47 (fc frm0)) 130)) := (Below.refl _ Wd).alloc (Nat.le_refl _) _
  have HB1 := Lib.hid (HB.out.trans (hb1.mono HB.out.size))
  have HBB := Lib.hid hb1
  clear hb1
  go_simp
  refine ⟨HWA.out _ HBB.out, ?_⟩
  change wpList _ _ _ _ _ (Wd.alloc (.cells (bc 47 (fc frm0)) 130))
  have hz1 : (Wd.alloc (.cells (bc 47 (fc frm0)) 130)).heap.size = Wd.heap.size + 1 := World.size_alloc ..
  clear HBB HWA
  generalize Wd.alloc (.cells (bc 47 (fc frm0)) 130) = W1 at *
  go_upto_region 2 with (refine wpList_store_all (g := fc ⟨x 0, (x 1).toNat, 0, fun i => x (i + 20)⟩) rfl 130 (.tmp 4) (.tmp 14) rfl rfl rfl HF1.out a130 (fun i _ => fc_one _ i) ?_; intro w2 hu2 hs2 hk2 hr2; simp only [Act.put])
  have HX2 := Lib.hid (HX1.out.upd hu2 (fun _ => by omega))
  have HV2 := Lib.hid (HV1.out.upd hu2 (fun _ => by omega))
  have HB2 := Lib.hid (Below.upd HB1.out hu2 (fun _ h => by omega) HB1.out.size)
  have HF2 := Lib.hid (show Row w2 Wd.heap.size 0 47 (fc (frmN x 0)) from hr2)
  have hz2 : w2.heap.size = Wd.heap.size + 1 := hs2.trans hz1
  clear hu2 hs2 hk2 hr2 HX1 HV1 HF1 HB1 HBL hat HX HV HB hz1
  generalize Wd.heap.size = fb at *
  go_wp2_with fail
  go_loopg [15] 8 (fun g i wr => ∃ k : Nat, g = 8 - k ∧ k ≤ 8 ∧ i = I k ∧ Upd (· = fb) w2 wr ∧ wr.heap.size = w2.heap.size ∧ Row wr fb 0 47 (fc (frmN x k)))
  case atStart => exact ⟨0, rfl, by omega, rfl, Upd.refl _ _, rfl, HF2.out⟩
  case round =>
    obtain ⟨k, rfl, hk, rfl, hu, hsz, hr⟩ := hrel
    have HU := Lib.hid hu
    have HR := Lib.hid hr
    have HX3 := Lib.hid (HX2.out.upd hu (fun _ => by omega))
    have HV3 := Lib.hid (HV2.out.upd hu (fun _ => by omega))
    have HB3 := Lib.hid (Below.upd HB2.out hu (fun _ h => by omega) HB2.out.size)
    clear hu hr
    by_cases hlt : k < 8
    · have c2 : wr.drew.cell? ⟨fb, 2, none⟩ = some (U64 (Frm.seqOf x k)) := HR.out.drew.cell 2 (by omega)
      have f2 : wr.drew.frozen? ⟨fb, 2, none⟩ = false := HR.out.drew.free 2 (by omega)
      have x0 : wr.drew.cell? ⟨w.heap.size, 2 + k, none⟩ = some (B (x (2 + k))) := by have h := HX3.out.drew.cell (2 + k) (by omega); rwa [Nat.zero_add] at h
      go_upto_region 5 with fail
      refine wp_region_held_script [([0, 1, 2, 3, 4, 5, 6, 7, 8, 9], [])] 10 (fun V => V = wr.drew) mixed0 (by kernel_rfl) (by kernel_rfl) (fun c a d v w h => by cases d <;> exact h) rfl ?_
      simp only [scriptW]
      simp only [pick, List.filterMap_cons, List.filterMap_nil, List.getElem?_toArray, List.getElem?_cons_succ, List.getElem?_cons_zero]
      change wpQuiet _ _ _ _ (_ :: _ :: _ :: _ :: _ :: _ :: _ :: _ :: _ :: _ :: []) _
      repeat (go_big_quiet_step (fail))
      refine wpQuiet_nil ?_
      simp only [chainM, scriptW]
      simp only [List.drop_succ_cons, List.drop_zero]
      go_wp2_with fail
      have t2 := (x (2 + k)).toNat_lt
      rw [seq_or _ _ (by omega)]
      go_roundg (8 - (k + 1))
      case measure => omega
      case rel => exact ⟨k + 1, rfl, by omega, by go_num, (HU.out.at1 2 _).drew, by show (World.setCell _ _ _).heap.size = _; rw [World.size_setCell]; exact hsz, by
        have h := (HR.out.set (i := 2) (by omega) (U64 (Frm.seqOf x (k + 1)))).drew
        rw [Nat.zero_add] at h
        refine h.congr fun i hi => ?_
        by_cases he : i = 2
        · subst he; rfl
        · rw [if_neg he]; unfold fc frmN; dsimp only; by_cases h0 : i = 0
          · rw [if_pos h0, if_pos h0]
          · rw [if_neg h0, if_neg h0]; by_cases h1 : i = 1
            · rw [if_pos h1, if_pos h1]
            · rw [if_neg h1, if_neg h1, if_neg he, if_neg he]⟩
    · obtain rfl : k = 8 := by omega
      replace HR := Lib.hid (show Row wr fb 0 47 (fc (Frm.read x)) from HR.out)
      go_upto_region 7 with fail
      obtain ⟨we, hwe⟩ : ∃ V, V = wr.drew := ⟨_, rfl⟩
      replace HX3 := Lib.hid (show Row we _ _ _ _ from hwe ▸ HX3.out.drew)
      replace HV3 := Lib.hid (show Row we _ _ _ _ from hwe ▸ HV3.out.drew)
      replace HR := Lib.hid (show Row we _ _ _ _ from hwe ▸ HR.out.drew)
      replace HB3 := Lib.hid (show Below w.heap.size w we from hwe ▸ (HB3.out.trans (show Below w.heap.size wr wr.drew from ⟨rfl, rfl, rfl, Nat.le_refl _, fun _ _ => rfl⟩)))
      have hz3 : w.heap.size + 1 + 1 ≤ we.heap.size := by have := HX3.out.lt (by omega); have := HV3.out.lt (by omega); omega
      obtain ⟨κ, hnk, wB, hBB, HWB⟩ := upd_worlds (· = w.heap.size + 1) we
      have HL1 := Lib.hid (fun n => (HR.out.upd (hBB n) (fun _ => by omega)).rd)
      have HL2 := Lib.hid (fun n => (HX3.out.upd (hBB n) (fun _ => by omega)).rd)
      have HL3 := Lib.hid (fun n => show Rd (wB n) w.heap.size 10 4 (rb fun i => x (10 + i)) from fun i hi => by have h := HL2.out n (10 + i) (by omega); rwa [Nat.zero_add] at h)
      have k0 : ∀ n, (wB n).cell? ⟨fb, 0, none⟩ = some (B (x 0)) := fun n => HL1.out n 0 (by omega)
      have hat4 := at_4 w.heap.size 10 54
      have hi5' : (Tryz.prog.info? 5).isSome = true := by kernel_rfl
      obtain ⟨i5, hi5⟩ := Option.isSome_iff_exists.1 hi5'
      have hc5 : Tryz.prog.cellsOf 5 = 1 := by kernel_rfl
      have hm5 : Tryz.prog.eqGuardType Tryz.prog.depth 211 = false := by kernel_rfl
      have HEQ := Lib.hid (And.intro hi5 (And.intro hc5 hm5))
      obtain ⟨q, hq⟩ : ∃ q, q = (List.range 4).all fun j => x (10 + j) == Crc.sumB x j := ⟨_, rfl⟩
      have hok : Frm.okB x = (q && decide (0 < (x 0).toNat)) := by
        rw [hq]
        unfold Frm.okB
        congr 1
        have h0 : x 0 ≠ 0 ↔ 0 < (x 0).toNat := by
          rw [Ne, ← UInt8.toNat_inj]; simp; omega
        simp only [h0]
      have HOK := Lib.hid hok
      have HQ := Lib.hid hq
      clear hok hq hi5 hc5 hm5 hi5'
      obtain ⟨S, hS⟩ : ∃ S : (Nat → Bool) → World → Prop, ∀ L V, S L V ↔ (Upd (· = w.heap.size + 1) we V ∧ Row V (w.heap.size + 1) 0 47 (if L 12 then fc (Frm.read x) else fc frm0)) := ⟨_, fun _ _ => Iff.rfl⟩
      have HS := Lib.hid hS
      have HSn := Lib.hid (fun j (hj : j ≠ 12) L V (h : S L V) => show S (setL j L) V from (hS _ _).2 (by have h := (hS _ _).1 h; rwa [setL_ne hj]))
      refine wp_region_I S mixed0 (by kernel_rfl) (by rw [← hwe]; exact (hS _ _).2 ⟨Upd.refl _ _, HV3.out⟩) ?_
      clear hwe hS
      refine wpI_reads (C := fun V => ∃ n, V = wB n) 5 (by decide) rfl (fun L V h => HWB.out V ((HS.out _ _).1 h).1) (fun j h1 h2 => HSn.out j (by omega)) ?_
      simp only [List.drop_zero, List.take_succ_cons, List.take_zero]
      repeat (first | (refine wpQuiet_load_rd (f := fc (Frm.read x)) rfl 130 (.tmp 4) rfl rfl ?_ Tryz.underlying130 rfl a130 ?_; (rintro _ ⟨n, rfl⟩; exact HL1.out n); simp only [Act.put, List.setIfInBounds_toArray, List.set_cons_succ, List.set_cons_zero]) | (refine wpQuiet_load_rd (f := rb fun i => x (10 + i)) rfl 211 (.tmp 31) rfl rfl ?_ Tryz.underlying211 rfl a211 ?_; (rintro _ ⟨n, rfl⟩; exact HL3.out n); simp only [Act.put, List.setIfInBounds_toArray, List.set_cons_succ, List.set_cons_zero]) | (refine wpQuiet_load_rd (f := rb x) rfl 170 (.tmp 1) rfl rfl ?_ Tryz.underlying170 rfl a170 ?_; (rintro _ ⟨n, rfl⟩; exact HL2.out n); simp only [Act.put, List.setIfInBounds_toArray, List.set_cons_succ, List.set_cons_zero]) | go_big_quiet_step (fail))
      refine wpQuiet_nil ?_
      simp only [Nat.zero_add]
      refine wpI_eff rfl rfl (av 4 (rb (Crc.sumB x))) ?_ ?_
      · intro L V hL _ hS
        go_wp2_with fail
        refine (sum_any x _).mono ?_
        rintro e w3 ⟨rfl, hb⟩
        go_wp2_with fail
        obtain ⟨h1, h2⟩ := (HS.out _ _).1 hS
        exact ⟨rfl, (HS.out (setL 5 L) _).2 ⟨h1.trans (Upd.of_below hb) (fun _ h _ => h.elim), by rw [setL_ne (by omega)]; exact h2.later hb⟩⟩
      simp only [Act.put, List.setIfInBounds_toArray, List.set_cons_succ, List.set_cons_zero]
      refine wpI_reads (C := fun V => ∃ n, V = wB n) 6 (by decide) rfl (fun L V h => HWB.out V ((HS.out _ _).1 h).1) (fun j h1 h2 => HSn.out j (by omega)) ?_
      simp only [List.drop_succ_cons, List.drop_zero, List.take_succ_cons, List.take_zero]
      refine wpQuiet_eq_bytes rfl 211 211 (.tmp 32) (.tmp 34) rfl (fun i => x (10 + i)) (Crc.sumB x) rfl rfl Tryz.underlying211 HEQ.out.1 HEQ.out.2.1 aggU8 Tryz.underlying5 HEQ.out.2.2 ?_
      simp only [Act.put, List.setIfInBounds_toArray, List.set_cons_succ, List.set_cons_zero]
      rw [← HQ.out]
      clear HQ
      cases q
      all_goals
        repeat (go_big_quiet_step (fail))
        refine wpQuiet_nil ?_
        refine wpI_eff rfl rfl undef ?_ ?_
        · intro L V hL _ hS
          obtain ⟨h1, h2⟩ := (HS.out _ _).1 hS
          rw [hL] at h2
          have H1 := Lib.hid h1
          have H2 := Lib.hid h2
          clear h1 h2 hS hL
          go_wp2_with (refine wpList_store_all (g := fc (Frm.read x)) rfl 130 (.tmp 2) (.tmp 29) rfl rfl rfl H2.out a130 (fun i _ => fc_one _ i) ?_; intro w6 hu6 hs6 hk6 hr6; simp only [Act.put])
          exact (HS.out (setL 12 L) _).2 ⟨H1.out.trans hu6 (fun _ h _ => h), by rw [setL_eq]; exact hr6⟩
        simp only [Act.put, List.setIfInBounds_toArray, List.set_cons_succ, List.set_cons_zero]
        refine wpI_reads (C := fun V => ∃ n, V = wB n) 1 (by decide) rfl (fun L V h => HWB.out V ((HS.out _ _).1 h).1) (fun j h1 h2 => HSn.out j (by omega)) ?_
        simp only [List.drop_succ_cons, List.drop_zero, List.take_succ_cons, List.take_zero]
        repeat (go_big_quiet_step (fail))
        refine wpQuiet_nil ?_
        refine wpI_end (by decide) ?_
        intro L V hall hS
        obtain ⟨h1, h2⟩ := (HS.out _ _).1 hS
        rw [hall 12 (by decide)] at h2
        have H1 := Lib.hid h1
        have H2 := Lib.hid h2
        clear h1 h2 hS hall
        go_wp2_with fail
        refine bodyPost_ret (v := .tuple #[fv (Frm.read x), .bool (Frm.okB x)]) (by rw [HOK.out]; exact results_cell_slot Tryz.results66 (b := w.heap.size + 1) rfl (show Row V (w.heap.size + 1) 0 47 (fc (Frm.read x)) from by simpa using H2.out).rd Tryz.underlying130 rfl a130) rfl ⟨rfl, Below.upd HB3.out H1.out (fun _ h => by omega) HB3.out.size⟩
end Go.Proofs.YtgelingkifafeaaGreatDoor
