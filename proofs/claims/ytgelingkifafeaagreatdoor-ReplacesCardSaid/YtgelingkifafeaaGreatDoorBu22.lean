import Derived.Test.YtgelingkifafeaaGreatDoorBu19
import Derived.Test.YtgelingkifafeaaGreatDoorBu17
/- frame.Block, frame.Open. -/
namespace Go.Proofs.YtgelingkifafeaaGreatDoor
open Go Go.RowKit Go.Proofs
set_option maxRecDepth 100000
set_option linter.unusedVariables false

abbrev U64 (n : Nat) : Value := .int .u64 (n : Int)
/-- The cells of a frame. -/
def fc (f : Frm.Frm) : Nat → Value := fun i => if i = 0 then B f.kind else if i = 1 then I f.shard else if i = 2 then U64 f.seq else B (f.data (i - 3))
abbrev fv (f : Frm.Frm) : Value := av 47 (fc f)

theorem a130 : (Tryz.prog.info? 130).map (·.size) = some 47 := by kernel_rfl
theorem a127 : (Tryz.prog.info? 127).map (·.size) = some 44 := by kernel_rfl
theorem zBlock : ∀ W : World, (zeroValue 170).run Tryz.prog W = .ok (av 64 (rb fun _ => 0)) W := fun W => by kernel_rfl

def bareN (f : Frm.Frm) (k : Nat) : Nat → UInt8 := fun i => if i < 2 + k then Frm.bare f i else 0

theorem Row.zeros (w : World) (t : TypeId) (n : Nat) : Row (w.alloc (.cells (bc n (rb fun _ => 0)) t)) w.heap.size 0 n (rb fun _ => 0) := Row.box w n _ t

theorem fc3 (f : Frm.Frm) (i : Nat) : fc f (3 + i) = B (f.data i) := by unfold fc; rw [if_neg (by omega), if_neg (by omega), if_neg (by omega), Nat.add_sub_cancel_left]

theorem fc0 (f : Frm.Frm) : fc f 0 = B f.kind := rfl
theorem fc1 (f : Frm.Frm) : fc f 1 = I f.shard := rfl
theorem fc2 (f : Frm.Frm) : fc f 2 = U64 f.seq := rfl
theorem B_mod (n : Nat) : Value.int .u8 ((n : Int) % 256) = B (UInt8.ofNat n) := by simp [B]

set_option maxHeartbeats 400000 in
theorem block_any (f : Frm.Frm) (hs : f.shard < 256) (hq : f.seq < 2 ^ 64) (w : World) : Calls Tryz.prog 57 #[fv f] w fun e w' => e = .returned (av 64 (rb (Frm.blk f))) ∧ Below w.heap.size w w' := by
  have HB := Lib.hid ((((Below.refl w.heap.size w).alloc (Nat.le_refl _) (.cells (bc 47 (fc f)) 130)).alloc (by simp) (.cells (bc 64 zc) 170)).alloc (by simp; omega) (.cells (bc 64 zc) 170))
  have HF := Lib.hid (((Row.box w 47 (fc f) 130).alloc (.cells (bc 64 zc) 170)).alloc (.cells (bc 64 zc) 170))
  have HV := Lib.hid (show Row (((w.alloc (.cells (bc 47 (fc f)) 130)).alloc (.cells (bc 64 zc) 170)).alloc (.cells (bc 64 zc) 170)) (w.heap.size + 1) 0 64 zc from by have h := (Row.box (w.alloc (.cells (bc 47 (fc f)) 130)) 64 zc 170).alloc (.cells (bc 64 zc) 170); rwa [World.size_alloc] at h)
  have HX := Lib.hid (show Row (((w.alloc (.cells (bc 47 (fc f)) 130)).alloc (.cells (bc 64 zc) 170)).alloc (.cells (bc 64 zc) 170)) (w.heap.size + 1 + 1) 0 64 (rb fun _ => 0) from by have h := (Row.box ((w.alloc (.cells (bc 47 (fc f)) 130)).alloc (.cells (bc 64 zc) 170)) 64 zc 170); rw [World.size_alloc, World.size_alloc] at h; exact h)
  go_enter Tryz.func57, Tryz.ntmps57
  go_upto_region 2 with fail
  change Code.wp _ _ _ _ (((w.alloc (.cells (bc 47 (fc f)) 130)).alloc (.cells (bc 64 zc) 170)).alloc (.cells (bc 64 zc) 170))
  generalize ((w.alloc (.cells (bc 47 (fc f)) 130)).alloc (.cells (bc 64 zc) 170)).alloc (.cells (bc 64 zc) 170) = W0 at *
  have c0 : W0.cell? ⟨w.heap.size, 0, none⟩ = some (B f.kind) := HF.out.cell 0 (by omega)
  have c1 : W0.cell? ⟨w.heap.size, 1, none⟩ = some (I f.shard) := HF.out.cell 1 (by omega)
  have x0 : W0.cell? ⟨w.heap.size + 1 + 1, 0, none⟩ = some (.int .u8 0) := HX.out.cell 0 (by omega)
  have x1 : W0.cell? ⟨w.heap.size + 1 + 1, 1, none⟩ = some (.int .u8 0) := HX.out.cell 1 (by omega)
  have f0 : W0.frozen? ⟨w.heap.size + 1 + 1, 0, none⟩ = false := HX.out.free 0 (by omega)
  have f1 : W0.frozen? ⟨w.heap.size + 1 + 1, 1, none⟩ = false := HX.out.free 1 (by omega)
  go_upto_region 3 with fail
  have e1 : Value.int .u8 (f.shard : Int) = B (UInt8.ofNat f.shard) := by simp [B]; omega
  rw [e1]
  have HX1 := Lib.hid (show Row ((W0.setCell ⟨w.heap.size + 1 + 1, 0, none⟩ (.int .u8 (f.kind.toNat : Int))).setCell ⟨w.heap.size + 1 + 1, 1, none⟩ (B (UInt8.ofNat f.shard))) (w.heap.size + 1 + 1) 0 64 (rb (bareN f 0)) from by
    have h := (HX.out.set (i := 0) (by omega) (B f.kind)).set (i := 1) (by omega) (B (UInt8.ofNat f.shard))
    rw [Nat.zero_add, Nat.zero_add] at h
    refine h.congr fun i hi => ?_
    unfold bareN Frm.bare rb
    match i, hi with
    | 0, _ => simp
    | 1, _ => simp
    | i + 2, _ => simp [show ¬ i + 2 < 2 by omega])
  have hu0 : Upd (· = w.heap.size + 1 + 1) W0 ((W0.setCell ⟨w.heap.size + 1 + 1, 0, none⟩ (.int .u8 (f.kind.toNat : Int))).setCell ⟨w.heap.size + 1 + 1, 1, none⟩ (B (UInt8.ofNat f.shard))) := ((Upd.refl (· = w.heap.size + 1 + 1) W0).at1 0 _).at1 1 _
  have HF1 := Lib.hid (HF.out.upd hu0 (fun _ => by omega))
  have HV1 := Lib.hid (HV.out.upd hu0 (fun _ => by omega))
  have HB1 := Lib.hid (Below.upd HB.out hu0 (fun _ h => by omega) HB.out.size)
  clear hu0 e1 HX HF HV HB c0 c1 x0 x1 f0 f1
  generalize (W0.setCell ⟨w.heap.size + 1 + 1, 0, none⟩ (.int .u8 (f.kind.toNat : Int))).setCell ⟨w.heap.size + 1 + 1, 1, none⟩ (B (UInt8.ofNat f.shard)) = W1 at *
  go_wp2_with fail
  go_loopg [13] 8 (fun g i wr => ∃ k : Nat, g = 8 - k ∧ k ≤ 8 ∧ i = I k ∧ Upd (· = w.heap.size + 1 + 1) W1 wr ∧ wr.heap.size = W1.heap.size ∧ Row wr (w.heap.size + 1 + 1) 0 64 (rb (bareN f k)))
  case atStart => exact ⟨0, rfl, by omega, rfl, Upd.refl _ _, rfl, HX1.out⟩
  case round =>
    obtain ⟨k, rfl, hk, rfl, hu, hsz, hr⟩ := hrel
    have HU := Lib.hid hu
    have HR := Lib.hid hr
    have HF2 := Lib.hid (HF1.out.upd hu (fun _ => by omega))
    have HV2 := Lib.hid (HV1.out.upd hu (fun _ => by omega))
    have HB2 := Lib.hid (Below.upd HB1.out hu (fun _ h => by omega) HB1.out.size)
    clear hu hr
    by_cases hlt : k < 8
    · have c2 : wr.cell? ⟨w.heap.size, 2, none⟩ = some (U64 f.seq) := HF2.out.cell 2 (by omega)
      have x0 : wr.cell? ⟨w.heap.size + 1 + 1, 2 + k, none⟩ = some (rb (bareN f k) (2 + k)) := by have h := HR.out.cell (2 + k) (by omega); rwa [Nat.zero_add] at h
      have f0 : wr.frozen? ⟨w.heap.size + 1 + 1, 2 + k, none⟩ = false := by have h := HR.out.free (2 + k) (by omega); rwa [Nat.zero_add] at h
      go_wp2_with fail
      have e1 : Value.int .u8 ((f.seq : Int) / 2 ^ (56 - 8 * k) % 256) = B (UInt8.ofNat (f.seq / 2 ^ (56 - 8 * k))) := by simp [B]
      rw [e1]
      go_roundg (8 - (k + 1))
      case measure => omega
      case rel => exact ⟨k + 1, rfl, by omega, by go_num, HU.out.at1 _ _, by rw [World.size_setCell]; exact hsz, by
        have h := HR.out.set (i := 2 + k) (by omega) (B (UInt8.ofNat (f.seq / 2 ^ (56 - 8 * k))))
        rw [Nat.zero_add] at h
        refine h.congr fun i hi => ?_
        unfold bareN Frm.bare rb
        by_cases he : i = 2 + k
        · subst he; simp [show ¬ 2 + k = 0 by omega, show ¬ 2 + k = 1 by omega, show 2 + k < 10 by omega, show 2 + k < 2 + (k + 1) by omega]
        · rw [if_neg he]; dsimp only; by_cases h2 : i < 2 + k
          · simp only [h2, show i < 2 + (k + 1) by omega, if_true]
          · simp only [h2, show ¬ i < 2 + (k + 1) by omega, if_false]⟩
    · obtain rfl : k = 8 := by omega
      go_upto_region 8 with fail
      have HWA := Lib.hid (fun V (h : V = wr.drew) => h)
      refine wp_region_held_script [([0, 1, 2], [])] 3 (fun V => V = wr.drew) mixed0 (by kernel_rfl) (by kernel_rfl) (fun c a d v w h => by cases d <;> exact h) rfl ?_
      simp only [scriptW]
      simp only [pick, List.filterMap_cons, List.filterMap_nil, List.getElem?_toArray, List.getElem?_cons_succ, List.getElem?_cons_zero]
      change wpQuiet _ _ _ _ (_ :: _ :: _ :: []) _
      repeat (go_big_quiet_step (fail))
      refine wpQuiet_nil ?_
      simp only [chainM, scriptW]
      simp only [List.drop_succ_cons, List.drop_zero]
      go_upto_region 9 with (refine wpList_copy_in rfl (.tmp 27) (.tmp 29) 49 49 rfl 5 Tryz.underlying49 sizeU8 _ 44 44 44 44 (w.heap.size + 1 + 1) 20 rfl rfl 44 64 w.heap.size 3 _ (fun i => B (f.data i)) rfl (by omega) HR.out.drew (fun i hi => by have h := HF2.out.cell (3 + i) (by omega); rw [Nat.zero_add, fc3] at h; exact h) (fun _ => rfl) (fun _ _ => rfl) ?_; intro w2 hu2 hs2 hk2 hr2)
      have HR3 := Lib.hid (hr2.congr (g := rb (Frm.bare f)) fun i hi => by
        unfold bareN Frm.bare rb
        by_cases h2 : 20 ≤ i
        · rw [if_pos (by omega)]
          dsimp only
          rw [if_neg (by omega), if_neg (by omega), if_neg (by omega), if_neg (by omega)]
        · rw [if_neg (by omega)]
          dsimp only
          by_cases h3 : i < 2 + 8
          · rw [if_pos h3]
          · rw [if_neg h3, if_neg (by omega), if_neg (by omega), if_neg (by omega), if_pos (by omega)])
      have HV3 := Lib.hid ((HV2.out.drewN 1).upd hu2 (fun _ => by omega))
      have HB3 := Lib.hid (Below.upd (HB2.out.trans (show Below w.heap.size wr wr.drew from ⟨rfl, rfl, rfl, Nat.le_refl _, fun _ _ => rfl⟩)) hu2 (fun _ h => by omega) HB2.out.size)
      have hs3 : w2.heap.size = W1.heap.size := by rw [hs2]; exact hsz
      have hs4 : w.heap.size + 1 + 1 < w2.heap.size := HR3.out.lt (by omega)
      clear hu2 hs2 hk2 hr2 HR HF2 HV2 HB2 HWA HU
      go_upto_region 10 with (first | (refine wpList_load_rd rfl 170 (.tmp 3) rfl rfl HR3.out.rd Tryz.underlying170 rfl a170 ?_) | (go_at_call 79; refine (sum_any (Frm.bare f) _).mono ?_; rintro e w3 ⟨rfl, hb⟩) | (refine wpList_store_all (g := rb (Crc.sumB (Frm.bare f))) rfl 211 (.tmp 5) (.tmp 32) rfl rfl rfl (row_new4 w3 211) a211 (fun _ _ => rfl) ?_; intro w4 hu4 hs4' hk4 hr4; simp only [Act.put]))
      have hb4 : Below w2.heap.size w2 w4 := Below.upd (hb.alloc hb.size _) hu4 (fun _ h => h ▸ hb.size) (by have := hb.size; simp; omega)
      have hz3 := hb.size
      have hz4 := hb4.size
      have HR4 := Lib.hid (HR3.out.later hb4)
      have HV4 := Lib.hid (HV3.out.later hb4)
      have HB4 := Lib.hid (HB3.out.trans (hb4.mono (by omega)))
      have HS4 := Lib.hid hr4
      clear hb4 hu4 hs4' hk4 hr4 hb HR3 HV3 HB3
      refine wp_region_held_script [([0, 1], [])] 2 (fun V => V = w4.drew) mixed0 (by kernel_rfl) (by kernel_rfl) (fun c a d v w h => by cases d <;> exact h) rfl ?_
      simp only [scriptW]
      simp only [pick, List.filterMap_cons, List.filterMap_nil, List.getElem?_toArray, List.getElem?_cons_succ, List.getElem?_cons_zero]
      change wpQuiet _ _ _ _ (_ :: _ :: []) _
      repeat (go_big_quiet_step (fail))
      refine wpQuiet_nil ?_
      simp only [chainM, scriptW]
      simp only [List.drop_succ_cons, List.drop_zero]
      go_upto_region 11 with (refine wpList_copy_in rfl (.tmp 33) (.tmp 34) 49 49 rfl 5 Tryz.underlying49 sizeU8 _ 54 54 4 4 (w.heap.size + 1 + 1) 10 rfl rfl 4 64 w3.heap.size 0 _ (rb (Crc.sumB (Frm.bare f))) rfl (by omega) HR4.out.drew (HS4.out.rd.drewN 1) (fun _ => rfl) (fun _ _ => rfl) ?_; intro w5 hu5 hs5 hk5 hr5)
      have HR5 := Lib.hid (hr5.congr (g := rb (Frm.blk f)) fun i hi => by
        unfold Frm.blk rb
        by_cases h2 : 10 ≤ i ∧ i < 10 + 4
        · rw [if_pos h2]; dsimp only; rw [if_pos (by omega)]
        · rw [if_neg h2]; dsimp only; rw [if_neg (by omega)])
      have HV5 := Lib.hid ((HV4.out.drewN 1).upd hu5 (fun _ => by omega))
      have HB5 := Lib.hid (Below.upd (HB4.out.trans (show Below w.heap.size w4 w4.drew from ⟨rfl, rfl, rfl, Nat.le_refl _, fun _ _ => rfl⟩)) hu5 (fun _ h => by omega) HB4.out.size)
      have hz5 : w.heap.size + 1 + 1 < w5.heap.size := HR5.out.lt (by omega)
      clear hu5 hs5 hk5 hr5 HR4 HV4 HB4 HS4
      go_wp2_with (first | (refine wpList_load_rd rfl 170 (.tmp 3) rfl rfl HR5.out.rd Tryz.underlying170 rfl a170 ?_) | (refine wpList_store_all (g := rb (Frm.blk f)) rfl 170 (.tmp 2) (.tmp 36) rfl rfl rfl HV5.out a170 (fun _ _ => rfl) ?_; intro w6 hu6 hs6 hk6 hr6))
      exact bodyPost_ret (v := av 64 (rb (Frm.blk f))) (results_cell_rd Tryz.results57 rfl hr6.rd Tryz.underlying170 rfl a170) rfl ⟨rfl, Below.upd HB5.out hu6 (fun _ h => by omega) HB5.out.size⟩
end Go.Proofs.YtgelingkifafeaaGreatDoor
