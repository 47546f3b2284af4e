import Derived.Test.YtgelingkifafeaaGreatDoorBu20
import Derived.Test.YtgelingkifafeaaGreatDoorBu37
import Derived.Test.YtgelingkifafeaaGreatDoorBu25
import Derived.Test.YtgelingkifafeaaGreatDoorBu15
/- NewArray. -/
namespace Go.Proofs.YtgelingkifafeaaGreatDoor
open Go Go.RowKit Go.Proofs
set_option maxRecDepth 100000
set_option linter.unusedVariables false

theorem Vz.row {w : World} {base e z n : Nat} {v : Value} {f : Nat → Nat → Value} (h : Vz w base e z v n f) (hn : 0 < n) : ∃ b c, v = .slice (some ⟨b, 0, none⟩) n c ∧ Row w b 0 (n * z) (elz z f) ∧ Kd w b e ∧ n ≤ c ∧ c ≤ 9223372036854775807 ∧ base ≤ b := by
  obtain ⟨hl, h⟩ := h
  rcases h with ⟨_, rfl⟩ | ⟨g, cap, cur, rfl, hb, hg, hn', hm, hs, ht⟩
  · omega
  · refine ⟨g, cap, rfl, ⟨fun i hi => ?_, fun i hi => ?_⟩, ⟨cur, hg⟩, hn', by unfold maxLen at hm; omega, hb⟩
    · simp only [World.cell?, hg, Nat.zero_add]
      have : cur.toList[i]? = some (elz z f i) := by
        have e2 : (cur.toList.take (n * z))[i]? = ((List.range (n * z)).map (elz z f))[i]? := by rw [ht]
        rw [List.getElem?_take, if_pos (by omega)] at e2
        rw [e2]; simp [hi]
      simpa using this
    · simp [World.frozen?, hg]

theorem Row.madeZ (w : World) (Z : Array Value) (n z : Nat) (x : Value) (t : TypeId) (hz : Z.size = z) (hz0 : 0 < z) (hx : ∀ i, i < z → Z[i]! = x) : Row (w.alloc (.cells (madeCells Z (n * z)) t)) w.heap.size 0 (n * z) (fun _ => x) := by
  refine ⟨fun i hi => ?_, fun i hi => ?_⟩
  · simp only [World.cell?, Nat.zero_add, Deep.blk_alloc_new]
    have : (madeCells Z (n * z))[i]? = some (Z[i % z]!) := by simp [madeCells, hi, hz]
    rw [hx _ (Nat.mod_lt _ hz0)] at this
    simpa using this
  · simp only [World.frozen?, Deep.blk_alloc_new]; simp

theorem infoBlk : (Tryz.prog.info? 170).map (fun i => (i.zero, i.size, i.bytes)) = some (some (av 64 zc), 64, 64) := by kernel_rfl
theorem infoBool : (Tryz.prog.info? 4).map (fun i => (i.zero, i.size, i.bytes)) = some (some (.bool false), 1, 1) := by kernel_rfl
theorem infoDrv : (Tryz.prog.info? 63).map (fun i => (i.zero, i.size, i.bytes)) = some (some (.agg #[.bool false, .slice none 0 0, .slice none 0 0, I 0]), 4, 64) := by kernel_rfl

/-- make([]Block, m). -/
theorem make_blocks (m : Nat) (hm : m ≤ 1000000) (w : World) : (Instr.makeSlice 60 (I m) (I m)).run Tryz.prog w = .ok (.slice (some ⟨w.heap.size, 0, none⟩) m m) (w.alloc (.cells (madeCells (bc 64 zc) (m * 64)) 170)) := by
  obtain ⟨i, hi, hzz⟩ := Option.map_eq_some_iff.1 infoBlk
  simp only [Prod.mk.injEq] at hzz
  obtain ⟨hz, hs, hb⟩ := hzz
  have hr := run_make (P := Tryz.prog) w 60 170 i _ Tryz.underlying60 hi hz .i64 .i64 m m (by omega) (Int.le_refl _) (by rw [hb]; omega) (by omega)
  simp only [Int.toNat_natCast, hs] at hr
  exact hr
theorem make_bools (m : Nat) (hm : m ≤ 1000000) (w : World) : (Instr.makeSlice 61 (I m) (I m)).run Tryz.prog w = .ok (.slice (some ⟨w.heap.size, 0, none⟩) m m) (w.alloc (.cells (madeCells #[.bool false] m) 4)) :=
  run_make_row' 61 4 (.bool false) 1 Tryz.underlying61 infoBool rfl .i64 .i64 m (by omega) (by omega) w

def drv0 : Drv := ⟨false, fun _ _ => 0, fun _ => false, 0⟩
/-- A new array. -/
def arr0 (n m : Nat) : Arr := ⟨n, m, fun _ => drv0, -1⟩
def ncell (bk bd : Nat → Nat) (m d j : Nat) : Value := if j = 0 then .bool false else if j = 1 then .slice (some ⟨bk d, 0, none⟩) m m else if j = 2 then .slice (some ⟨bd d, 0, none⟩) m m else I 0

structure NewIs (w wr : World) (m k : Nat) (v : Value) (bk bd : Nat → Nat) : Prop where
  below : Below w.heap.size w wr
  top : Row wr w.heap.size 0 2 (fun i => if i = 0 then v else I (-1))
  kab : Kd wr w.heap.size 59
  vz : Vz wr w.heap.size 63 4 v k (ncell bk bd m)
  blk : ∀ d, d < k → Row wr (bk d) 0 (m * 64) (fun _ => .int .u8 0)
  bad : ∀ d, d < k → Row wr (bd d) 0 m (fun _ => .bool false)
  kbk : ∀ d, d < k → Kd wr (bk d) 170
  kbd : ∀ d, d < k → Kd wr (bd d) 4
  ibk : ∀ d e, d < k → e < k → d ≠ e → bk d ≠ bk e
  ibd : ∀ d e, d < k → e < k → d ≠ e → bd d ≠ bd e
  new : ∀ d, d < k → w.heap.size ≤ bk d ∧ w.heap.size ≤ bd d
  nil : k = 0 → v = .slice none 0 0

/-- One more drive: two makes, an append, the store. -/
theorem NewIs.next {w wr wz w4 : World} {m k : Nat} {v v4 : Value} {bk bd : Nat → Nat} (h : NewIs w wr m k v bk bd) (b1 b2 : Nat) (hb : Below wr.heap.size wr wz) (n1 : wr.heap.size ≤ b1) (n2 : wr.heap.size ≤ b2) (r1 : Row wz b1 0 (m * 64) (fun _ => .int .u8 0)) (k1 : Kd wz b1 170)
    (r2 : Row wz b2 0 m (fun _ => .bool false)) (k2 : Kd wz b2 4) (hu : Upd (fun b => some b = v.ownBlock) wz w4)
    (hv : Vz w4 w.heap.size 63 4 v4 (k + 1) (fun i j => if i < k then ncell bk bd m i j else ncell (fun _ => b1) (fun _ => b2) m k j)) :
    NewIs w (w4.setCell ⟨w.heap.size, 0, none⟩ v4) m (k + 1) v4 (fun d => if d = k then b1 else bk d) (fun d => if d = k then b2 else bd d) := by
  have hvz := h.vz.later hb
  have ne : ∀ {b t : Nat}, Kd wz b t → t ≠ 63 → ¬ some b = v.ownBlock := fun hk ht e => Vz.block_ne hvz hk ht _ e.symm rfl
  have hk : ∀ {b t : Nat}, Kd wz b t → t ≠ 63 → Kd w4 b t := fun h' ht => h'.upd hu (ne h' ht)
  have kab := h.kab.later hb
  have ab4 : ∀ {b t : Nat}, Kd w4 b t → t ≠ 59 → b ≠ w.heap.size := fun hk' ht => (hk'.ne (hk kab (by decide)) ht)
  have hset : Upd (· = w.heap.size) w4 (w4.setCell ⟨w.heap.size, 0, none⟩ v4) := (Upd.refl (· = w.heap.size) w4).at1 0 v4
  have kbk : ∀ d, d < k + 1 → Kd wz (if d = k then b1 else bk d) 170 := fun d hd => by
    by_cases e : d = k
    · rw [if_pos e]; exact k1
    · rw [if_neg e]; exact (h.kbk d (by omega)).later hb
  have kbd : ∀ d, d < k + 1 → Kd wz (if d = k then b2 else bd d) 4 := fun d hd => by
    by_cases e : d = k
    · rw [if_pos e]; exact k2
    · rw [if_neg e]; exact (h.kbd d (by omega)).later hb
  refine ⟨?_, ?_, (hk kab (by decide)).set _ _, ?_, fun d hd => ?_, fun d hd => ?_, fun d hd => (hk (kbk d hd) (by decide)).set _ _, fun d hd => (hk (kbd d hd) (by decide)).set _ _, fun d e hd he hne => ?_, fun d e hd he hne => ?_, fun d hd => ?_, fun h0 => by omega⟩
  · exact Below.upd (Below.upd (h.below.trans (hb.mono h.below.size)) hu (fun b e => (h.vz.lt b e.symm).1) (Nat.le_trans h.below.size hb.size)) hset (fun b e => e ▸ Nat.le_refl _) (Nat.le_trans (Nat.le_trans h.below.size hb.size) hu.size)
  · have := ((h.top.later hb).upd hu (fun _ => ne kab (by decide))).set (i := 0) (by omega) v4
    rw [Nat.zero_add] at this
    exact this.congr fun i hi => by
      by_cases e : i = 0
      · simp [e]
      · simp [e]
  · refine (hv.kept hset fun b e e2 => Vz.block_ne hv (hk kab (by decide)) (by decide) _ e e2).congr fun i hi j hj => ?_
    by_cases e : i < k
    · rw [if_pos e]; unfold ncell; simp [show i ≠ k by omega]
    · rw [if_neg e]; obtain rfl : i = k := by omega
      unfold ncell; simp
  · by_cases e : d = k
    · rw [if_pos e]; exact (r1.upd hu fun _ => ne k1 (by decide)).upd hset fun _ => ab4 (hk k1 (by decide)) (by decide)
    · rw [if_neg e]; have kd := (h.kbk d (by omega)).later hb
      exact (((h.blk d (by omega)).later hb).upd hu fun _ => ne kd (by decide)).upd hset fun _ => ab4 (hk kd (by decide)) (by decide)
  · by_cases e : d = k
    · rw [if_pos e]; exact (r2.upd hu fun _ => ne k2 (by decide)).upd hset fun _ => ab4 (hk k2 (by decide)) (by decide)
    · rw [if_neg e]; have kd := (h.kbd d (by omega)).later hb
      exact (((h.bad d (by omega)).later hb).upd hu fun _ => ne kd (by decide)).upd hset fun _ => ab4 (hk kd (by decide)) (by decide)
  · by_cases e1 : d = k
    · by_cases e2 : e = k
      · omega
      · rw [if_pos e1, if_neg e2]; have := (h.kbk e (by omega)).lt; omega
    · by_cases e2 : e = k
      · rw [if_neg e1, if_pos e2]; have := (h.kbk d (by omega)).lt; omega
      · rw [if_neg e1, if_neg e2]; exact h.ibk d e (by omega) (by omega) hne
  · by_cases e1 : d = k
    · by_cases e2 : e = k
      · omega
      · rw [if_pos e1, if_neg e2]; have := (h.kbd e (by omega)).lt; omega
    · by_cases e2 : e = k
      · rw [if_neg e1, if_pos e2]; have := (h.kbd d (by omega)).lt; omega
      · rw [if_neg e1, if_neg e2]; exact h.ibd d e (by omega) (by omega) hne
  · by_cases e1 : d = k
    · rw [if_pos e1, if_pos e1]; have := h.below.size; omega
    · rw [if_neg e1, if_neg e1]; exact h.new d (by omega)

/-- What is made lies as an array. -/
theorem NewIs.arr {w wr : World} {m n : Nat} {v : Value} {bk bd : Nat → Nat} (h : NewIs w wr m n v bk bd) (hn : n ≤ 1000) (hm : m ≤ 1000000) : ∃ l : ArrL, l.ab = w.heap.size ∧ ArrAt wr l (arr0 n m) ∧ ∀ b, l.own n b → w.heap.size ≤ b := by
  rcases Nat.eq_zero_or_pos n with h0 | h0
  · subst h0
    obtain rfl := h.nil rfl
    refine ⟨⟨w.heap.size, 0, 0, bk, bd⟩, rfl, ⟨h.top.congr fun i hi => ?_, ?_, fun d hd => absurd hd (by simp [arr0]), fun d hd => absurd hd (by simp [arr0]), h.kab, fun hd => absurd hd (by simp [arr0]), fun d hd => absurd hd (by simp [arr0]), fun d hd => absurd hd (by simp [arr0]), fun d e hd => absurd hd (by simp [arr0]), fun d e hd => absurd hd (by simp [arr0]), hn, hm, by simp [arr0], by simp⟩, ?_⟩
    · simp [ArrL.dv, arr0]
    · show Row wr 0 0 (0 * 4) _; rw [Nat.zero_mul]; exact Row.empty _ _ _ _
    · rintro b' (rfl | ⟨_, hd⟩ | ⟨d, hd, _⟩)
      · exact Nat.le_refl _
      · omega
      · omega
  · obtain ⟨b, c, rfl, hr, hk, hc, hmx, hb⟩ := h.vz.row h0
    refine ⟨⟨w.heap.size, b, c, bk, bd⟩, rfl, ⟨h.top.congr fun i hi => ?_, hr.congr fun i hi => ?_, fun d hd => (h.blk d hd).congr fun i hi => ?_, fun d hd => (h.bad d hd).congr fun i hi => ?_, h.kab, fun _ => hk, h.kbk, h.kbd, h.ibk, h.ibd, hn, hm, hc, hmx⟩, ?_⟩
    · simp [ArrL.dv, arr0, show n ≠ 0 by omega]
    · unfold elz ncell dcell; simp [arr0, drv0]
    · unfold elz; simp [arr0, drv0, B]
    · simp [arr0, drv0]
    · rintro b' (rfl | ⟨rfl, _⟩ | ⟨d, hd, rfl | rfl⟩)
      · exact Nat.le_refl _
      · exact hb
      · exact (h.new d hd).1
      · exact (h.new d hd).2

set_option maxHeartbeats 4000000 in
theorem newArray_any (n m : Nat) (hn : n ≤ 1000) (hm : m ≤ 1000000) (w : World) : Calls Tryz.prog 5 #[I n, I m] w fun e w' => ∃ l : ArrL, e = .returned (.pointer (some ⟨l.ab, 0, none⟩)) ∧ ArrAt w' l (arr0 n m) ∧ Below w.heap.size w w' ∧ ∀ b, l.own n b → w.heap.size ≤ b := by
  have HB := Lib.hid (make_blocks m hm)
  have HL := Lib.hid (make_bools m hm)
  have hmx : max (m : Int) 0 = (m : Int) := by omega
  go_enter Tryz.func5, Tryz.ntmps5
  go_wp2_with fail
  go_loopg [9] n (fun g i wr => ∃ (k : Nat) (v : Value) (bk bd : Nat → Nat), g = n - k ∧ k ≤ n ∧ i = I k ∧ NewIs w wr m k v bk bd)
  case atStart => exact ⟨0, .slice none 0 0, fun _ => 0, fun _ => 0, rfl, by omega, rfl, (Below.refl _ w).alloc (Nat.le_refl _) _, (Row.lit w _ _).congr fun i hi => by
      have hi2 : i < 2 := hi
      rcases i with _ | _ | i
      · rfl
      · rfl
      · omega, Kd.new _ _ _, Vz.nil _ _ _ _ _, fun d h => absurd h (by omega), fun d h => absurd h (by omega), fun d h => absurd h (by omega), fun d h => absurd h (by omega), fun d e h => absurd h (by omega), fun d e h => absurd h (by omega), fun d h => absurd h (by omega), fun _ => rfl⟩
  case round =>
    obtain ⟨k, v, bk, bd, rfl, hk, rfl, hN⟩ := hrel
    by_cases hlt : k < n
    · go_upto_region 4 with fail
      have HNw := Lib.hid hN
      obtain ⟨wd, hwd⟩ : ∃ wd, wd = wr.drew := ⟨_, rfl⟩
      have HBd := Lib.hid (show Below wr.heap.size wr wd from hwd ▸ below_drew' wr)
      have hszd := HBd.out.size
      have hszr := hN.below.size
      have hne : ∀ b, some b = v.ownBlock → b ≠ w.heap.size := fun b e => Vz.block_ne hN.vz hN.kab (by decide) _ e.symm
      have hlo : ∀ b, some b = v.ownBlock → b < wr.heap.size := fun b e => (hN.vz.lt b e.symm).2
      obtain ⟨ι1, hι1, wA, hwA, HWA⟩ := upd_worlds (fun b => some b = v.ownBlock) wr
      have HIn := Lib.hid (show ∀ V, Below wr.heap.size wr V → ∃ nn, V = wA nn from fun V h => HWA.out _ ((Upd.of_below h).mono fun _ _ h => h.elim))
      have c0 : ∀ nn, (wA nn).cell? ⟨w.heap.size, 0, none⟩ = some v := fun nn => (hN.top.upd (hwA nn) (fun _ e => hne _ e rfl)).cell 0 (by omega)
      have HNe := Lib.hid hne
      clear hne hN
      refine wp_region_held_fork [0, 1, 2, 3, 4, 5, 6, 8, 9] 7 10 [([], [10]), ([11], [12, 13])] [([], [7]), ([11], [12, 13])] 14 (fun V => ∃ nn, V = wA nn) mixed0 (by kernel_rfl) (by kernel_rfl) (fun c a d v w h => by cases d <;> exact h) (HIn.out _ (below_drew' wr)) ?_
      rw [← hwd]
      clear hwd hwA
      simp only [pick, List.filterMap_cons, List.filterMap_nil, List.getElem?_cons_succ, List.getElem?_cons_zero]
      change wpQuiet _ _ _ _ (_ :: _ :: _ :: _ :: _ :: _ :: _ :: _ :: _ :: []) _
      repeat (go_big_quiet_step (fail))
      refine wpQuiet_nil ⟨?_, ?_⟩
      · refine wpOp_listG (i := 7) rfl rfl ?_
        go_wp2_with fail
        rw [HB.out]
        go_wp2_with fail
        have HB5 := Lib.hid (HBd.out.alloc HBd.out.size (.cells (madeCells (bc 64 zc) (m * 64)) 170))
        have HR5 := Lib.hid (Row.madeZ wd (bc 64 zc) m 64 (.int .u8 0) 170 (by simp [bc]) (by omega) (fun i hi => by simp [bc, zc, hi]))
        have HK5 := Lib.hid (Kd.new wd (madeCells (bc 64 zc) (m * 64)) 170)
        refine ⟨HIn.out _ HB5.out, ?_⟩
        generalize wd.alloc (.cells (madeCells (bc 64 zc) (m * 64)) 170) = w5 at *
        simp only [scriptW, pick, List.filterMap_nil]
        refine wpQuiet_nil ?_
        simp only [chainM]
        refine wpOp_listG (i := 10) rfl rfl ?_
        go_wp2_with fail
        rw [HL.out]
        go_wp2_with fail
        have HB6 := Lib.hid (HB5.out.alloc HB5.out.size (.cells (madeCells #[.bool false] m) 4))
        have HR6 := Lib.hid (Row.new w5 (.bool false) m 4)
        have HK6 := Lib.hid (Kd.new w5 (madeCells #[.bool false] m) 4)
        have HR5' := Lib.hid (HR5.out.later ((Below.refl _ w5).alloc (Nat.le_refl _) (.cells (madeCells #[.bool false] m) 4)))
        have HK5' := Lib.hid (HK5.out.later ((Below.refl _ w5).alloc (Nat.le_refl _) (.cells (madeCells #[.bool false] m) 4)))
        refine ⟨HIn.out _ HB6.out, ?_⟩
        generalize w5.alloc (.cells (madeCells #[.bool false] m) 4) = w6 at *
        try simp only [pick, List.filterMap_cons, List.filterMap_nil, List.getElem?_cons_succ, List.getElem?_cons_zero]
        change wpQuiet _ _ _ _ (_ :: []) _
        repeat (go_big_quiet_step (fail))
        refine wpQuiet_nil ?_
        try simp only [chainM, scriptW]
        refine wpOp_listG (i := 12) rfl rfl ?_
        go_wp2_with fail
        refine ⟨HIn.out _ (HB6.out.alloc HB6.out.size _), ?_⟩
        refine wpOp_listG (i := 13) rfl rfl ?_
        simp only [List.getElem_toArray, List.getElem_cons_succ, List.getElem_cons_zero]
        have HVz := Lib.hid ((HNw.out.vz).later HB6.out)
        refine wpList_append_z rfl (.tmp 15) (.tmp 23) 57 rfl w.heap.size 63 _ 4 64 Tryz.underlying57 infoDrv rfl (by omega) v k _ (by rfl) HVz.out #[.bool false, .slice (some ⟨wd.heap.size, 0, none⟩) m m, .slice (some ⟨w5.heap.size, 0, none⟩) m m, I 0] rfl _ (by rfl) (by simp [Value.oneCell']) (by omega) (by omega) (by have := HB6.out.size; omega) ?_
        intro v4 w4 hv4 hu4
        obtain ⟨a4, b4, e4, rfl, _⟩ := id hv4.shape
        have HN4 := Lib.hid (HNw.out.next wd.heap.size w5.heap.size HB6.out (by omega) (by have := HB5.out.size; omega) HR5'.out HK5'.out HR6.out HK6.out hu4 (hv4.congr fun i hi j hj => by
          by_cases e : i < k
          · rw [if_pos e, if_pos e]
          · rw [if_neg e, if_neg e]; unfold ncell
            rcases j with _ | _ | _ | _ | j
            · rfl
            · rfl
            · rfl
            · rfl
            · omega))
        have HU4 := Lib.hid ((((Upd.of_below HB6.out).mono fun _ _ h => h.elim : Upd (fun b => some b = v.ownBlock) wr w6)).trans hu4 (fun _ h _ => h))
        clear hv4 hu4
        simp only [Act.put, List.setIfInBounds_toArray, List.set_cons_succ, List.set_cons_zero]
        go_wp2_with fail
        refine ⟨HWA.out _ HU4.out, ?_⟩
        simp only [List.drop_succ_cons, List.drop_zero]
        have c4 : w4.cell? ⟨w.heap.size, 0, none⟩ = some v := by
          have := (HNw.out.top.upd HU4.out (fun _ e => HNe.out _ e rfl)).cell 0 (by omega); simpa using this
        have f4 : w4.frozen? ⟨w.heap.size, 0, none⟩ = false := by
          have := (HNw.out.top.upd HU4.out (fun _ e => HNe.out _ e rfl)).free 0 (by omega); simpa using this
        go_wp2_with fail
        go_roundg (n - (k + 1))
        case measure => omega
        case rel => exact ⟨k + 1, _, _, _, rfl, by omega, rfl, HN4.out⟩
      · refine wpOp_listG (i := 10) rfl rfl ?_
        go_wp2_with fail
        rw [HL.out]
        go_wp2_with fail
        have HB5 := Lib.hid (HBd.out.alloc HBd.out.size (.cells (madeCells #[.bool false] m) 4))
        have HR5 := Lib.hid (Row.new wd (.bool false) m 4)
        have HK5 := Lib.hid (Kd.new wd (madeCells #[.bool false] m) 4)
        refine ⟨HIn.out _ HB5.out, ?_⟩
        generalize wd.alloc (.cells (madeCells #[.bool false] m) 4) = w5 at *
        simp only [scriptW, pick, List.filterMap_nil]
        refine wpQuiet_nil ?_
        simp only [chainM]
        refine wpOp_listG (i := 7) rfl rfl ?_
        go_wp2_with fail
        rw [HB.out]
        go_wp2_with fail
        have HB6 := Lib.hid (HB5.out.alloc HB5.out.size (.cells (madeCells (bc 64 zc) (m * 64)) 170))
        have HR6 := Lib.hid (Row.madeZ w5 (bc 64 zc) m 64 (.int .u8 0) 170 (by simp [bc]) (by omega) (fun i hi => by simp [bc, zc, hi]))
        have HK6 := Lib.hid (Kd.new w5 (madeCells (bc 64 zc) (m * 64)) 170)
        have HR5' := Lib.hid (HR5.out.later ((Below.refl _ w5).alloc (Nat.le_refl _) (.cells (madeCells (bc 64 zc) (m * 64)) 170)))
        have HK5' := Lib.hid (HK5.out.later ((Below.refl _ w5).alloc (Nat.le_refl _) (.cells (madeCells (bc 64 zc) (m * 64)) 170)))
        refine ⟨HIn.out _ HB6.out, ?_⟩
        generalize w5.alloc (.cells (madeCells (bc 64 zc) (m * 64)) 170) = w6 at *
        try simp only [pick, List.filterMap_cons, List.filterMap_nil, List.getElem?_cons_succ, List.getElem?_cons_zero]
        change wpQuiet _ _ _ _ (_ :: []) _
        repeat (go_big_quiet_step (fail))
        refine wpQuiet_nil ?_
        try simp only [chainM, scriptW]
        refine wpOp_listG (i := 12) rfl rfl ?_
        go_wp2_with fail
        refine ⟨HIn.out _ (HB6.out.alloc HB6.out.size _), ?_⟩
        refine wpOp_listG (i := 13) rfl rfl ?_
        simp only [List.getElem_toArray, List.getElem_cons_succ, List.getElem_cons_zero]
        have HVz := Lib.hid ((HNw.out.vz).later HB6.out)
        refine wpList_append_z rfl (.tmp 15) (.tmp 23) 57 rfl w.heap.size 63 _ 4 64 Tryz.underlying57 infoDrv rfl (by omega) v k _ (by rfl) HVz.out #[.bool false, .slice (some ⟨w5.heap.size, 0, none⟩) m m, .slice (some ⟨wd.heap.size, 0, none⟩) m m, I 0] rfl _ (by rfl) (by simp [Value.oneCell']) (by omega) (by omega) (by have := HB6.out.size; omega) ?_
        intro v4 w4 hv4 hu4
        obtain ⟨a4, b4, e4, rfl, _⟩ := id hv4.shape
        have HN4 := Lib.hid (HNw.out.next w5.heap.size wd.heap.size HB6.out (by have := HB5.out.size; omega) (by omega) HR6.out HK6.out HR5'.out HK5'.out hu4 (hv4.congr fun i hi j hj => by
          by_cases e : i < k
          · rw [if_pos e, if_pos e]
          · rw [if_neg e, if_neg e]; unfold ncell
            rcases j with _ | _ | _ | _ | j
            · rfl
            · rfl
            · rfl
            · rfl
            · omega))
        have HU4 := Lib.hid ((((Upd.of_below HB6.out).mono fun _ _ h => h.elim : Upd (fun b => some b = v.ownBlock) wr w6)).trans hu4 (fun _ h _ => h))
        clear hv4 hu4
        simp only [Act.put, List.setIfInBounds_toArray, List.set_cons_succ, List.set_cons_zero]
        go_wp2_with fail
        refine ⟨HWA.out _ HU4.out, ?_⟩
        simp only [List.drop_succ_cons, List.drop_zero]
        have c4 : w4.cell? ⟨w.heap.size, 0, none⟩ = some v := by
          have := (HNw.out.top.upd HU4.out (fun _ e => HNe.out _ e rfl)).cell 0 (by omega); simpa using this
        have f4 : w4.frozen? ⟨w.heap.size, 0, none⟩ = false := by
          have := (HNw.out.top.upd HU4.out (fun _ e => HNe.out _ e rfl)).free 0 (by omega); simpa using this
        go_wp2_with fail
        go_roundg (n - (k + 1))
        case measure => omega
        case rel => exact ⟨k + 1, _, _, _, rfl, by omega, rfl, HN4.out⟩
    · obtain rfl : k = n := by omega
      have HN := Lib.hid hN
      clear hN
      go_wp2_with fail
      go_ret
      obtain ⟨l, h1, h2, h3⟩ := HN.out.arr hn hm
      exact ⟨l, by rw [h1]; rfl, h2, HN.out.below, h3⟩
end Go.Proofs.YtgelingkifafeaaGreatDoor
