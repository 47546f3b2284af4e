import Derived.Test.YthaamnjpjkkolabDoorSComp
import Derived.Test.YthaamnjpjkkolabDoorDecR
import Derived.Test.YthaamnjpjkkolabDoorLoad
import Derived.Test.YthaamnjpjkkolabDoorMaStep
import Derived.Test.YthaamnjpjkkolabDoorTell
import Derived.Test.YthaamnjpjkkolabDoorGrpP
import Derived.Test.YthaamnjpjkkolabDoorMaHeld
import Derived.Test.YthaamnjpjkkolabDoorRefLst
import Derived.WalkSpells
/- The laws' compiled: a program, whether there is one, whether something is wrong with it. -/
namespace Go.Proofs.YthaamnjpjkkolabDoor
open Go.RowKit Go.Proofs Lin Go.Shelf
set_option maxRecDepth 100000
set_option linter.unusedVariables false

def CompdNo (w : World) (e : Ending) (w' : World) : Prop := e = .returned (.tuple #[.agg #[I 0, .slice none 0 0], .bool false, .bool false]) ∧ Below w.heap.size w w'
def CompdYes (w : World) (D L G y : Nat) (e : Ending) (w' : World) : Prop :=
  (∃ v, e = .returned (.tuple #[.agg #[I (regsN D L (D + L + G) y : Nat), v], .bool true, .bool false]) ∧ V4 w' w.heap.size 84 v (progL D L (D + L + G) y).length (fun i => sc ((progL D L (D + L + G) y).getD i Sd))) ∧ Below w.heap.size w w'


open Classical in
theorem right_no {D L G : Int} (hR : ¬ RightI D L G) (w : World) : Calls Tryd.prog 9 #[PV D L G] w fun e w' => e = .returned (.bool false) ∧ Below w.heap.size w w' := by
  have h := right_any D L G w
  rwa [show decide (RightI D L G) = false by simpa using hR] at h
open Classical in
theorem right_yes {D L G : Nat} (hR : Right D L G) (w : World) : Calls Tryd.prog 9 #[PV D L G] w fun e w' => e = .returned (.bool true) ∧ Below w.heap.size w w' := by
  have h := right_any D L G w
  rwa [show decide (RightI D L G) = true from decide_eq_true ⟨D, L, G, rfl, rfl, rfl, hR⟩] at h

set_option maxHeartbeats 1000000 in
theorem compiled_bad (D L G : Int) (x : Nat) (hR : ¬ RightI D L G) (w : World) (hl : Laid w) : Calls Tryd.prog 24 #[PV D L G, U x] w (CompdNo w) := by
  have HC := Lib.hid (fun w => sCompile_bad D L G x hR w)
  have HRt := Lib.hid (fun w => right_no hR w)
  have HL := Lib.hid hl
  have hnn := fun w => run_neq_slice_nil_any (P := Tryd.prog) w 37 84 none 0 0 0 0 Tryd.underlying37
  simp only [Option.isNone_none, Bool.not_true] at hnn
  have HNn := Lib.hid hnn
  clear hR hl hnn
  have HB := Lib.hid (((Below.refl w.heap.size w).alloc (Nat.le_refl _) (.cells #[I D, I L, I G] 23)).alloc (by simp) (.cells #[I 0, .slice none 0 0] 39))
  have HQ := Lib.hid (pairP_new w (.cells #[I D, I L, I G] 23))
  have HA := Lib.hid (Rd.alloc (pcI_new w D L G 23) (.cells #[I 0, .slice none 0 0] 39))
  go_enter Tryd.func24, Tryd.ntmps24
  go_wp2_with fail
  refine (HC.out _).mono ?_
  rintro e w1 ⟨rfl, hb⟩
  have HB1 := Lib.hid (HB.out.trans (hb.mono HB.out.size))
  have HQ1 := Lib.hid (HQ.out.later hb)
  have HA1 := Lib.hid (HA.out.later hb)
  have hsz1 := HB1.out.size
  have hql := HQ1.out.kd.lt
  clear hb HB HQ HA
  go_wp2_with fail
  have HB2 := Lib.hid (HB1.out.alloc HB1.out.size (.cells #[I 0, .slice none 0 0] 39))
  have HQ2 := Lib.hid (HQ1.out.alloc (.cells #[I 0, .slice none 0 0] 39))
  have HA2 := Lib.hid (Rd.alloc HA1.out (.cells #[I 0, .slice none 0 0] 39))
  have HG2 := Lib.hid (Pair.new w1 39 (I 0) (.slice none 0 0))
  refine (tell_errno 1 _ (HL.out.later HB2.out)).mono ?_
  rintro e w3 ⟨rfl, hb⟩
  have HB3 := Lib.hid (HB2.out.trans (hb.mono HB2.out.size))
  have HQ3 := Lib.hid (HQ2.out.later hb)
  have HA3 := Lib.hid (HA2.out.later hb)
  have HG3 := Lib.hid (HG2.out.later hb)
  have c0 : w3.cell? ⟨w.heap.size, 0, none⟩ = some (I D) := HA3.out 0 (by omega)
  have c1 : w3.cell? ⟨w.heap.size, 1, none⟩ = some (I L) := HA3.out 1 (by omega)
  have c2 : w3.cell? ⟨w.heap.size, 2, none⟩ = some (I G) := HA3.out 2 (by omega)
  clear hb HB2 HQ2 HA2 HG2 HB1 HQ1 HA1
  go_wp2_with fail
  refine (theirs_any D L G _).mono ?_
  rintro e w4 ⟨rfl, hb⟩
  have HB4 := Lib.hid ((HB3.out.trans (hb.mono HB3.out.size)).alloc (Nat.le_trans HB3.out.size hb.size) (.cells #[I D, I L, I G] 25))
  have HQ4 := Lib.hid ((HQ3.out.later hb).alloc (.cells #[I D, I L, I G] 25))
  have HG4 := Lib.hid ((HG3.out.later hb).alloc (.cells #[I D, I L, I G] 25))
  clear hb HB3 HQ3 HA3 HG3 c0 c1 c2
  go_wp2_with fail
  refine (HRt.out _).mono ?_
  rintro e w5 ⟨rfl, hb⟩
  have HB5 := Lib.hid (HB4.out.trans (hb.mono HB4.out.size))
  have HQ5 := Lib.hid (HQ4.out.later hb)
  have HG5 := Lib.hid (HG4.out.later hb)
  clear hb HB4 HQ4 HG4
  have hsz5 := HB5.out.size
  go_wp2_with fail
  obtain ⟨w6, hw6⟩ : ∃ w6, w6 = w5.drew := ⟨_, rfl⟩
  have hU6 : Upd (fun b => b = w.heap.size + 1) w5 w6 := hw6 ▸ ⟨rfl, rfl, rfl, Nat.le_refl _, fun _ _ _ => rfl⟩
  have hd6 : Below w5.heap.size w5 w6 := hw6 ▸ ⟨rfl, rfl, rfl, Nat.le_refl _, fun _ _ => rfl⟩
  have HQ6 := Lib.hid (HQ5.out.later hd6)
  have HB6 := Lib.hid (HB5.out.trans (hd6.mono HB5.out.size))
  obtain ⟨ι1, hι1, wA, hwA, HWA⟩ := upd_worlds (fun b => b = w.heap.size + 1) w5
  have g0 := fun n => (HG5.out.upd (hwA n) (by omega)).c0
  have g1 := fun n => (HG5.out.upd (hwA n) (by omega)).c1
  have hnn := HNn.out
  have HU6 := Lib.hid hU6
  clear hwA hU6 hd6
  refine wp_region_held_script [([0, 1, 2, 3, 4, 5, 6, 7, 8, 9, 10, 11, 12], [13, 14])] 15 (fun V => ∃ n, V = wA n) mixed (by kernel_rfl) (by kernel_rfl) (fun c a d v w h => by cases d <;> exact h) (by rw [← hw6]; exact HWA.out _ HU6.out) ?_
  rw [← hw6]
  clear hw6
  unfold scriptW
  simp only [pick, List.filterMap_cons, List.filterMap_nil, List.getElem?_cons_succ, List.getElem?_cons_zero]
  change wpQuiet _ _ _ _ (_ :: _ :: _ :: _ :: _ :: _ :: _ :: _ :: _ :: _ :: _ :: _ :: _ :: []) _
  repeat (go_big_quiet_step (fail))
  refine wpQuiet_nil ?_
  simp only [chainM, scriptW]
  clear g0 g1
  have q0 := HQ6.out.c0; have q1 := HQ6.out.c1; have q2 := HQ6.out.f0; have q3 := HQ6.out.f1
  refine wpOp_listG (i := 13) rfl rfl ?_
  go_wp2_with fail
  have HPe := Lib.hid ((HQ6.out.set0 (I 0)).set1 (.slice none 0 0))
  have HUe := Lib.hid (HU6.out.trans (((Upd.refl (fun b => b = w.heap.size + 1) w6).setCell (a := ⟨w.heap.size + 1, 0, none⟩) (fun _ => rfl) (I 0)).setCell (a := ⟨w.heap.size + 1, 1, none⟩) (fun _ => rfl) (.slice none 0 0)) fun _ e _ => e)
  have HBe := Lib.hid (show Below w.heap.size w ((w6.setCell ⟨w.heap.size + 1, 0, none⟩ (I 0)).setCell ⟨w.heap.size + 1, 1, none⟩ (.slice none 0 0)) from (HB6.out.setCell (by show w.heap.size ≤ w.heap.size + 1; omega) _).setCell (by show w.heap.size ≤ w.heap.size + 1; omega) _)
  clear q0 q1 q2 q3
  refine ⟨HWA.out _ HUe.out, ?_⟩
  refine wpOp_listG (i := 14) rfl rfl ?_
  go_wp2_with fail
  refine ⟨HWA.out _ HUe.out, ?_⟩
  simp only [List.drop_succ_cons, List.drop_zero]
  go_wp2_with fail
  have d0 := HPe.out.c0; have d1 := HPe.out.c1
  refine bodyPost_ret (v := .tuple #[.agg #[I 0, .slice none 0 0], .bool false, .bool false]) (by simp [results, Tryd.results24, go_sem, d0, d1]) rfl ⟨rfl, HBe.out⟩

/-- A call of a Go function by its name, guarded or not. -/
theorem wpOp_callFn1 {P : Program} {ops : Array Oper} {Q : Exit → Act → World → Prop} {i : Nat} {o : Oper} {K : Act → World → Prop} {a : Act} {w : World} {k : FuncId} {x : Operand} {tys : Array TypeId} {vx : Value} {R : Ending → World → Prop} (d : Option Tmp) (hd : o.dst = d) (ho : ops[i]? = some o) (hw : Region.wanted o (yielded ops a.tmps) = true)
    (hop : o.op = .call { callee := .value (.func k), args := #[x], argTypes := tys }) (hx : a.eval x = vx) (eg : ∀ args w, (callFunc k args).run P w = .ok (.enter k args) w) (hc : Calls P k #[vx] w R)
    (h : ∀ e w', R e w' → ∃ v, e = .returned v ∧ K (a.put d v) w') : wpOp P ops Q i K a w := by
  subst hd
  unfold wpOp
  simp only [ho, hw, if_true]
  refine .inl ?_
  unfold Oper.wp execOp
  simp only [hop, resolve, invoke, Sem.run_bind, Sem.run_pure, Result.andThen_ok, List.map_toArray, List.map_cons, List.map_nil, hx]
  simp [go_sem, eg]
  refine hc.mono fun e w' hr => ?_
  obtain ⟨v, rfl, hk⟩ := h e w' hr
  exact hk

theorem decB_mod (D L G x : Nat) : decB D L G (x % 2 ^ (D + L + G)) = decB D L G x := by
  unfold decB left
  rw [sel_congr (q := fun i => !x.testBit i) fun i hi => by rw [Nat.testBit_mod_two_pow]; simp [hi]]

theorem shards3 (D L G : Nat) : (D : Int) + (L : Int) + (G : Int) = ((D + L + G : Nat) : Int) := by omega

set_option maxHeartbeats 2000000 in
theorem compiled_no (D L G x : Nat) (hR : Right D L G) (hx : x < 2 ^ 64) (hd : decB D L G x = false) (w : World) (hl : Laid w) (hT : TabAt 1 Lib.deBruijn64tab w) :
    Calls Tryd.prog 24 #[PV D L G, U x] w (CompdNo w) := by
  have HC := Lib.hid (fun w hT => sCompile_ok D L G x hR hx w hT)
  have HDm := Lib.hid ((decB_mod D L G x).trans hd)
  have HRt := Lib.hid (fun w => right_yes hR w)
  have hrd := fun w => refDec_ok D L G x hR hx w
  rw [hd] at hrd
  have HRd := Lib.hid hrd
  have HL := Lib.hid hl
  have HT := Lib.hid hT
  have hnn := fun w => run_neq_slice_nil_any (P := Tryd.prog) w 37 84 none 0 0 0 0 Tryd.underlying37
  simp only [Option.isNone_none, Bool.not_true] at hnn
  have HNn := Lib.hid hnn
  clear hR hl hnn hrd hd hT
  have HB := Lib.hid (((Below.refl w.heap.size w).alloc (Nat.le_refl _) (.cells #[I D, I L, I G] 23)).alloc (by simp) (.cells #[I 0, .slice none 0 0] 39))
  have HQ := Lib.hid (pairP_new w (.cells #[I D, I L, I G] 23))
  have HA := Lib.hid (Rd.alloc (pcI_new w D L G 23) (.cells #[I 0, .slice none 0 0] 39))
  go_enter Tryd.func24, Tryd.ntmps24
  go_wp2_with fail
  refine (HC.out _ (tab_later HT.out HB.out)).mono ?_
  rintro e w1 ⟨⟨hd, _⟩ | ⟨_, rfl⟩, hb⟩
  · rw [HDm.out] at hd; cases hd
  have HB1 := Lib.hid (HB.out.trans (hb.mono HB.out.size))
  have HQ1 := Lib.hid (HQ.out.later hb)
  have HA1 := Lib.hid (HA.out.later hb)
  have hsz1 := HB1.out.size
  have hql := HQ1.out.kd.lt
  clear hb HB HQ HA
  go_wp2_with fail
  have HB2 := Lib.hid (HB1.out.alloc HB1.out.size (.cells #[I 0, .slice none 0 0] 39))
  have HQ2 := Lib.hid (HQ1.out.alloc (.cells #[I 0, .slice none 0 0] 39))
  have HA2 := Lib.hid (Rd.alloc HA1.out (.cells #[I 0, .slice none 0 0] 39))
  have HG2 := Lib.hid (Pair.new w1 39 (I 0) (.slice none 0 0))
  refine (tell_errno 3 _ (HL.out.later HB2.out)).mono ?_
  rintro e w3 ⟨rfl, hb⟩
  have HB3 := Lib.hid (HB2.out.trans (hb.mono HB2.out.size))
  have HQ3 := Lib.hid (HQ2.out.later hb)
  have HA3 := Lib.hid (HA2.out.later hb)
  have HG3 := Lib.hid (HG2.out.later hb)
  have c0 : w3.cell? ⟨w.heap.size, 0, none⟩ = some (I D) := HA3.out 0 (by omega)
  have c1 : w3.cell? ⟨w.heap.size, 1, none⟩ = some (I L) := HA3.out 1 (by omega)
  have c2 : w3.cell? ⟨w.heap.size, 2, none⟩ = some (I G) := HA3.out 2 (by omega)
  clear hb HB2 HQ2 HA2 HG2 HB1 HQ1 HA1
  go_wp2_with fail
  refine (theirs_any D L G _).mono ?_
  rintro e w4 ⟨rfl, hb⟩
  have HB4 := Lib.hid ((HB3.out.trans (hb.mono HB3.out.size)).alloc (Nat.le_trans HB3.out.size hb.size) (.cells #[I D, I L, I G] 25))
  have HQ4 := Lib.hid ((HQ3.out.later hb).alloc (.cells #[I D, I L, I G] 25))
  have HG4 := Lib.hid ((HG3.out.later hb).alloc (.cells #[I D, I L, I G] 25))
  have HE4 := Lib.hid (pcI_new w4 D L G 25)
  clear hb HB3 HQ3 HA3 HG3 c0 c1 c2
  go_wp2_with fail
  refine (HRt.out _).mono ?_
  rintro e w5 ⟨rfl, hb⟩
  have HB5 := Lib.hid (HB4.out.trans (hb.mono HB4.out.size))
  have HQ5 := Lib.hid (HQ4.out.later hb)
  have HG5 := Lib.hid (HG4.out.later hb)
  have HE5 := Lib.hid (HE4.out.later hb)
  have e0 : w5.cell? ⟨w4.heap.size, 0, none⟩ = some (I D) := HE5.out 0 (by omega)
  have e1 : w5.cell? ⟨w4.heap.size, 1, none⟩ = some (I L) := HE5.out 1 (by omega)
  have e2 : w5.cell? ⟨w4.heap.size, 2, none⟩ = some (I G) := HE5.out 2 (by omega)
  clear hb HB4 HQ4 HG4 HE4
  go_wp2_with fail
  refine (HRd.out _).mono ?_
  rintro e wd ⟨rfl, hb⟩
  have HB5' := Lib.hid (HB5.out.trans (hb.mono HB5.out.size))
  have HQ5' := Lib.hid (HQ5.out.later hb)
  have HG5' := Lib.hid (HG5.out.later hb)
  clear hb HB5 HQ5 HG5 HE5 e0 e1 e2
  have hsz5 := HB5'.out.size
  go_wp2_with fail
  obtain ⟨w6, hw6⟩ : ∃ w6, w6 = wd.drew := ⟨_, rfl⟩
  have hU6 : Upd (fun b => b = w.heap.size + 1) wd w6 := hw6 ▸ ⟨rfl, rfl, rfl, Nat.le_refl _, fun _ _ _ => rfl⟩
  have hd6 : Below wd.heap.size wd w6 := hw6 ▸ ⟨rfl, rfl, rfl, Nat.le_refl _, fun _ _ => rfl⟩
  have HQ6 := Lib.hid (HQ5'.out.later hd6)
  have HB6 := Lib.hid (HB5'.out.trans (hd6.mono HB5'.out.size))
  obtain ⟨ι1, hι1, wA, hwA, HWA⟩ := upd_worlds (fun b => b = w.heap.size + 1) wd
  have g0 := fun n => (HG5'.out.upd (hwA n) (by omega)).c0
  have g1 := fun n => (HG5'.out.upd (hwA n) (by omega)).c1
  have hnn := HNn.out
  have HU6 := Lib.hid hU6
  clear hwA hU6 hd6
  refine wp_region_held_script [([0, 1, 2, 3, 4, 5, 6, 7, 8, 9, 10, 11, 12], [13, 14])] 15 (fun V => ∃ n, V = wA n) mixed (by kernel_rfl) (by kernel_rfl) (fun c a d v w h => by cases d <;> exact h) (by rw [← hw6]; exact HWA.out _ HU6.out) ?_
  rw [← hw6]
  clear hw6
  unfold scriptW
  simp only [pick, List.filterMap_cons, List.filterMap_nil, List.getElem?_cons_succ, List.getElem?_cons_zero]
  change wpQuiet _ _ _ _ (_ :: _ :: _ :: _ :: _ :: _ :: _ :: _ :: _ :: _ :: _ :: _ :: _ :: []) _
  repeat (go_big_quiet_step (fail))
  refine wpQuiet_nil ?_
  simp only [chainM, scriptW]
  clear g0 g1
  have q0 := HQ6.out.c0; have q1 := HQ6.out.c1; have q2 := HQ6.out.f0; have q3 := HQ6.out.f1
  refine wpOp_listG (i := 13) rfl rfl ?_
  go_wp2_with fail
  have HPe := Lib.hid ((HQ6.out.set0 (I 0)).set1 (.slice none 0 0))
  have HUe := Lib.hid (HU6.out.trans (((Upd.refl (fun b => b = w.heap.size + 1) w6).setCell (a := ⟨w.heap.size + 1, 0, none⟩) (fun _ => rfl) (I 0)).setCell (a := ⟨w.heap.size + 1, 1, none⟩) (fun _ => rfl) (.slice none 0 0)) fun _ e _ => e)
  have HBe := Lib.hid (show Below w.heap.size w ((w6.setCell ⟨w.heap.size + 1, 0, none⟩ (I 0)).setCell ⟨w.heap.size + 1, 1, none⟩ (.slice none 0 0)) from (HB6.out.setCell (by show w.heap.size ≤ w.heap.size + 1; omega) _).setCell (by show w.heap.size ≤ w.heap.size + 1; omega) _)
  clear q0 q1 q2 q3
  refine ⟨HWA.out _ HUe.out, ?_⟩
  refine wpOp_listG (i := 14) rfl rfl ?_
  go_wp2_with fail
  refine ⟨HWA.out _ HUe.out, ?_⟩
  simp only [List.drop_succ_cons, List.drop_zero]
  go_wp2_with fail
  have d0 := HPe.out.c0; have d1 := HPe.out.c1
  refine bodyPost_ret (v := .tuple #[.agg #[I 0, .slice none 0 0], .bool false, .bool false]) (by simp [results, Tryd.results24, go_sem, d0, d1]) rfl ⟨rfl, HBe.out⟩

set_option maxHeartbeats 4000000 in
theorem compiled_yes (D L G x : Nat) (hR : Right D L G) (hx : x < 2 ^ 64) (hd : decB D L G x = true) (w : World) (hl : Laid w) (hT : TabAt 1 Lib.deBruijn64tab w) :
    Calls Tryd.prog 24 #[PV D L G, U x] w (CompdYes w D L G (x % 2 ^ (D + L + G))) := by
  have h7 := hR.sum
  have HC := Lib.hid (fun w hT => sCompile_ok D L G x hR hx w hT)
  have HDm := Lib.hid ((decB_mod D L G x).trans hd)
  have HRt := Lib.hid (fun w => right_yes hR w)
  have hrd := fun w => refDec_ok D L G x hR hx w
  rw [hd] at hrd
  have HRd := Lib.hid hrd
  have HL := Lib.hid hl
  have HT := Lib.hid hT
  have HAnd := Lib.hid (and_low x (D + L + G) hx h7)
  have hp16 : 2 ^ (D + L + G) ≤ 2 ^ 16 := Nat.pow_le_pow_right (by omega) h7
  have hy : x % 2 ^ (D + L + G) < 2 ^ (D + L + G) := Nat.mod_lt _ (Nat.pow_pos (by omega))
  have hro := reads_ok hR.d1 hR.d2 hR.l1 hR.div h7 HDm.out
  have hap := apart_and hro
  have hlo := loaded_prog h7 hro.lt
  have hok := prog_ok h7 hro.apart
  have hrlt := hro.lt
  have hsh := fun w => refShards_any D L G (by have := hR.d1; have := hR.d2; omega) w
  rw [shards3] at hsh
  have HSh := Lib.hid hsh
  clear hR hl hrd hd hT hro hsh
  generalize x % 2 ^ (D + L + G) = y at *
  obtain ⟨P, hP⟩ : ∃ P, P = progL D L (D + L + G) y := ⟨_, rfl⟩
  obtain ⟨rg, hrg⟩ : ∃ rg, rg = regsN D L (D + L + G) y := ⟨_, rfl⟩
  rw [← hP] at hlo hok
  rw [← hrg] at hok
  have HPP := Lib.hid hP
  have HRG := Lib.hid hrg
  have HOk := Lib.hid hok
  have HLo := Lib.hid hlo
  clear hP hrg hok hlo
  generalize hrr : readsN D L (D + L + G) y = r at *
  have hand : (bits BinOp.and IntKind.u64 (r : Int) (y : Int) != 0) = false := by rw [u64_and_nat r y (by omega) (by omega), hap]; rfl
  have HRr := Lib.hid hrr
  have HAn := Lib.hid hand
  clear hrr hand hap
  have HB := Lib.hid (((Below.refl w.heap.size w).alloc (Nat.le_refl _) (.cells #[I D, I L, I G] 23)).alloc (by simp) (.cells #[I 0, .slice none 0 0] 39))
  have HQ := Lib.hid (pairP_new w (.cells #[I D, I L, I G] 23))
  have HA := Lib.hid (Rd.alloc (pcI_new w D L G 23) (.cells #[I 0, .slice none 0 0] 39))
  go_enter Tryd.func24, Tryd.ntmps24
  go_wp2_with fail
  refine (HC.out _ (tab_later HT.out HB.out)).mono ?_
  rintro e w1 ⟨⟨_, v', rfl, hv'⟩ | ⟨hd, _⟩, hb⟩
  case inr => rw [HDm.out] at hd; cases hd
  rw [← HPP.out] at hv'
  rw [← HRG.out]
  obtain ⟨va, vb, vc, rfl, hst, _, _⟩ := hv'.shape
  have HB1 := Lib.hid (HB.out.trans (hb.mono HB.out.size))
  have HV1 := Lib.hid (hv'.mono HB.out.size)
  have HQ1 := Lib.hid (HQ.out.later hb)
  have HA1 := Lib.hid (HA.out.later hb)
  have HS1 := Lib.hid hst
  have hsz1 := HB1.out.size
  have hql := HQ1.out.kd.lt
  clear hb HB HQ HA hv' hst
  go_wp2_with fail
  have HBx := Lib.hid (show Below w1.heap.size w1 (w1.alloc (.cells #[I (rg : Nat), .slice va P.length vc] 39)) from (Below.refl _ _).alloc (Nat.le_refl _) _)
  have HB2 := Lib.hid (HB1.out.trans (HBx.out.mono hsz1))
  have HQ2 := Lib.hid (HQ1.out.later HBx.out)
  have HA2 := Lib.hid (HA1.out.later HBx.out)
  have HG2 := Lib.hid (Pair.new w1 39 (I (rg : Nat)) (.slice va P.length vc))
  have HV2 := Lib.hid (HV1.out.later HBx.out)
  refine (tell_nil _).mono ?_
  rintro e w3 ⟨rfl, hb⟩
  have HB3 := Lib.hid (HB2.out.trans (hb.mono HB2.out.size))
  have HQ3 := Lib.hid (HQ2.out.later hb)
  have HA3 := Lib.hid (HA2.out.later hb)
  have HG3 := Lib.hid (HG2.out.later hb)
  have HV3 := Lib.hid (HV2.out.later hb)
  have c0 : w3.cell? ⟨w.heap.size, 0, none⟩ = some (I D) := HA3.out 0 (by omega)
  have c1 : w3.cell? ⟨w.heap.size, 1, none⟩ = some (I L) := HA3.out 1 (by omega)
  have c2 : w3.cell? ⟨w.heap.size, 2, none⟩ = some (I G) := HA3.out 2 (by omega)
  clear hb HB2 HQ2 HA2 HG2 HB1 HQ1 HA1 HV1 HV2 HBx
  go_wp2_with fail
  refine (theirs_any D L G _).mono ?_
  rintro e w4 ⟨rfl, hb⟩
  have HBy := Lib.hid (show Below w3.heap.size w3 (w4.alloc (.cells #[I D, I L, I G] 25)) from hb.alloc hb.size _)
  have HB4 := Lib.hid (HB3.out.trans (HBy.out.mono HB3.out.size))
  have HQ4 := Lib.hid (HQ3.out.later HBy.out)
  have HG4 := Lib.hid (HG3.out.later HBy.out)
  have HV4 := Lib.hid (HV3.out.later HBy.out)
  have HE4 := Lib.hid (pcI_new w4 D L G 25)
  clear hb HB3 HQ3 HA3 HG3 HV3 c0 c1 c2 HBy
  go_wp2_with fail
  refine (HRt.out _).mono ?_
  rintro e w5 ⟨rfl, hb⟩
  have HB5 := Lib.hid (HB4.out.trans (hb.mono HB4.out.size))
  have HQ5 := Lib.hid (HQ4.out.later hb)
  have HG5 := Lib.hid (HG4.out.later hb)
  have HV5 := Lib.hid (HV4.out.later hb)
  have HE5 := Lib.hid (HE4.out.later hb)
  have e0 : w5.cell? ⟨w4.heap.size, 0, none⟩ = some (I D) := HE5.out 0 (by omega)
  have e1 : w5.cell? ⟨w4.heap.size, 1, none⟩ = some (I L) := HE5.out 1 (by omega)
  have e2 : w5.cell? ⟨w4.heap.size, 2, none⟩ = some (I G) := HE5.out 2 (by omega)
  clear hb HB4 HQ4 HG4 HV4 HE4
  go_wp2_with fail
  refine (HRd.out _).mono ?_
  rintro e wd ⟨rfl, hb⟩
  have HB6 := Lib.hid (HB5.out.trans (hb.mono HB5.out.size))
  have HQ6 := Lib.hid (HQ5.out.later hb)
  have HG6 := Lib.hid (HG5.out.later hb)
  have HV6 := Lib.hid (HV5.out.later hb)
  have HE6 := Lib.hid (HE5.out.later hb)
  clear hb HB5 HQ5 HG5 HV5 HE5 e0 e1 e2
  have hsz6 := HB6.out.size
  go_wp2_with fail
  obtain ⟨ι1, hι1, wA, hwA, HWA⟩ := later_worlds wd
  have g0 := fun n => (HG6.out.later (hwA n)).c0
  have g1 := fun n => (HG6.out.later (hwA n)).c1
  have e0 : ∀ n, (wA n).cell? ⟨w4.heap.size, 0, none⟩ = some (I D) := fun n => (HE6.out.later (hwA n)) 0 (by omega)
  have e1 : ∀ n, (wA n).cell? ⟨w4.heap.size, 1, none⟩ = some (I L) := fun n => (HE6.out.later (hwA n)) 1 (by omega)
  have e2 : ∀ n, (wA n).cell? ⟨w4.heap.size, 2, none⟩ = some (I G) := fun n => (HE6.out.later (hwA n)) 2 (by omega)
  refine wp_region_held_script [([0, 1], [2, 3])] 4 (fun V => ∃ n, V = wA n) mixed (by kernel_rfl) (by kernel_rfl) (fun c a d v w h => by cases d <;> exact h) (HWA.out _ (below_drew wd)) ?_
  clear hwA
  unfold scriptW
  simp only [pick, List.filterMap_cons, List.filterMap_nil, List.getElem?_cons_succ, List.getElem?_cons_zero]
  change wpQuiet _ _ _ _ (_ :: _ :: []) _
  repeat (go_big_quiet_step (fail))
  refine wpQuiet_nil ?_
  simp only [chainM, scriptW]
  clear g0 g1 e0 e1 e2
  refine wpOp_listG (i := 2) rfl rfl ?_
  go_wp2_with fail
  refine (HSh.out _).mono ?_
  rintro e w7 ⟨rfl, hb⟩
  have HBz := Lib.hid ((below_drew wd).trans hb)
  clear hb
  go_wp2_with fail
  refine ⟨HWA.out _ HBz.out, ?_⟩
  refine wpOp_listG (i := 3) rfl rfl ?_
  go_wp2_with fail
  obtain ⟨va', vb', vc', hve, hst6, _, _⟩ := HV6.out.shape
  cases hve
  have HS6 := Lib.hid hst6
  clear hst6
  refine (sCheck_all va vb' 0 P.length vc (fun i => P.getD i Sd) (rg : Int) ((D + L + G : Nat) : Int) w7 (HS6.out.later HBz.out)).mono ?_
  rintro e w8 ⟨⟨_, rfl⟩ | ⟨hno, _⟩, hb⟩
  case inr => exact absurd HOk.out hno
  have HBw := Lib.hid (HBz.out.trans (hb.mono HBz.out.size))
  clear hb
  go_wp2_with fail
  refine ⟨HWA.out _ HBw.out, ?_⟩
  clear HWA hι1
  simp only [List.drop_succ_cons, List.drop_zero]
  have HB8 := Lib.hid (HB6.out.trans (HBw.out.mono HB6.out.size))
  have HQ8 := Lib.hid (HQ6.out.later HBw.out)
  have HG8 := Lib.hid (HG6.out.later HBw.out)
  have HV8 := Lib.hid (HV6.out.later HBw.out)
  have HS8 := Lib.hid (HS6.out.later HBw.out)
  have HE8 := Lib.hid (HE6.out.later HBw.out)
  have g0 := HG8.out.c0; have g1 := HG8.out.c1
  clear HB6 HQ6 HG6 HV6 HS6 HE6 HBw HBz HS1
  go_wp2_with fail
  refine (loaded_any va vb' 0 P.length vc P rfl (rg : Int) w8 HS8.out).mono ?_
  rintro e w9 ⟨rfl, hb⟩
  rw [HLo.out]
  have HB9 := Lib.hid (HB8.out.trans (hb.mono HB8.out.size))
  have HQ9 := Lib.hid (HQ8.out.later hb)
  have HG9 := Lib.hid (HG8.out.later hb)
  have HV9 := Lib.hid (HV8.out.later hb)
  have HE9 := Lib.hid (HE8.out.later hb)
  have e0 : w9.cell? ⟨w4.heap.size, 0, none⟩ = some (I D) := HE9.out 0 (by omega)
  have e1 : w9.cell? ⟨w4.heap.size, 1, none⟩ = some (I L) := HE9.out 1 (by omega)
  have e2 : w9.cell? ⟨w4.heap.size, 2, none⟩ = some (I G) := HE9.out 2 (by omega)
  clear hb HB8 HQ8 HG8 HV8 HS8 HE8 g0 g1
  go_wp2_with fail
  refine (HSh.out _).mono ?_
  rintro e w10 ⟨rfl, hb⟩
  have HB10 := Lib.hid (HB9.out.trans (hb.mono HB9.out.size))
  have HQ10 := Lib.hid (HQ9.out.later hb)
  have HG10 := Lib.hid (HG9.out.later hb)
  have HV10 := Lib.hid (HV9.out.later hb)
  have hsz10 := HB10.out.size
  clear hb HB9 HQ9 HG9 HV9 HE9 e0 e1 e2
  go_wp2_with fail
  rw [HAnd.out]
  obtain ⟨wa, hwa⟩ : ∃ wa, wa = w10.drew := ⟨_, rfl⟩
  have hda : Below w10.heap.size w10 wa := hwa ▸ below_drew w10
  have hua : Upd (fun b => b = w.heap.size + 1) w10 wa := (Upd.of_below hda).mono fun _ _ e => e.elim
  obtain ⟨ι2, hι2, wB, hwB, HWB⟩ := upd_worlds (fun b => b = w.heap.size + 1) w10
  have g0 := fun n => (HG10.out.upd (hwB n) (by omega)).c0
  have g1 := fun n => (HG10.out.upd (hwB n) (by omega)).c1
  have HDa := Lib.hid hda
  have HUa := Lib.hid hua
  clear hwB hda hua
  refine wp_region_held_script [([0, 1, 2, 3, 4], [5]), ([6, 7, 8, 9, 10, 11, 12, 13, 14, 15, 16], [17, 18])] 19 (fun V => ∃ n, V = wB n) mixed (by kernel_rfl) (by kernel_rfl) (fun c a d v w h => by cases d <;> exact h) (by rw [← hwa]; exact HWB.out _ HUa.out) ?_
  rw [← hwa]
  clear hwa
  unfold scriptW
  simp only [pick, List.filterMap_cons, List.filterMap_nil, List.getElem?_cons_succ, List.getElem?_cons_zero]
  change wpQuiet _ _ _ _ (_ :: _ :: _ :: _ :: _ :: []) _
  repeat (go_big_quiet_step (fail))
  refine wpQuiet_nil ?_
  simp only [chainM, scriptW]
  refine wpOp_callFn1 (some 85) rfl (k := 11) (vx := .nilIface) rfl rfl rfl rfl (enters_of Tryd.func11 (by kernel_rfl) rfl) (tell_nil wa) ?_
  rintro e wb ⟨rfl, hb⟩
  have HDb := Lib.hid (HDa.out.trans (hb.mono HDa.out.size))
  have HUb := Lib.hid (show Upd (fun b => b = w.heap.size + 1) w10 wb from (Upd.of_below HDb.out).mono fun _ _ e => e.elim)
  have HQb := Lib.hid (HQ10.out.later HDb.out)
  have HVb := Lib.hid (HV10.out.later HDb.out)
  have HBb := Lib.hid (HB10.out.trans (HDb.out.mono HB10.out.size))
  clear hb
  refine ⟨_, rfl, HWB.out _ HUb.out, ?_⟩
  simp only [Act.put, List.setIfInBounds_toArray, List.set_cons_succ, List.set_cons_zero]
  have hand := HAn.out
  simp only [pick, List.filterMap_cons, List.filterMap_nil, List.getElem?_cons_succ, List.getElem?_cons_zero]
  change wpQuiet _ _ _ _ (_ :: _ :: _ :: _ :: _ :: _ :: _ :: _ :: _ :: _ :: _ :: []) _
  repeat (go_big_quiet_step (fail))
  refine wpQuiet_nil ?_
  clear g0 g1 hand
  have q0 := HQb.out.c0; have q1 := HQb.out.c1; have q2 := HQb.out.f0; have q3 := HQb.out.f1
  refine wpOp_listG (i := 17) rfl rfl ?_
  go_wp2_with fail
  have hU := ((Upd.refl (fun b => b = w.heap.size + 1) wb).setCell (a := ⟨w.heap.size + 1, 0, none⟩) (fun _ => rfl) (I (rg : Nat))).setCell (a := ⟨w.heap.size + 1, 1, none⟩) (fun _ => rfl) (.slice va P.length vc)
  have HPe := Lib.hid ((HQb.out.set0 (I (rg : Nat))).set1 (.slice va P.length vc))
  have HUe := Lib.hid (HUb.out.trans hU fun _ e _ => e)
  have HVe := Lib.hid (HVb.out.kept hU fun t ht e => HVb.out.block_ne HQb.out.kd (by decide) t ht e)
  have HBe := Lib.hid (show Below w.heap.size w ((wb.setCell ⟨w.heap.size + 1, 0, none⟩ (I (rg : Nat))).setCell ⟨w.heap.size + 1, 1, none⟩ (.slice va P.length vc)) from (HBb.out.setCell (by show w.heap.size ≤ w.heap.size + 1; omega) _).setCell (by show w.heap.size ≤ w.heap.size + 1; omega) _)
  clear q0 q1 q2 q3 hU
  refine ⟨HWB.out _ HUe.out, ?_⟩
  refine wpOp_listG (i := 18) rfl rfl ?_
  go_wp2_with fail
  refine ⟨HWB.out _ HUe.out, ?_⟩
  simp only [List.drop_succ_cons, List.drop_zero]
  go_wp2_with fail
  have d0 := HPe.out.c0; have d1 := HPe.out.c1
  refine bodyPost_ret (v := .tuple #[.agg #[I (rg : Nat), .slice va P.length vc], .bool true, .bool false]) (by simp [results, Tryd.results24, go_sem, d0, d1]) rfl ⟨⟨.slice va P.length vc, by rw [HRG.out], ?_⟩, HBe.out⟩
  rw [← HPP.out]
  exact HVe.out
end Go.Proofs.YthaamnjpjkkolabDoor
