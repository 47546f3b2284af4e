import Derived.Test.YtgelingkifafeaaGreatDoorBu21
import Derived.Test.YtgelingkifafeaaGreatDoorBu23
/- disks.read, disks.write. -/
namespace Go.Proofs.YtgelingkifafeaaGreatDoor
open Go Go.RowKit Go.Proofs
set_option maxRecDepth 100000
set_option linter.unusedVariables false

/-- A frame is read: the frame, is it one, the array. -/
def Arr.rdF (A : Arr) (d b : Nat) : Frm.Frm × Bool × Arr :=
  if (A.rd d b).1.isSome then (frm0, false, (A.rd d b).2.2) else (Frm.read (A.rd d b).2.1, Frm.okB (A.rd d b).2.1, (A.rd d b).2.2)

theorem rd_power {A : Arr} {d b : Nat} (hp : A.wait < 0) : (A.rd d b).1 ≠ some 13 := by
  unfold Arr.rd Arr.err
  rw [if_neg (by omega)]
  split
  · rename_i k hk
    split at hk
    · simp at hk; subst hk; simp
    · split at hk
      · simp at hk; subst hk; simp
      · cases hk
  · split <;> simp
theorem wr_power {A : Arr} {d b : Nat} {x : Nat → UInt8} (hp : A.wait < 0) : (A.wr d b x).1 ≠ some 13 := by
  unfold Arr.wr Arr.err
  rw [if_neg (by omega)]
  split
  · rename_i k hk
    split at hk
    · simp at hk; subst hk; simp
    · split at hk
      · simp at hk; subst hk; simp
      · cases hk
  · simp

theorem rd_n (A : Arr) (d b : Nat) : ((A.rd d b).2.2).n = A.n := by
  unfold Arr.rd; split
  · rfl
  · split <;> rfl
def DReadIs (w : World) (l : ArrL) (A : Arr) (d b : Nat) (e : Ending) (w' : World) : Prop :=
  e = .returned (.tuple #[fv (A.rdF d b).1, .bool (A.rdF d b).2.1]) ∧ ArrAt w' l (A.rdF d b).2.2 ∧ Upd (· = l.db) w w'

theorem neq_nilB (p : Value) (w : World) : (binOp .neq 29 (.iface 208 p) .nilIface).run Tryz.prog w = .ok (.bool true) w := by kernel_rfl
theorem neq_nilN (w : World) : (binOp .neq 29 .nilIface .nilIface).run Tryz.prog w = .ok (.bool false) w := by kernel_rfl
theorem zFrm (w : World) : (Instr.build 130 #[]).run Tryz.prog w = .ok (fv frm0) w := by kernel_rfl

set_option maxHeartbeats 400000 in
theorem dread_any (w : World) (l : ArrL) (A : Arr) (dk d b : Nat) (h : ArrAt w l A) (hn : 0 < A.n) (hp : A.wait < 0) (hdk : w.cell? ⟨dk, 0, none⟩ = some (.pointer (some ⟨l.ab, 0, none⟩))) :
    Calls Tryz.prog 69 #[.pointer (some ⟨dk, 0, none⟩), I d, I b] w (DReadIs w l A d b) := by
  have hb0 : Below w.heap.size w (w.alloc (.cells (bc 47 (fc frm0)) 130)) := (Below.refl _ w).alloc (Nat.le_refl _) _
  have HV := Lib.hid (Row.box w 47 (fc frm0) 130)
  have HB0 := Lib.hid hb0
  have HO := Lib.hid h.own_lt
  have HR := Lib.hid (read_any _ l A d b (h.later hb0))
  have hz0 : (w.alloc (.cells (bc 47 (fc frm0)) 130)).heap.size = w.heap.size + 1 := World.size_alloc ..
  have c0 : (w.alloc (.cells (bc 47 (fc frm0)) 130)).cell? ⟨dk, 0, none⟩ = some (.pointer (some ⟨l.ab, 0, none⟩)) := cell_alloc' hdk _
  have HP := Lib.hid (rd_power (d := d) (b := b) hp)
  have hdb : l.db ≠ w.heap.size := by have := h.own_lt _ (.inr (.inl ⟨rfl, hn⟩)); omega
  clear h hb0 hdk
  go_enter Tryz.func69, Tryz.ntmps69
  go_upto_region 1 with fail
  change Code.wp _ _ _ _ (w.alloc (.cells (bc 47 (fc frm0)) 130))
  generalize w.alloc (.cells (bc 47 (fc frm0)) 130) = w0 at *
  go_upto_region 2 with (first | (go_at_call 65; refine HR.out.mono ?_; rintro e w1 ⟨v, rfl, hev, hA, hu⟩) | (refine wpList_store_all (g := rb (A.rd d b).2.1) rfl 170 (.tmp 8) (.tmp 18) rfl rfl rfl (Row.box w1 64 zc 170) a170 (fun _ _ => rfl) ?_; intro w2 hu2 hs2 hk2 hr2; simp only [Act.put]))
  have hb2 : Below w1.heap.size w1 w2 := Below.upd ((Below.refl _ w1).alloc (Nat.le_refl _) _) hu2 (fun _ h => h ▸ Nat.le_refl _) (by simp)
  have HEV := Lib.hid (hev.later hb2)
  have HA2 := Lib.hid (hA.later hb2)
  have HR2 := Lib.hid hr2
  have HV2 := Lib.hid ((HV.out.upd hu (fun _ => Ne.symm hdb)).later hb2)
  have HU2 := Lib.hid ((((Upd.of_below HB0.out).mono fun _ _ h => h.elim).trans (hu.trans (Upd.of_below hb2) (fun _ h _ => h.elim)) (fun _ h _ => h)) : Upd (· = l.db) w w2)
  have hz2 := hb2.size
  have hz1 := hu.size
  clear hb2 hev hA hr2 hu hu2 hs2 hk2 HV HB0
  cases herr : (A.rd d b).1 with
  | some k =>
    rw [herr] at HEV
    have HPn := Lib.hid (powered_any v (some k) w2 HEV.out (by rw [← herr]; exact HP.out))
    have HE := Lib.hid (show A.rdF d b = (frm0, false, (A.rd d b).2.2) by unfold Arr.rdF; rw [herr]; rfl)
    clear herr
    obtain ⟨p, d', b', rfl, _⟩ := id HEV.out
    have n1 := neq_nilB (.pointer (some ⟨p, 0, none⟩))
    go_wp2_with (first | (go_at_call 55; refine HPn.out.mono ?_; rintro e w3 ⟨rfl, rfl⟩) | (refine wpList_build rfl 130 [] rfl [] rfl _ zFrm ?_; simp only [Act.put, List.setIfInBounds_toArray, List.set_cons_succ, List.set_cons_zero]) | (refine wpList_store_all (g := fc frm0) rfl 130 (.tmp 6) (.tmp 23) rfl rfl rfl HV2.out a130 (fun i _ => fc_one _ i) ?_; intro w4 hu4 hs4 hk4 hr4; simp only [Act.put]))
    have hu6 := HU2.out.trans hu4 (fun _ h h2 => by omega)
    refine bodyPost_ret (v := .tuple #[fv frm0, .bool false]) (results_cell_slot Tryz.results69 (b := w.heap.size) rfl hr4.rd Tryz.underlying130 rfl a130) rfl ?_
    rw [DReadIs, HE.out]
    exact ⟨rfl, HA2.out.fresh (B := w.heap.size) hu4 (by rw [rd_n]; exact HO.out) (fun _ h => h ▸ Nat.le_refl _), hu6⟩
  | none =>
    rw [herr] at HEV
    have HPn := Lib.hid (powered_any v none w2 HEV.out (by simp))
    obtain rfl : v = .nilIface := HEV.out
    have HE := Lib.hid (show A.rdF d b = (Frm.read (A.rd d b).2.1, Frm.okB (A.rd d b).2.1, (A.rd d b).2.2) by unfold Arr.rdF; rw [herr]; rfl)
    clear herr
    have n1 := neq_nilN
    go_wp2_with (first | (go_at_call 55; refine HPn.out.mono ?_; rintro e w3 ⟨rfl, rfl⟩) | (refine wpList_load_rd rfl 170 (.tmp 8) rfl rfl HR2.out.rd Tryz.underlying170 rfl a170 ?_; simp only [Act.put, List.setIfInBounds_toArray, List.set_cons_succ, List.set_cons_zero]) | (go_at_call 66; refine (open_any (A.rd d b).2.1 _).mono ?_; rintro e w3 ⟨rfl, hb3⟩; have HV3 := Lib.hid (HV2.out.later hb3)) | (refine wpList_store_all (g := fc (Frm.read (A.rd d b).2.1)) rfl 130 (.tmp 6) (.tmp 26) rfl rfl rfl HV3.out a130 (fun i _ => fc_one _ i) ?_; intro w4 hu4 hs4 hk4 hr4; simp only [Act.put]))
    have hu6 := (HU2.out.trans (Upd.of_below hb3) (fun _ h _ => h.elim)).trans hu4 (fun _ h h2 => by omega)
    refine bodyPost_ret (v := .tuple #[fv (Frm.read (A.rd d b).2.1), .bool (Frm.okB (A.rd d b).2.1)]) (results_cell_slot Tryz.results69 (b := w.heap.size) rfl hr4.rd Tryz.underlying130 rfl a130) rfl ?_
    rw [DReadIs, HE.out]
    exact ⟨rfl, (HA2.out.later hb3).fresh (B := w.heap.size) hu4 (by rw [rd_n]; exact HO.out) (fun _ h => h ▸ Nat.le_refl _), hu6⟩

def DWriteIs (w : World) (l : ArrL) (A : Arr) (d b : Nat) (f : Frm.Frm) (e : Ending) (w' : World) : Prop :=
  ∃ v, e = .returned v ∧ EV w' v (A.wr d b (Frm.blk f)).1 ∧ ArrAt w' l (A.wr d b (Frm.blk f)).2 ∧ Upd (fun k => d < A.n ∧ (k = l.bk d ∨ k = l.bd d)) w w'

set_option maxHeartbeats 400000 in
theorem dwrite_any (w : World) (l : ArrL) (A : Arr) (dk d b : Nat) (f : Frm.Frm) (hf : f.shard < 256) (hq : f.seq < 2 ^ 64) (h : ArrAt w l A) (hp : A.wait < 0) (hdk : w.cell? ⟨dk, 0, none⟩ = some (.pointer (some ⟨l.ab, 0, none⟩))) (hko : ¬ l.own A.n dk) :
    Calls Tryz.prog 38 #[.pointer (some ⟨dk, 0, none⟩), I d, I b, fv f] w (DWriteIs w l A d b f) := by
  have hb0 : Below w.heap.size w (w.alloc (.cells (bc 47 (fc f)) 130)) := (Below.refl _ w).alloc (Nat.le_refl _) _
  have HV := Lib.hid (Row.box w 47 (fc f) 130)
  have HB0 := Lib.hid hb0
  have HA := Lib.hid (h.later hb0)
  have hz0 : (w.alloc (.cells (bc 47 (fc f)) 130)).heap.size = w.heap.size + 1 := World.size_alloc ..
  have c0 : (w.alloc (.cells (bc 47 (fc f)) 130)).cell? ⟨dk, 0, none⟩ = some (.pointer (some ⟨l.ab, 0, none⟩)) := cell_alloc' hdk _
  have HP := Lib.hid (wr_power (d := d) (b := b) (x := Frm.blk f) hp)
  have HO := Lib.hid h.own_lt
  have HBl := Lib.hid (block_any f hf hq)
  clear h hb0 hdk hf hq
  go_enter Tryz.func38, Tryz.ntmps38
  go_upto_region 1 with fail
  change Code.wp _ _ _ _ (w.alloc (.cells (bc 47 (fc f)) 130))
  generalize w.alloc (.cells (bc 47 (fc f)) 130) = w0 at *
  obtain ⟨we, hwe⟩ : ∃ V, V = w0.drew := ⟨_, rfl⟩
  replace HA := Lib.hid (show ArrAt we l A from hwe ▸ HA.out.later (below_drew' w0))
  replace HV := Lib.hid (show Row we _ _ _ _ from hwe ▸ HV.out.drew)
  replace HB0 := Lib.hid (show Below w.heap.size w we from hwe ▸ (HB0.out.trans ((below_drew' w0).mono HB0.out.size)))
  replace hz0 : we.heap.size = w.heap.size + 1 := hwe ▸ hz0
  replace c0 : we.cell? ⟨dk, 0, none⟩ = some (.pointer (some ⟨l.ab, 0, none⟩)) := hwe ▸ c0
  obtain ⟨κ, hnk, wB, hBB, HWB⟩ := upd_worlds (fun k => k ≠ dk ∧ k ≠ w.heap.size) we
  have HL1 := Lib.hid (fun n => (HV.out.upd (hBB n) (fun _ h => h.2 rfl)).rd)
  have y0 : ∀ n, (wB n).cell? ⟨dk, 0, none⟩ = some (.pointer (some ⟨l.ab, 0, none⟩)) := fun n => by
    have h : Rd we dk 0 1 (fun _ => .pointer (some ⟨l.ab, 0, none⟩)) := fun i hi => by obtain rfl : i = 0 := (by omega); exact c0
    exact h.upd (hBB n) (fun _ h => h.1 rfl) 0 (by omega)
  refine wp_region_held_script [([0, 1, 2, 3, 4, 5, 6], [7, 8, 9])] 10 (fun V => ∃ n, V = wB n) mixed0 (by kernel_rfl) (by kernel_rfl) (fun c a d v w h => by cases d <;> exact h) (HWB.out _ (by rw [← hwe]; exact Upd.refl _ _)) ?_
  rw [← hwe]
  clear hwe c0
  simp only [scriptW]
  simp only [pick, List.filterMap_cons, List.filterMap_nil, List.getElem?_toArray, List.getElem?_cons_succ, List.getElem?_cons_zero]
  change wpQuiet _ _ _ _ (_ :: _ :: _ :: _ :: _ :: _ :: _ :: []) _
  repeat (first | (refine wpQuiet_load_rd (f := fc f) rfl 130 (.tmp 7) rfl rfl ?_ Tryz.underlying130 rfl a130 ?_; (rintro _ ⟨n, rfl⟩; exact HL1.out n); simp only [Act.put, List.setIfInBounds_toArray, List.set_cons_succ, List.set_cons_zero]) | go_big_quiet_step (fail))
  refine wpQuiet_nil ?_
  simp only [chainM, scriptW]
  refine wpOp_list (i := 7) rfl rfl ?_
  go_wp2_with fail
  refine (HBl.out _).mono ?_
  rintro e w3 ⟨rfl, hb3⟩
  go_wp2_with fail
  have hu3 : Upd (fun k => k ≠ dk ∧ k ≠ w.heap.size) we w3 := (Upd.of_below hb3).mono fun _ _ h => h.elim
  refine ⟨HWB.out _ hu3, ?_⟩
  have HA3 := Lib.hid (HA.out.later hb3)
  have HB3 := Lib.hid (HB0.out.trans (hb3.mono (by omega)))
  have HU3 := Lib.hid hu3
  clear hb3 hu3 HA HV HB0
  refine wpOp_list (i := 8) rfl rfl ?_
  go_wp2_with fail
  refine (write_any _ l A d b (Frm.blk f) HA3.out hp).mono ?_
  rintro e w4 ⟨v, rfl, hev, hA4, hu4⟩
  go_wp2_with fail
  have hg : ∀ k, d < A.n ∧ (k = l.bk d ∨ k = l.bd d) → l.own A.n k := fun k h => .inr (.inr ⟨d, h.1, h.2⟩)
  have hu5 : Upd (fun k => k ≠ dk ∧ k ≠ w.heap.size) we w4 := HU3.out.trans hu4 (fun k h _ => ⟨fun e => hko (e ▸ hg k h), fun e => by have := HO.out k (hg k h); omega⟩)
  have hw4 := HWB.out _ hu5
  refine ⟨hw4, ?_⟩
  have HW4 := Lib.hid hw4
  have HU6 := Lib.hid ((((Upd.of_below HB3.out).mono fun _ _ h => h.elim).trans hu4 (fun _ h _ => h)) : Upd (fun k => d < A.n ∧ (k = l.bk d ∨ k = l.bd d)) w w4)
  have HPn := Lib.hid (powered_any v _ w4 hev HP.out)
  have HEV := Lib.hid hev
  have HA4 := Lib.hid hA4
  clear hw4 hu4 hu5 hg hev hA4 HU3 HB3 HA3
  refine wpOp_list (i := 9) rfl rfl ?_
  go_wp2_with fail
  refine HPn.out.mono ?_
  rintro e w5 ⟨rfl, rfl⟩
  go_wp2_with fail
  refine ⟨HW4.out, ?_⟩
  simp only [List.drop_succ_cons, List.drop_zero]
  go_wp2_with fail
  go_ret
  exact ⟨_, rfl, HEV.out, HA4.out, HU6.out⟩
end Go.Proofs.YtgelingkifafeaaGreatDoor
