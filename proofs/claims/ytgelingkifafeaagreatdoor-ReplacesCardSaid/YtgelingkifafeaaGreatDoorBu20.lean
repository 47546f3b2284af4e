import Derived.Test.YtgelingkifafeaaGreatDoorBu16
import Derived.Test.YtgelingkifafeaaGreatDoorBu19
/- Array.Read, Array.Write. -/
namespace Go.Proofs.YtgelingkifafeaaGreatDoor
open Go Go.RowKit Go.Proofs
set_option maxRecDepth 100000
set_option linter.unusedVariables false

def Arr.set (A : Arr) (d : Nat) (x : Drv) : Arr := { A with drv := fun e => if e = d then x else A.drv e }
def Arr.saw (A : Arr) (d : Nat) : Arr := A.set d { A.drv d with reads := wrap64 ((A.drv d).reads + 1) }
/-- Read: the error, the block, the array. -/
def Arr.rd (A : Arr) (d b : Nat) : Option Int × (Nat → UInt8) × Arr :=
  match A.err d b with
  | some k => (some k, fun _ => 0, A)
  | none => if (A.drv d).bad b then (some 12, fun _ => 0, A.saw d) else (none, (A.drv d).blk b, A.saw d)
/-- An error, or none. -/
def EV (w : World) (v : Value) : Option Int → Prop
  | none => v = .nilIface
  | some k => BErr w v k

theorem BErr.upd1 {w w' : World} {v : Value} {k : Int} {r t : Nat} (h : BErr w v k) (hu : Upd (· = r) w w') (hr : Kd w r t) (ht : t ≠ 210) : BErr w' v k := by
  obtain ⟨e, d, b, rfl, hrow, hk⟩ := h
  have hne : e ≠ r := hk.ne hr (Ne.symm ht)
  exact ⟨e, d, b, rfl, hrow.upd hu fun _ => hne, hk.upd hu hne⟩
theorem BErr.later {w w' : World} {v : Value} {k : Int} (h : BErr w v k) (hb : Below w.heap.size w w') : BErr w' v k := by
  obtain ⟨e, d, b, rfl, hr, hk⟩ := h
  exact ⟨e, d, b, rfl, hr.later hb, hk.later hb⟩
theorem EV.later {w w' : World} {v : Value} {o : Option Int} (h : EV w v o) (hb : Below w.heap.size w w') : EV w' v o := by
  cases o with
  | none => exact h
  | some k => exact BErr.later h hb

section
variable {w : World} {l : ArrL} {A : Arr}
theorem ArrAt.rdBlk (h : ArrAt w l A) {d b : Nat} (hd : d < A.n) (hb : b < A.m) : Row w (l.bk d) (b * 64) 64 (rb ((A.drv d).blk b)) := by
  have hs := (h.blk d hd).sub (k := b * 64) (m := 64) (by omega)
  rw [Nat.zero_add] at hs
  exact hs.congr fun i hi => elz_at _ _ _ hi
theorem ArrAt.apart (h : ArrAt w l A) : (∀ d, d < A.n → l.bk d ≠ l.db ∧ l.bd d ≠ l.db ∧ l.bk d ≠ l.ab ∧ l.bd d ≠ l.ab) ∧ (0 < A.n → l.ab ≠ l.db) ∧ (∀ d e, d < A.n → e < A.n → l.bk d ≠ l.bd e) :=
  ⟨fun d hd => ⟨(h.kbk d hd).ne (h.kdb (by omega)) (by decide), (h.kbd d hd).ne (h.kdb (by omega)) (by decide), (h.kbk d hd).ne h.kab (by decide), (h.kbd d hd).ne h.kab (by decide)⟩,
    fun hn => h.kab.ne (h.kdb hn) (by decide), fun d e hd he => (h.kbk d hd).ne (h.kbd e he) (by decide)⟩

/-- A drive's own cell is turned. -/
theorem ArrAt.setDrv (h : ArrAt w l A) {d j : Nat} (hd : d < A.n) (hj : j < 4) (x : Drv) (v : Value) (hx : x.blk = (A.drv d).blk ∧ x.bad = (A.drv d).bad) (hv : ∀ i, i < 4 → dcell l (A.set d x) d i = if i = j then v else dcell l A d i) :
    ArrAt (w.setCell ⟨l.db, d * 4 + j, none⟩ v) l (A.set d x) := by
  obtain ⟨a1, a2, a3⟩ := h.apart
  have hn : 0 < A.n := by omega
  have hblk : ∀ e, ((A.set d x).drv e).blk = (A.drv e).blk := fun e => by
    by_cases he : e = d
    · subst he; simp [Arr.set, hx.1]
    · simp [Arr.set, he]
  have hbad : ∀ e, ((A.set d x).drv e).bad = (A.drv e).bad := fun e => by
    by_cases he : e = d
    · subst he; simp [Arr.set, hx.2]
    · simp [Arr.set, he]
  refine ⟨h.top.other (by exact (a2 hn).symm) _, ?_, fun e he => ?_, fun e he => ?_, h.kab.set _ _, fun h0 => (h.kdb h0).set _ _, fun e he => (h.kbk e he).set _ _, fun e he => (h.kbd e he).set _ _, h.ibk, h.ibd, h.n20, h.m40, h.cap, h.max⟩
  · have hs := h.drives.set (i := d * 4 + j) (mul_add_lt hd hj) v
    rw [Nat.zero_add] at hs
    refine hs.congr fun i hi => ?_
    have hdm := Nat.div_add_mod i 4
    have hi4 : i % 4 < 4 := Nat.mod_lt _ (by omega)
    have e1 : i = i / 4 * 4 + i % 4 := by omega
    generalize i / 4 = q at *
    generalize i % 4 = r at *
    subst e1
    rw [elz_at _ _ _ hi4, elz_at _ _ _ hi4]
    by_cases hq : q = d
    · subst hq
      rw [hv r hi4]
      by_cases hr : r = j
      · rw [if_pos (by omega), if_pos hr]
      · rw [if_neg (by omega), if_neg hr]
    · rw [if_neg (by omega)]
      simp [Arr.set, hq, dcell]
  · rw [show (A.set d x).m = A.m from rfl]
    have := (h.blk e he).other (a := ⟨l.db, d * 4 + j, none⟩) (by exact (a1 e he).1.symm) v
    exact this.congr fun i _ => by unfold elz; rw [hblk e]
  · rw [show (A.set d x).m = A.m from rfl]
    have := (h.bad e he).other (a := ⟨l.db, d * 4 + j, none⟩) (by exact (a1 e he).2.1.symm) v
    exact this.congr fun i _ => by rw [hbad e]
end

theorem zBlk (w : World) : (Instr.build 170 #[]).run Tryz.prog w = .ok (av 64 (rb fun _ => 0)) w := by kernel_rfl

def ReadIs (w : World) (l : ArrL) (A : Arr) (d b : Nat) (e : Ending) (w' : World) : Prop :=
  ∃ v, e = .returned (.tuple #[av 64 (rb (A.rd d b).2.1), v]) ∧ EV w' v (A.rd d b).1 ∧ ArrAt w' l (A.rd d b).2.2 ∧ Upd (· = l.db) w w'

theorem find_ok {w : World} {l : ArrL} {A : Arr} {d b : Nat} (h : ArrAt w l A) (he : A.err d b = none) : Calls Tryz.prog 78 #[.pointer (some ⟨l.ab, 0, none⟩), I d, I b] w fun e w' => e = .returned (.tuple #[.pointer (some ⟨l.db, d * 4, none⟩), .nilIface]) ∧ Below w.heap.size w w' := by
  refine (find_any w l A d b h).mono ?_
  rintro e w' ⟨⟨_, rfl⟩ | ⟨k, v, hk, _⟩, hb⟩
  · exact ⟨rfl, hb⟩
  · rw [he] at hk; cases hk
theorem find_no {w : World} {l : ArrL} {A : Arr} {d b : Nat} {k : Int} (h : ArrAt w l A) (he : A.err d b = some k) : Calls Tryz.prog 78 #[.pointer (some ⟨l.ab, 0, none⟩), I d, I b] w fun e w' => ∃ p, e = .returned (.tuple #[.pointer none, .iface 208 p]) ∧ BErr w' (.iface 208 p) k ∧ Below w.heap.size w w' := by
  refine (find_any w l A d b h).mono ?_
  rintro e w' ⟨⟨hk, _⟩ | ⟨k', v, hk, rfl, hbe⟩, hb⟩
  · rw [he] at hk; cases hk
  · rw [he] at hk; cases hk
    obtain ⟨e, d', b', rfl, _⟩ := id hbe
    exact ⟨_, rfl, hbe, hb⟩

theorem err_none {A : Arr} {d b : Nat} (h : A.err d b = none) : d < A.n ∧ b < A.m ∧ (A.drv d).lost = false ∧ A.wait ≠ 0 := by
  unfold Arr.err at h
  split at h
  · cases h
  · rename_i h0
    split at h
    · cases h
    · rename_i h1
      split at h
      · cases h
      · rename_i h2
        refine ⟨by omega, by omega, ?_, h0⟩
        cases hh : (A.drv d).lost with
        | false => rfl
        | true => exact absurd (.inr (.inr (by simpa using hh))) h1

theorem ArrAt.setReads {w : World} {l : ArrL} {A : Arr} (h : ArrAt w l A) {d : Nat} (hd : d < A.n) : ArrAt (w.setCell ⟨l.db, d * 4 + 3, none⟩ (I (wrap64 ((A.drv d).reads + 1)))) l (A.saw d) :=
  h.setDrv hd (by omega) _ _ ⟨rfl, rfl⟩ fun i hi => by
    match i, hi with
    | 0, _ | 1, _ | 2, _ | 3, _ => simp [dcell, Arr.set]

set_option maxHeartbeats 400000 in
theorem read_any (w : World) (l : ArrL) (A : Arr) (d b : Nat) (h : ArrAt w l A) : Calls Tryz.prog 65 #[.pointer (some ⟨l.ab, 0, none⟩), I d, I b] w (ReadIs w l A d b) := by
  have HV := Lib.hid (Row.box w 64 zc 170)
  have hb0 : Below w.heap.size w (w.alloc (.cells (bc 64 zc) 170)) := (Below.refl _ w).alloc (Nat.le_refl _) _
  have HB0 := Lib.hid hb0
  have H := Lib.hid (h.later hb0)
  have HK := Lib.hid (Kd.new w (bc 64 zc) 170)
  have HO := Lib.hid h.own_lt
  have hz0 : (w.alloc (.cells (bc 64 zc) 170)).heap.size = w.heap.size + 1 := World.size_alloc ..
  clear h hb0
  cases he : A.err d b with
  | some k =>
    have HF := Lib.hid (find_no H.out he)
    have HE := Lib.hid he
    clear he
    go_enter Tryz.func65, Tryz.ntmps65
    go_upto_region 1 with fail
    change Code.wp _ _ _ _ (w.alloc (.cells (bc 64 zc) 170))
    generalize w.alloc (.cells (bc 64 zc) 170) = w0 at *
    go_upto_region 3 with (go_at_call 78; refine HF.out.mono ?_; rintro e w1 ⟨p, rfl, hbe, hb⟩)
    have HV1 := Lib.hid (HV.out.later hb)
    have HB1 := Lib.hid (HB0.out.trans (hb.mono HB0.out.size))
    have HA1 := Lib.hid (H.out.later hb)
    have HBE := Lib.hid hbe
    have HK1 := Lib.hid (HK.out.later hb)
    have hz1 := hb.size
    clear hb hbe
    go_wp2_with (first | (refine wpList_build rfl 170 [] rfl [] rfl _ zBlk ?_; simp only [Act.put, List.setIfInBounds_toArray, List.set_cons_succ, List.set_cons_zero]) | (refine wpList_store_all (g := rb fun _ => 0) rfl 170 (.tmp 6) (.tmp 19) rfl rfl rfl HV1.out a170 (fun _ _ => rfl) ?_; intro w2 hu2 hs2 hk2 hr2; simp only [Act.put]))
    refine bodyPost_ret (v := .tuple #[av 64 (rb fun _ => 0), .iface 208 p]) (results_cell_slot Tryz.results65 (b := w.heap.size) rfl hr2.rd Tryz.underlying170 rfl a170) rfl ⟨_, by rw [show A.rd d b = (some k, fun _ => 0, A) from by simp [Arr.rd, HE.out]], ?_⟩
    rw [show A.rd d b = (some k, fun _ => 0, A) from by simp [Arr.rd, HE.out]]
    exact ⟨HBE.out.upd1 hu2 HK1.out (by decide), HA1.out.fresh hu2 HO.out (fun _ h => h ▸ Nat.le_refl _), (Upd.of_below (Below.upd HB1.out hu2 (fun _ h => h ▸ Nat.le_refl _) HB1.out.size)).mono fun _ _ h => h.elim⟩
  | none =>
    obtain ⟨hd, hb, _, _⟩ := err_none he
    have HF := Lib.hid (find_ok H.out he)
    have HE := Lib.hid he
    have n20 := H.out.n20; have m40 := H.out.m40
    clear he
    go_enter Tryz.func65, Tryz.ntmps65
    go_upto_region 1 with fail
    change Code.wp _ _ _ _ (w.alloc (.cells (bc 64 zc) 170))
    generalize w.alloc (.cells (bc 64 zc) 170) = w0 at *
    go_upto_region 4 with (go_at_call 78; refine HF.out.mono ?_; rintro e w1 ⟨rfl, hb⟩)
    have HV1 := Lib.hid (HV.out.later hb)
    have HB1 := Lib.hid (HB0.out.trans (hb.mono HB0.out.size))
    have HA1 := Lib.hid (H.out.later hb)
    have HK1 := Lib.hid (HK.out.later hb)
    have hz1 := hb.size
    have c3 : w1.cell? ⟨l.db, d * 4 + 3, none⟩ = some (I (A.drv d).reads) := HA1.out.cellD (j := 3) hd (by omega)
    have f3 : w1.frozen? ⟨l.db, d * 4 + 3, none⟩ = false := HA1.out.freeD (j := 3) hd (by omega)
    clear hb
    go_upto_region 5 with fail
    have hu1 : Upd (· = l.db) w1 (w1.setCell ⟨l.db, d * 4 + 3, none⟩ (I (wrap64 ((A.drv d).reads + 1)))) := (Upd.refl (· = l.db) w1).at1 _ _
    have hdb : l.db ≠ w.heap.size := by have := HO.out l.db (.inr (.inl ⟨rfl, by omega⟩)); omega
    have HV2 := Lib.hid (HV1.out.upd hu1 (fun _ => Ne.symm hdb))
    have HK2 := Lib.hid (HK1.out.upd hu1 (Ne.symm hdb))
    have HU2 := Lib.hid ((((Upd.of_below HB1.out).mono fun _ _ h => h.elim).trans hu1 (fun _ h _ => h)) : Upd (· = l.db) w _)
    have HA2 := Lib.hid (HA1.out.setReads hd)
    have hz2 : w.heap.size < (w1.setCell ⟨l.db, d * 4 + 3, none⟩ (I (wrap64 ((A.drv d).reads + 1)))).heap.size := by rw [World.size_setCell]; omega
    clear hu1 c3 f3 HV1 HB1 HA1 HK1 hz1
    change Code.wp _ _ _ _ (w1.setCell ⟨l.db, d * 4 + 3, none⟩ (I (wrap64 ((A.drv d).reads + 1))))
    generalize w1.setCell ⟨l.db, d * 4 + 3, none⟩ (I (wrap64 ((A.drv d).reads + 1))) = w2 at *
    have c1 : w2.cell? ⟨l.db, d * 4 + 1, none⟩ = some (.slice (some ⟨l.bk d, 0, none⟩) A.m A.m) := HA2.out.cellD (j := 1) hd (by omega)
    have c2 : w2.cell? ⟨l.db, d * 4 + 2, none⟩ = some (.slice (some ⟨l.bd d, 0, none⟩) A.m A.m) := HA2.out.cellD (j := 2) hd (by omega)
    have hsb : ((A.saw d).drv d).bad b = (A.drv d).bad b := by simp [Arr.saw, Arr.set]
    have hsk : ((A.saw d).drv d).blk b = (A.drv d).blk b := by simp [Arr.saw, Arr.set]
    have cb : w2.cell? ⟨l.bd d, b, none⟩ = some (.bool ((A.drv d).bad b)) := by have h := HA2.out.cbad (d := d) (b := b) hd hb; rwa [hsb] at h
    have HR2 := Lib.hid (show Row w2 (l.bk d) (b * 64) 64 (rb ((A.drv d).blk b)) from by have h := HA2.out.rdBlk (d := d) (b := b) hd hb; rwa [hsk] at h)
    clear hsb hsk
    cases hbad : (A.drv d).bad b with
    | true =>
      rw [hbad] at cb
      have HBad := Lib.hid hbad
      clear hbad
      go_wp2_with (first | (refine wpList_build rfl 170 [] rfl [] rfl _ zBlk ?_; simp only [Act.put, List.setIfInBounds_toArray, List.set_cons_succ, List.set_cons_zero]) | (refine wpList_store_all (g := rb fun _ => 0) rfl 170 (.tmp 6) (.tmp 35) rfl rfl rfl (HV2.out.alloc _) a170 (fun _ _ => rfl) ?_; intro w3 hu3 hs3 hk3 hr3; simp only [Act.put]))
      have hbe := (berr_new w2 d b 12).upd1 hu3 (HK2.out.alloc _) (by decide)
      refine bodyPost_ret (v := .tuple #[av 64 (rb fun _ => 0), .iface 208 (.pointer (some ⟨w2.heap.size, 0, none⟩))]) (results_cell_slot Tryz.results65 (b := w.heap.size) rfl hr3.rd Tryz.underlying170 rfl a170) rfl ⟨_, by rw [show A.rd d b = (some 12, fun _ => 0, A.saw d) from by simp [Arr.rd, HE.out, HBad.out]], ?_⟩
      rw [show A.rd d b = (some 12, fun _ => 0, A.saw d) from by simp [Arr.rd, HE.out, HBad.out]]
      exact ⟨hbe, (HA2.out.later ((Below.refl _ w2).alloc (Nat.le_refl _) _)).fresh hu3 HO.out (fun _ h => h ▸ Nat.le_refl _), (HU2.out.alloc _).trans hu3 (fun _ h h2 => by omega)⟩
    | false =>
      rw [hbad] at cb
      have HBad := Lib.hid hbad
      clear hbad
      go_wp2_with (first | (refine wpList_load_rd rfl 170 (.tmp 46) rfl rfl HR2.out.rd Tryz.underlying170 rfl a170 ?_; simp only [Act.put, List.setIfInBounds_toArray, List.set_cons_succ, List.set_cons_zero]) | (refine wpList_store_all (g := rb ((A.drv d).blk b)) rfl 170 (.tmp 6) (.tmp 47) rfl rfl rfl HV2.out a170 (fun _ _ => rfl) ?_; intro w3 hu3 hs3 hk3 hr3; simp only [Act.put]))
      refine bodyPost_ret (v := .tuple #[av 64 (rb ((A.drv d).blk b)), .nilIface]) (results_cell_slot Tryz.results65 (b := w.heap.size) rfl hr3.rd Tryz.underlying170 rfl a170) rfl ⟨_, by rw [show A.rd d b = (none, (A.drv d).blk b, A.saw d) from by simp [Arr.rd, HE.out, HBad.out]], ?_⟩
      rw [show A.rd d b = (none, (A.drv d).blk b, A.saw d) from by simp [Arr.rd, HE.out, HBad.out]]
      exact ⟨rfl, HA2.out.fresh hu3 HO.out (fun _ h => h ▸ Nat.le_refl _), HU2.out.trans hu3 (fun _ h h2 => by omega)⟩
end Go.Proofs.YtgelingkifafeaaGreatDoor

/- Array.Write, where the power is on. -/
namespace Go.Proofs.YtgelingkifafeaaGreatDoor
open Go Go.RowKit Go.Proofs
set_option maxRecDepth 100000
set_option linter.unusedVariables false

/-- Write, with power: the error, the array. -/
def Arr.wr (A : Arr) (d b : Nat) (x : Nat → UInt8) : Option Int × Arr :=
  match A.err d b with
  | some k => (some k, A)
  | none => (none, A.set d { A.drv d with blk := fun c => if c = b then x else (A.drv d).blk c, bad := fun c => if c = b then false else (A.drv d).bad c })

section
variable {w w' : World} {l : ArrL} {A : Arr}
/-- A block is turned, and told to be good. -/
theorem ArrAt.setBlk (h : ArrAt w l A) {d b : Nat} (hd : d < A.n) (hb : b < A.m) (x : Nat → UInt8) (hu : Upd (fun k => k = l.bk d ∨ k = l.bd d) w w') (hk : KdKept w w')
    (h1 : Row w' (l.bk d) 0 (A.m * 64) (fun i => if b * 64 ≤ i ∧ i < b * 64 + 64 then rb x (i - b * 64) else elz 64 (fun c i => B ((A.drv d).blk c i)) i)) (h2 : Row w' (l.bd d) 0 A.m (fun c => if c = b then .bool false else .bool ((A.drv d).bad c))) :
    ArrAt w' l (A.set d { A.drv d with blk := fun c => if c = b then x else (A.drv d).blk c, bad := fun c => if c = b then false else (A.drv d).bad c }) := by
  obtain ⟨a1, a2, a3⟩ := h.apart
  have hn : 0 < A.n := by omega
  refine ⟨h.top.upd hu fun _ => fun hx => hx.elim (fun e => (a1 d hd).2.2.1 e.symm) (fun e => (a1 d hd).2.2.2 e.symm), ?_, fun e he => ?_, fun e he => ?_, hk _ _ h.kab, fun h0 => hk _ _ (h.kdb h0), fun e he => hk _ _ (h.kbk e he), fun e he => hk _ _ (h.kbd e he), h.ibk, h.ibd, h.n20, h.m40, h.cap, h.max⟩
  · have := h.drives.upd hu fun _ => fun hx => hx.elim (fun e => (a1 d hd).1 e.symm) (fun e => (a1 d hd).2.1 e.symm)
    refine this.congr fun i _ => ?_
    unfold elz dcell
    by_cases hi : i / 4 = d
    · simp [Arr.set, hi]
    · simp [Arr.set, hi]
  · by_cases hed : e = d
    · subst hed
      refine h1.congr fun i hi => ?_
      have hdm := Nat.div_add_mod i 64
      have hi4 : i % 64 < 64 := Nat.mod_lt _ (by omega)
      unfold elz
      by_cases hin : b * 64 ≤ i ∧ i < b * 64 + 64
      · rw [if_pos hin]
        have : i / 64 = b := by omega
        simp only [Arr.set, if_true, this]
        rw [show i - b * 64 = i % 64 by omega]
      · rw [if_neg hin]
        have : i / 64 ≠ b := by omega
        simp [Arr.set, this]
    · have := (h.blk e he).upd hu fun _ => fun hx => hx.elim (fun x => h.ibk e d he hd hed x) (fun x => a3 e d he hd x)
      exact this.congr fun i _ => by unfold elz; simp [Arr.set, hed]
  · by_cases hed : e = d
    · subst hed
      refine h2.congr fun i hi => ?_
      by_cases hib : i = b
      · simp [Arr.set, hib]
      · simp [Arr.set, hib]
    · have := (h.bad e he).upd hu fun _ => fun hx => hx.elim (fun x => a3 d e hd he x.symm) (fun x => h.ibd e d he hd hed x)
      exact this.congr fun i _ => by simp [Arr.set, hed]
end

def WriteIs (w : World) (l : ArrL) (A : Arr) (d b : Nat) (x : Nat → UInt8) (e : Ending) (w' : World) : Prop :=
  ∃ v, e = .returned v ∧ EV w' v (A.wr d b x).1 ∧ ArrAt w' l (A.wr d b x).2 ∧ Upd (fun k => d < A.n ∧ (k = l.bk d ∨ k = l.bd d)) w w'

set_option maxHeartbeats 400000 in
theorem write_any (w : World) (l : ArrL) (A : Arr) (d b : Nat) (x : Nat → UInt8) (h : ArrAt w l A) (hp : A.wait < 0) : Calls Tryz.prog 56 #[.pointer (some ⟨l.ab, 0, none⟩), I d, I b, av 64 (rb x)] w (WriteIs w l A d b x) := by
  have HV := Lib.hid (Row.box w 64 (rb x) 170)
  have hb0 : Below w.heap.size w (w.alloc (.cells (bc 64 (rb x)) 170)) := (Below.refl _ w).alloc (Nat.le_refl _) _
  have HB0 := Lib.hid hb0
  have H := Lib.hid (h.later hb0)
  have HO := Lib.hid h.own_lt
  have hz0 : (w.alloc (.cells (bc 64 (rb x)) 170)).heap.size = w.heap.size + 1 := World.size_alloc ..
  clear h hb0
  cases he : A.err d b with
  | some k =>
    have HF := Lib.hid (find_no H.out he)
    have HE := Lib.hid he
    clear he
    go_enter Tryz.func56, Tryz.ntmps56
    go_upto_region 1 with fail
    change Code.wp _ _ _ _ (w.alloc (.cells (bc 64 (rb x)) 170))
    generalize w.alloc (.cells (bc 64 (rb x)) 170) = w0 at *
    go_wp2_with (go_at_call 78; refine HF.out.mono ?_; rintro e w1 ⟨p, rfl, hbe, hb⟩)
    go_ret
    rw [WriteIs, show A.wr d b x = (some k, A) from by simp [Arr.wr, HE.out]]
    exact ⟨_, rfl, hbe, H.out.later hb, (Upd.of_below (HB0.out.trans (hb.mono HB0.out.size))).mono fun _ _ h => h.elim⟩
  | none =>
    obtain ⟨hd, hb, _, _⟩ := err_none he
    have HF := Lib.hid (find_ok H.out he)
    have HE := Lib.hid he
    have n20 := H.out.n20; have m40 := H.out.m40
    have hw0 : decide (0 < A.wait) = false := decide_eq_false (by omega)
    clear he
    go_enter Tryz.func56, Tryz.ntmps56
    go_upto_region 1 with fail
    change Code.wp _ _ _ _ (w.alloc (.cells (bc 64 (rb x)) 170))
    generalize w.alloc (.cells (bc 64 (rb x)) 170) = w0 at *
    go_upto_region 4 with (go_at_call 78; refine HF.out.mono ?_; rintro e w1 ⟨rfl, hb⟩)
    have HV1 := Lib.hid (HV.out.later hb)
    have HB1 := Lib.hid (HB0.out.trans (hb.mono HB0.out.size))
    have HA1 := Lib.hid (H.out.later hb)
    have hz1 := hb.size
    have c1 : w1.cell? ⟨l.ab, 1, none⟩ = some (I A.wait) := HA1.out.c1
    clear hb
    go_upto_region 9 with fail
    obtain ⟨we, hwe⟩ : ∃ V, V = w1.drew := ⟨_, rfl⟩
    replace HA1 := Lib.hid (show ArrAt we l A from hwe ▸ HA1.out.later (below_drew' w1))
    replace HV1 := Lib.hid (show Row we _ _ _ _ from hwe ▸ HV1.out.drew)
    replace HB1 := Lib.hid (show Below w.heap.size w we from hwe ▸ (HB1.out.trans ((below_drew' w1).mono HB1.out.size)))
    replace hz1 : w0.heap.size ≤ we.heap.size := hwe ▸ hz1
    obtain ⟨a1, a2, a3⟩ := HA1.out.apart
    have hbk := HO.out _ (.inr (.inr ⟨d, hd, .inl rfl⟩))
    have hbd := HO.out _ (.inr (.inr ⟨d, hd, .inr rfl⟩))
    obtain ⟨κ, hnk, wB, hBB, HWB⟩ := upd_worlds (fun k => k = l.bk d ∨ k = l.bd d) we
    have HL1 := Lib.hid (fun n => (HV1.out.upd (hBB n) (fun _ => fun hx => hx.elim (fun e => by omega) (fun e => by omega))).rd)
    have HDr := Lib.hid (fun n => HA1.out.drives.upd (hBB n) (fun _ => fun hx => hx.elim (fun e => (a1 d hd).1 e.symm) (fun e => (a1 d hd).2.1 e.symm)))
    have y1 : ∀ n, (wB n).cell? ⟨l.db, d * 4 + 1, none⟩ = some (.slice (some ⟨l.bk d, 0, none⟩) A.m A.m) := fun n => by
      have := (HDr.out n).cell (d * 4 + 1) (mul_add_lt hd (by omega)); rwa [Nat.zero_add, elz_at _ _ _ (by omega)] at this
    have y2 : ∀ n, (wB n).cell? ⟨l.db, d * 4 + 2, none⟩ = some (.slice (some ⟨l.bd d, 0, none⟩) A.m A.m) := fun n => by
      have := (HDr.out n).cell (d * 4 + 2) (mul_add_lt hd (by omega)); rwa [Nat.zero_add, elz_at _ _ _ (by omega)] at this
    obtain ⟨f1, hf1⟩ : ∃ f, f = fun i => if b * 64 ≤ i ∧ i < b * 64 + 64 then rb x (i - b * 64) else elz 64 (fun c i => B ((A.drv d).blk c i)) i := ⟨_, rfl⟩
    obtain ⟨f2, hf2⟩ : ∃ f : Nat → Value, f = fun c => if c = b then .bool false else .bool ((A.drv d).bad c) := ⟨_, rfl⟩
    have HF1 := Lib.hid hf1
    have HF2 := Lib.hid hf2
    obtain ⟨S, hS⟩ : ∃ S : (Nat → Bool) → World → Prop, ∀ L V, S L V ↔ (Upd (fun k => k = l.bk d ∨ k = l.bd d) we V ∧ KdKept we V ∧ Row V (l.bk d) 0 (A.m * 64) (if L 12 then f1 else elz 64 (fun c i => B ((A.drv d).blk c i))) ∧ Row V (l.bd d) 0 A.m (if L 14 then f2 else fun c => .bool ((A.drv d).bad c))) := ⟨_, fun _ _ => Iff.rfl⟩
    have HS := Lib.hid hS
    have HSn := Lib.hid (fun j (h1 : j ≠ 12) (h2 : j ≠ 14) L V (h : S L V) => show S (setL j L) V from (hS _ _).2 (by have h := (hS _ _).1 h; rwa [setL_ne h1, setL_ne h2]))
    refine wp_region_I S mixed0 (by kernel_rfl) (by rw [← hwe]; exact (hS _ _).2 ⟨Upd.refl _ _, KdKept.refl _, HA1.out.blk d hd, HA1.out.bad d hd⟩) ?_
    clear hwe hS hf1 hf2
    refine wpI_reads (C := fun V => ∃ n, V = wB n) 12 (by decide) rfl (fun L V h => HWB.out V ((HS.out _ _).1 h).1) (fun j h1 h2 => HSn.out j (by omega) (by omega)) ?_
    simp only [List.drop_zero, List.take_succ_cons, List.take_zero]
    repeat (first | (refine wpQuiet_load_rd (f := rb x) rfl 170 (.tmp 7) rfl rfl ?_ Tryz.underlying170 rfl a170 ?_; (rintro _ ⟨n, rfl⟩; exact HL1.out n); simp only [Act.put, List.setIfInBounds_toArray, List.set_cons_succ, List.set_cons_zero]) | go_big_quiet_step (fail))
    refine wpQuiet_nil ?_
    simp only [Nat.zero_add]
    refine wpI_eff rfl rfl undef ?_ ?_
    · intro L V hL _ hS
      obtain ⟨h1, h2, h3, h4⟩ := (HS.out _ _).1 hS
      rw [hL] at h3
      have H1 := Lib.hid h1
      have H2 := Lib.hid h2
      have H3 := Lib.hid h3
      have H4 := Lib.hid h4
      clear h1 h2 h3 h4 hS hL y1 y2
      go_wp2_with (refine wpList_store_in (g := rb x) (N := A.m * 64) rfl 170 (.tmp 60) (.tmp 59) rfl rfl rfl H3.out (by omega) a170 (fun _ _ => rfl) ?_; intro w6 hu6 hs6 hk6 hr6; simp only [Act.put])
      refine (HS.out (setL 12 L) _).2 ⟨H1.out.trans hu6 (fun _ h _ => .inl h), H2.out.trans hk6, by rw [setL_eq]; rw [HF1.out]; exact hr6, by rw [setL_ne (by omega)]; exact H4.out.upd hu6 (fun _ => (a3 d d hd hd).symm)⟩
    simp only [Act.put, List.setIfInBounds_toArray, List.set_cons_succ, List.set_cons_zero]
    refine wpI_reads (C := fun V => ∃ n, V = wB n) 1 (by decide) rfl (fun L V h => HWB.out V ((HS.out _ _).1 h).1) (fun j h1 h2 => HSn.out j (by omega) (by omega)) ?_
    simp only [List.drop_succ_cons, List.drop_zero, List.take_succ_cons, List.take_zero]
    repeat (go_big_quiet_step (fail))
    refine wpQuiet_nil ?_
    refine wpI_eff rfl rfl undef ?_ ?_
    · intro L V hL _ hS
      obtain ⟨h1, h2, h3, h4⟩ := (HS.out _ _).1 hS
      rw [hL] at h4
      have H1 := Lib.hid h1
      have H2 := Lib.hid h2
      have H3 := Lib.hid h3
      have H4 := Lib.hid h4
      have x0 : V.cell? ⟨l.bd d, b, none⟩ = some (.bool ((A.drv d).bad b)) := by have h := H4.out.cell b hb; rwa [Nat.zero_add] at h
      have x1 : V.frozen? ⟨l.bd d, b, none⟩ = false := by have h := H4.out.free b hb; rwa [Nat.zero_add] at h
      clear h1 h2 h3 h4 hS hL y1 y2
      go_wp2_with fail
      have hu6 := (Upd.refl (· = l.bd d) V).at1 b (.bool false)
      refine (HS.out (setL 14 L) _).2 ⟨H1.out.trans hu6 (fun _ h _ => .inr h), H2.out.set _ _, by rw [setL_ne (by omega)]; exact H3.out.upd hu6 (fun _ => a3 d d hd hd), by
        rw [setL_eq, HF2.out]
        have h := H4.out.set hb (.bool false)
        rwa [Nat.zero_add] at h⟩
    simp only [Act.put, List.setIfInBounds_toArray, List.set_cons_succ, List.set_cons_zero]
    refine wpI_end (by decide) ?_
    intro L V hall hS
    obtain ⟨h1, h2, h3, h4⟩ := (HS.out _ _).1 hS
    rw [hall 12 (by decide), if_pos rfl, HF1.out] at h3
    rw [hall 14 (by decide), if_pos rfl, HF2.out] at h4
    have HA2 := Lib.hid (HA1.out.setBlk hd hb x h1 h2 h3 h4)
    have HU2 := Lib.hid ((((Upd.of_below HB1.out).mono fun _ _ h => h.elim).trans h1 (fun _ h _ => ⟨hd, h⟩)) : Upd (fun k => d < A.n ∧ (k = l.bk d ∨ k = l.bd d)) w V)
    clear h1 h2 h3 h4 hS hall y1 y2 c1
    go_wp2_with fail
    go_ret
    rw [WriteIs, show A.wr d b x = (none, A.set d { A.drv d with blk := fun c => if c = b then x else (A.drv d).blk c, bad := fun c => if c = b then false else (A.drv d).bad c }) from by simp [Arr.wr, HE.out]]
    exact ⟨_, rfl, rfl, HA2.out, HU2.out⟩
end Go.Proofs.YtgelingkifafeaaGreatDoor

/- Lose: a drive is taken away. -/
namespace Go.Proofs.YtgelingkifafeaaGreatDoor
open Go Go.RowKit Go.Proofs
set_option maxRecDepth 100000
set_option linter.unusedVariables false

def Arr.lose (A : Arr) (d : Nat) : Arr := A.set d { A.drv d with lost := true }

set_option maxHeartbeats 1000000 in
theorem lose_any (w : World) (l : ArrL) (A : Arr) (d : Nat) (h : ArrAt w l A) (hd : d < A.n) : Calls Tryz.prog 17 #[.pointer (some ⟨l.ab, 0, none⟩), I d] w fun e w' => e = .returned (.tuple #[]) ∧ ArrAt w' l (A.lose d) ∧ Upd (· = l.db) w w' := by
  have c0 := h.c0
  have n20 := h.n20; have hcap := h.cap; have hmax := h.max
  have hv : l.dv A.n = .slice (some ⟨l.db, 0, none⟩) A.n l.dc := by unfold ArrL.dv; rw [if_neg (by omega)]
  simp only [if_pos, hv] at c0
  have q0 := h.cellD (j := 0) hd (by omega)
  have g0 := h.freeD (j := 0) hd (by omega)
  rw [Nat.add_zero] at q0 g0
  have q1 : w.cell? ⟨l.db, d * 4, none⟩ = some (.bool (A.drv d).lost) := q0
  have hA := Lib.hid (h.setDrv (j := 0) hd (by omega) { A.drv d with lost := true } (.bool true) ⟨rfl, rfl⟩ (fun i hi => by
    match i, hi with | 0, _ | 1, _ | 2, _ | 3, _ => simp [dcell, Arr.set]))
  rw [Nat.add_zero] at hA
  have b0 : decide ((0 : Int) ≤ (d : Int)) = true := decide_eq_true (by omega)
  have b1 : decide ((d : Int) < (A.n : Int)) = true := decide_eq_true (by omega)
  have b2 : (d : Int) < (A.n : Int) := by omega
  clear h hv q0
  go_enter Tryz.func17, Tryz.ntmps17
  go_wp2_with fail
  refine bodyPost_end (v := .tuple #[]) (results_none Tryz.results17 _ _ _) rfl ?_
  exact ⟨rfl, hA.out, (Upd.refl _ w).at1 _ _⟩
end Go.Proofs.YtgelingkifafeaaGreatDoor
