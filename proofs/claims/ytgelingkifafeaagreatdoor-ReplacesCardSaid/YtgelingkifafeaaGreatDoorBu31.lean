import Derived.Test.YtgelingkifafeaaGreatDoorBu30
import Derived.Test.YtgelingkifafeaaGreatDoorBu26
import Derived.Test.YtgelingkifafeaaGreatDoorBu16
/- archive.Open. -/
namespace Go.Proofs.YtgelingkifafeaaGreatDoor
open Go Go.RowKit Go.Proofs Lin
set_option maxRecDepth 100000
set_option linter.unusedVariables false

theorem Cd.own_lt {w : World} {cb D L G : Nat} {v : Value} {β : Nat → Nat} (h : Cd w cb D L G v β) : ∀ b, cdOwn cb (D + L + G) v β b → b < w.heap.size := by
  rintro b (rfl | hb | ⟨j, hj, rfl⟩)
  · exact h.kd.lt
  · rcases h.gm.vc.2 with ⟨rfl, _⟩ | ⟨g, cap, cur, rfl, _, hgh, _⟩
    · simp [Value.ownBlock] at hb
    · have : g = b := by simpa [Value.ownBlock] using hb
      subst this
      exact (Array.getElem?_eq_some_iff.1 hgh).1
  · exact (h.gm.kd j hj).lt
theorem ArcAt.kept {w w' : World} {ar cb kb : Nat} {l : ArrL} {A : Arr} {D L G : Nat} {cv : Value} {β : Nat → Nat} {h : Hd} {ov lv bv : Value} {X : Nat → Prop} (H : ArcAt w ar cb kb l A D L G cv β h ov lv bv) (hu : Upd X w w')
    (h1 : ¬ X ar) (h2 : ∀ b, l.own A.n b → ¬ X b) (h3 : ∀ b, cdOwn cb (D + L + G) cv β b → ¬ X b) : ArcAt w' ar cb kb l A D L G cv β h ov lv bv :=
  ⟨H.top.upd hu fun _ => h1, H.kd.upd hu h1, H.arr.kept hu (fun b hb _ => h2 b hb), H.cd.kept hu h3 (by have := H.right.d1; omega), H.right, H.n, H.wait⟩

def OpnFIs (w : World) (l : ArrL) (n D L G : Nat) (r : Option Nat × Hd × Arr) (e : Ending) (w' : World) : Prop :=
  Upd (l.own n) w w' ∧ match r.1 with
  | none => ∃ ar cb kb cv β, e = .returned (.tuple #[.pointer (some ⟨ar, 0, none⟩), .nilIface]) ∧ ArcAt w' ar cb kb l r.2.2 D L G cv β r.2.1 (.slice none 0 0) (.slice none 0 0) .nilIface ∧ w.heap.size ≤ ar
  | some k => e = .returned (.tuple #[.pointer none, errV (some k)]) ∧ ArrAt w' l r.2.2

set_option maxHeartbeats 4000000 in
theorem opnF_any (w : World) (l : ArrL) (A : Arr) (D L G c : Nat) (H : ArrAt w l A) (hwt : A.wait < 0) (hR : Right D L G) (hc : c ≤ 64) (hn : A.n = D + L + G) (hm : 8 ≤ A.m)
    (hsz : (hdTo A (D + L + G)).found = true → (hdTo A (D + L + G)).latest.fits D L G = true → (hdTo A (D + L + G)).latest.size = 0) :
    Calls Tryz.prog 18 #[.pointer (some ⟨l.ab, 0, none⟩), PV D L G, .agg #[I c]] w (OpnFIs w l A.n D L G (opnTo D L G hd0 (hdTo A (D + L + G)))) := by
  have HH := Lib.hid H
  have HRt := Lib.hid hR
  have HSz := Lib.hid hsz
  have HWt := Lib.hid hwt
  have Hn := Lib.hid hn
  have Hm := Lib.hid hm
  have d1 := hR.d1
  have b1 : decide ((c : Int) < 0) = false := decide_eq_false (by omega)
  have b2 : decide ((64 : Int) < (c : Int)) = false := decide_eq_false (by omega)
  have HBx := Lib.hid (show Below w.heap.size w ((w.alloc (.cells #[I D, I L, I G] 23)).alloc (.cells #[I c] 33)) from ((Below.refl _ w).alloc (Nat.le_refl _) _).alloc (by simp) _)
  have HPx := Lib.hid (show Row ((w.alloc (.cells #[I D, I L, I G] 23)).alloc (.cells #[I c] 33)) w.heap.size 0 3 (pcells D L G) from by
    refine ((Row.lit w #[I D, I L, I G] 23).later ((Below.refl _ _).alloc (Nat.le_refl _) _)).congr fun i hi => ?_
    match i, hi with | 0, _ | 1, _ | 2, _ => rfl)
  have HCx := Lib.hid (Row.lit (w.alloc (.cells #[I D, I L, I G] 23)) #[I c] 33)
  have hzx : (w.alloc (.cells #[I D, I L, I G] 23)).heap.size = w.heap.size + 1 := World.size_alloc ..
  rw [hzx] at HCx
  clear H hR hsz hwt hn hm
  go_enter Tryz.func18, Tryz.ntmps18
  go_upto_region 1 with fail
  generalize (w.alloc (.cells #[.int .i64 D, .int .i64 L, .int .i64 G] 23)).alloc (.cells #[.int .i64 c] 33) = w1 at *
  have HK1 := Lib.hid (HH.out.later HBx.out)
  have x0 : w1.cell? ⟨w.heap.size, 0, none⟩ = some (I D) := HPx.out.cell 0 (by omega)
  have x1 : w1.cell? ⟨w.heap.size, 1, none⟩ = some (I L) := HPx.out.cell 1 (by omega)
  have x2 : w1.cell? ⟨w.heap.size, 2, none⟩ = some (I G) := HPx.out.cell 2 (by omega)
  clear hzx
  go_upto_region 2 with (go_at_call 26; refine (new_ok D L G HRt.out w1).mono ?_; rintro e w2 ⟨cb, cv, β, rfl, hC2⟩)
  have HK2 := Lib.hid (HK1.out.later hC2.below)
  have HB2 := Lib.hid (HBx.out.trans (hC2.below.mono HBx.out.size))
  have HP2 := Lib.hid (HPx.out.later hC2.below)
  have HX2 := Lib.hid (HCx.out.later hC2.below)
  have HC2 := Lib.hid (Cd.of hC2)
  have HOw := Lib.hid (show w1.heap.size ≤ cb from hC2.own)
  clear hC2 x0 x1 x2 HK1 HBx HPx HCx
  have y0 : w2.cell? ⟨w.heap.size + 1, 0, none⟩ = some (I c) := HX2.out.cell 0 (by simp)
  go_upto_region 6 with fail
  obtain ⟨N, hN⟩ : ∃ N, N = D + L + G := ⟨_, rfl⟩
  have eN : (D : Int) + L + G = (N : Int) := by omega
  have hnn : ((N : Int) == (N : Int)) = true := by simp
  obtain ⟨M, hM⟩ : ∃ M, M = A.m := ⟨_, rfl⟩
  have hm8 : decide ((M : Int) < 8) = false := decide_eq_false (by have := Hm.out; omega)
  have hD7 := HRt.out.sum
  obtain ⟨ι1, hι1, wA, hwA, HWA⟩ := later_worlds w2
  have HBA := Lib.hid hwA
  have HDr := Lib.hid (fun n => show Calls Tryz.prog 27 #[.pointer (some ⟨l.ab, 0, none⟩)] (wA n) fun e w' => e = .returned (I N) ∧ w' = wA n from by
    have := drives_any (wA n) l A (HK2.out.later (hwA n)); rwa [Hn.out, ← hN] at this)
  have HBl := Lib.hid (fun n => show Calls Tryz.prog 28 #[.pointer (some ⟨l.ab, 0, none⟩)] (wA n) fun e w' => e = .returned (I M) ∧ w' = wA n from by
    have := blocks_any (wA n) l A (HK2.out.later (hwA n)); rwa [if_neg (by rw [Hn.out]; omega), ← hM] at this)
  have HSh := Lib.hid (fun V => show Calls Tryz.prog 15 #[PV D L G] V fun e w' => e = .returned (I N) ∧ Below V.heap.size V w' from by
    have := shards_any D L G (by omega) V; rwa [eN] at this)
  have x0 : ∀ n, (wA n).cell? ⟨w.heap.size, 0, none⟩ = some (I D) := fun n => (HP2.out.later (hwA n)).cell 0 (by omega)
  have x1 : ∀ n, (wA n).cell? ⟨w.heap.size, 1, none⟩ = some (I L) := fun n => (HP2.out.later (hwA n)).cell 1 (by omega)
  have x2 : ∀ n, (wA n).cell? ⟨w.heap.size, 2, none⟩ = some (I G) := fun n => (HP2.out.later (hwA n)).cell 2 (by omega)
  have HNx := Lib.hid (fun n V (hb : Below (wA n).heap.size (wA n) V) => HWA.out V ((hwA n).trans (hb.mono (hwA n).size)))
  have HNe := Lib.hid hN
  clear hwA eN hN hM hc d1
  refine wp_region_I (fun _ V => ∃ n, V = wA n) mixed0 (by kernel_rfl) (HWA.out _ (below_drew' w2)) ?_
  refine wpI_reads (C := fun V => ∃ n, V = wA n) 1 (by decide) rfl (fun L V h => h) (fun j _ _ L V h => h) ?_
  simp only [List.drop_zero, List.take_succ_cons, List.take_zero]
  repeat (go_big_quiet_step (fail))
  refine wpQuiet_nil ?_
  simp only [Nat.zero_add]
  refine wpI_eff rfl rfl (I N) ?_ ?_
  · intro L' V hL _ hS
    obtain ⟨n, rfl⟩ := hS
    go_wp2_with fail
    refine (HDr.out n).mono ?_
    rintro e w3 ⟨rfl, rfl⟩
    go_wp2_with fail
    exact ⟨rfl, n, rfl⟩
  simp only [Act.put, List.setIfInBounds_toArray, List.set_cons_succ, List.set_cons_zero]
  refine wpI_reads (C := fun V => ∃ n, V = wA n) 1 (by decide) rfl (fun L V h => h) (fun j _ _ L V h => h) ?_
  simp only [List.drop_succ_cons, List.drop_zero, List.take_succ_cons, List.take_zero]
  repeat (go_big_quiet_step (fail))
  refine wpQuiet_nil ?_
  refine wpI_eff rfl rfl (I N) ?_ ?_
  · intro L' V hL _ hS
    obtain ⟨n, rfl⟩ := hS
    go_wp2_with fail
    refine (HSh.out _).mono ?_
    rintro e w3 ⟨rfl, hb⟩
    go_wp2_with fail
    exact ⟨rfl, HNx.out n _ hb⟩
  simp only [Act.put, List.setIfInBounds_toArray, List.set_cons_succ, List.set_cons_zero]
  refine wpI_reads (C := fun V => ∃ n, V = wA n) 3 (by decide) rfl (fun L V h => h) (fun j _ _ L V h => h) ?_
  simp only [List.drop_succ_cons, List.drop_zero, List.take_succ_cons, List.take_zero]
  repeat (go_big_quiet_step (fail))
  refine wpQuiet_nil ?_
  refine wpI_effG rfl rfl (I M) ?_ ?_
  · intro L' V hL _ hS
    obtain ⟨n, rfl⟩ := hS
    go_wp2_with fail
    refine (HBl.out n).mono ?_
    rintro e w3 ⟨rfl, rfl⟩
    go_wp2_with fail
    exact ⟨rfl, n, rfl⟩
  simp only [Act.put, List.setIfInBounds_toArray, List.set_cons_succ, List.set_cons_zero]
  refine wpI_reads (C := fun V => ∃ n, V = wA n) 2 (by decide) rfl (fun L V h => h) (fun j _ _ L V h => h) ?_
  simp only [List.drop_succ_cons, List.drop_zero, List.take_succ_cons, List.take_zero]
  repeat (go_big_quiet_step (fail))
  refine wpQuiet_nil ?_
  refine wpI_end (by decide) ?_
  intro L' w3 _ hS
  have HB23 : Hid (Below w2.heap.size w2 w3) := by obtain ⟨n, rfl⟩ := hS; exact Lib.hid (HBA.out n)
  clear hS HBA HDr HBl HSh x0 x1 x2 HNx y0 HWA
  have HK3 := Lib.hid (HK2.out.later HB23.out)
  have HB3 := Lib.hid (HB2.out.trans (HB23.out.mono HB2.out.size))
  have HC3 := Lib.hid (HC2.out.later HB23.out HRt.out.d1)
  have y0 : w3.cell? ⟨w.heap.size + 1, 0, none⟩ = some (I c) := (HX2.out.later HB23.out).cell 0 (by simp)
  go_upto_region 9 with (go_at_call 29; refine (keptNew_any c w3).mono ?_; rintro e w4 ⟨rfl, hb4, hz4, hr4, hm4⟩)
  have hu5 : Below w4.heap.size w4 (w4.alloc (.cells #[.pointer (some ⟨l.ab, 0, none⟩), .pointer (some ⟨cb, 0, none⟩), .pointer (some ⟨w3.heap.size + 1, 0, none⟩), U64 0, I 0, I 0, I 0, I 0, I 0, U64 0, .slice none 0 0, .slice none 0 0, .nilIface] 99)) := (Below.refl _ w4).alloc (Nat.le_refl _) _
  have HTop := Lib.hid (show Row (w4.alloc (.cells #[.pointer (some ⟨l.ab, 0, none⟩), .pointer (some ⟨cb, 0, none⟩), .pointer (some ⟨w3.heap.size + 1, 0, none⟩), U64 0, I 0, I 0, I 0, I 0, I 0, U64 0, .slice none 0 0, .slice none 0 0, .nilIface] 99)) (w3.heap.size + 2) 0 13 (acell l.ab cb (w3.heap.size + 1) hd0 (.slice none 0 0) (.slice none 0 0) .nilIface) from by
    have h := Row.lit w4 #[.pointer (some ⟨l.ab, 0, none⟩), .pointer (some ⟨cb, 0, none⟩), .pointer (some ⟨w3.heap.size + 1, 0, none⟩), U64 0, I 0, I 0, I 0, I 0, I 0, U64 0, .slice none 0 0, .slice none 0 0, .nilIface] 99
    rw [hz4] at h
    exact h.congr fun i hi => by match i, hi with | 0, _ | 1, _ | 2, _ | 3, _ | 4, _ | 5, _ | 6, _ | 7, _ | 8, _ | 9, _ | 10, _ | 11, _ | 12, _ => rfl)
  have HKd := Lib.hid (show Kd (w4.alloc (.cells #[.pointer (some ⟨l.ab, 0, none⟩), .pointer (some ⟨cb, 0, none⟩), .pointer (some ⟨w3.heap.size + 1, 0, none⟩), U64 0, I 0, I 0, I 0, I 0, I 0, U64 0, .slice none 0 0, .slice none 0 0, .nilIface] 99)) (w3.heap.size + 2) 99 from by
    have h := Kd.new w4 #[.pointer (some ⟨l.ab, 0, none⟩), .pointer (some ⟨cb, 0, none⟩), .pointer (some ⟨w3.heap.size + 1, 0, none⟩), U64 0, I 0, I 0, I 0, I 0, I 0, U64 0, .slice none 0 0, .slice none 0 0, .nilIface] 99
    rwa [hz4] at h)
  have HB5 := Lib.hid (HB3.out.trans ((hb4.trans (hu5.mono (by omega))).mono HB3.out.size))
  have HA5 := Lib.hid ((HK3.out.later hb4).later hu5)
  have HC5 := Lib.hid ((HC3.out.later hb4 HRt.out.d1).later hu5 HRt.out.d1)
  generalize w4.alloc (.cells #[.pointer (some ⟨l.ab, 0, none⟩), .pointer (some ⟨cb, 0, none⟩), .pointer (some ⟨w3.heap.size + 1, 0, none⟩), U64 0, .int .i64 0, .int .i64 0, .int .i64 0, .int .i64 0, .int .i64 0, U64 0, .slice none 0 0, .slice none 0 0, .nilIface] 99) = w5 at *
  have hws := HB3.out.size
  obtain ⟨ar, har⟩ : ∃ ar, ar = w3.heap.size + 2 := ⟨_, rfl⟩
  obtain ⟨kb, hkb⟩ : ∃ kb, kb = w3.heap.size + 1 := ⟨_, rfl⟩
  rw [← har] at HTop HKd ⊢
  rw [← hkb] at HTop ⊢
  have HArw := Lib.hid (show w.heap.size ≤ ar from by omega)
  have HK5 := Lib.hid (show ArcAt w5 ar cb kb l A D L G cv β hd0 (.slice none 0 0) (.slice none 0 0) .nilIface from ⟨HTop.out, HKd.out, HA5.out, HC5.out, HRt.out, Hn.out, HWt.out⟩)
  clear hu5 hb4 hz4 hr4 hm4 HTop HKd HA5 HC5 HK3 HB3 HC3 y0 hws har hkb HK2 HB2 HP2 HX2 HC2 HOw HB23
  obtain ⟨r, hr⟩ : ∃ r, r = opnTo D L G hd0 (hdTo A (D + L + G)) := ⟨_, rfl⟩
  have HO := Lib.hid (fun w1 (hb : Below w5.heap.size w5 w1) => opn_any w1 ar cb kb l A D L G cv β hd0 _ _ _ (HK5.out.later hb) _ rfl HSz.out)
  rw [← hr] at HO ⊢
  have HG := Lib.hid (guarded_any 31 #[.pointer (some ⟨ar, 0, none⟩)] #[] #[.pointer (some ⟨ar, 0, none⟩)] rfl (fun w => by kernel_rfl) w5 (fun b => l.own A.n b ∨ b = ar) (fun v V => v = errV r.1 ∧ ArcAt V ar cb kb l r.2.2 D L G cv β r.2.1 (.slice none 0 0) (.slice none 0 0) .nilIface)
    (fun b hb => by rcases hb with hb | rfl; exact HK5.out.arr.own_lt b hb; exact HK5.out.kd.lt)
    (fun w1 hb _ => (HO.out w1 hb).mono fun e w2 h => ⟨_, h.1, by unfold errV; split; exact .inl rfl; exact .inr ⟨_, _, rfl⟩, h.2.2, rfl, h.2.1⟩))
  have HrE := Lib.hid hr
  clear hr HSz HO
  go_upto_region 10 with (go_at_call 30; refine HG.out.mono ?_; rintro e w7 ⟨v, w6, rfl, hv, hu6, hz6, ⟨hv6, hA6⟩, rfl⟩)
  have hset : Upd (· = w5.heap.size) w6 (w6.setCell ⟨w5.heap.size, 0, none⟩ v) := (Upd.refl (· = w5.heap.size) w6).at1 0 v
  have hrn : r.2.2.n = A.n := hA6.n.trans Hn.out.symm
  have HA7 := Lib.hid (hA6.kept hset (by have := HK5.out.kd.lt; omega) (fun b hb e => by have := HK5.out.arr.own_lt b (by rwa [hrn] at hb); omega) (fun b hb e => by have := HK5.out.cd.own_lt b hb; omega))
  have HU7 := Lib.hid ((((Upd.of_below HB5.out).mono (H := l.own A.n) fun _ _ h => h.elim).trans hu6 (fun b h hlt => by rcases h with h | h; exact h; have := HArw.out; omega)).trans hset (fun b h hlt => by have := HB5.out.size; omega) : Upd (l.own A.n) w (w6.setCell ⟨w5.heap.size, 0, none⟩ v))
  rw [hv6] at HA7 HU7
  clear hset hu6 hA6 hz6 hv
  generalize w6.setCell ⟨w5.heap.size, 0, none⟩ (errV r.1) = w8 at *
  cases hr1 : r.1 with
  | none =>
    simp only [errV]
    go_wp2_with fail
    go_ret2
    refine ⟨HU7.out, ?_⟩
    rw [← HrE.out, hr1]
    exact ⟨ar, cb, kb, cv, β, rfl, HA7.out, HArw.out⟩
  | some k =>
    simp only [errV]
    go_wp2_with fail
    go_ret2
    refine ⟨HU7.out, ?_⟩
    rw [← HrE.out, hr1]
    exact ⟨rfl, HA7.out.arr⟩
end Go.Proofs.YtgelingkifafeaaGreatDoor

/- do: a call of the archive, while there is power. -/
namespace Go.Proofs.YtgelingkifafeaaGreatDoor
open Go Go.RowKit Go.Proofs Lin
set_option maxRecDepth 100000
set_option linter.unusedVariables false

theorem Laid.upd {w w' : World} {X : Nat → Prop} (h : Laid w) (hu : Upd X w w') (hx : ¬ X 0) : Laid w' :=
  (World.cell?_of_block (a := ⟨0, 0, none⟩) (hu.block _ h.lt hx)).trans h

theorem tell_errV (r : Option Nat) (w : World) (hg : Laid w) : Calls Tryz.prog 7 #[errV r] w fun e w' => e = .returned (I ((r.getD 0 : Nat) : Int)) ∧ Below w.heap.size w w' := by
  cases r with
  | none => exact tell_nil w
  | some k => exact tell_errno k w hg

set_option maxHeartbeats 1000000 in
theorem do_any (w : World) (ar : Nat) (hbr : w.cell? ⟨ar, 12, none⟩ = some .nilIface) (hg : Laid w) (f : FuncId) (c1 c2 args : Array Value) (hargs : c1 ++ c2 = args) (heg : ∀ w, (callFunc f args).run Tryz.prog w = .ok (.enter f args) w)
    (X : Nat → Prop) (R : World → Prop) (r : Option Nat) (hr : r ≠ some 13) (hX : ∀ b, X b → b < w.heap.size) (hXe : ¬ X 0)
    (hc : ∀ w1, Below w.heap.size w w1 → Calls Tryz.prog f args w1 fun e w2 => e = .returned (errV r) ∧ Upd X w1 w2 ∧ R w2) :
    Calls Tryz.prog 36 #[.pointer (some ⟨ar, 0, none⟩), .func (.func f) c1 c2] w fun e w' => e = .returned (errV r) ∧ Upd X w w' ∧ ∃ w2, R w2 ∧ Upd (· = w.heap.size) w2 w' := by
  have HG := Lib.hid (guarded_any f c1 c2 args hargs heg w X (fun v V => v = errV r ∧ R V) hX (fun w1 hb _ => (hc w1 hb).mono fun e w2 h => ⟨_, h.1, by unfold errV; split; exact .inl rfl; exact .inr ⟨_, _, rfl⟩, h.2.1, rfl, h.2.2⟩))
  have HXe := Lib.hid hXe
  have HL := Lib.hid hg
  have hgl : 0 < w.heap.size := hg.lt
  have HX := Lib.hid hX
  clear hc hX hXe hg
  go_enter Tryz.func36, Tryz.ntmps36
  go_upto_region 4 with (go_at_call 30; refine HG.out.mono ?_; rintro e w3 ⟨v, w2, rfl, hv, hu2, hz2, ⟨hv2, hR⟩, rfl⟩)
  have hu3 : Upd (· = w.heap.size) w2 (w2.setCell ⟨w.heap.size, 0, none⟩ v) := (Upd.refl (· = w.heap.size) w2).at1 0 v
  have HU := Lib.hid (hu2.trans hu3 (fun b e hlt => by omega) : Upd X w (w2.setCell ⟨w.heap.size, 0, none⟩ v))
  have HR := Lib.hid hR
  have HU3 := Lib.hid hu3
  subst hv2
  have HL3 := Lib.hid (show Laid (w2.setCell ⟨w.heap.size, 0, none⟩ (errV r)) from HL.out.upd HU.out HXe.out)
  clear hu2 hu3 hR hv hz2
  generalize w2.setCell ⟨w.heap.size, 0, none⟩ (errV r) = w4 at *
  have hne : ((r.getD 0 : Nat) : Int) ≠ 13 := by
    cases r with
    | none => decide
    | some k => intro h; have h : (k : Int) = 13 := h; exact hr (by congr 1; omega)
  have hnb : (((r.getD 0 : Nat) : Int) == 13) = false := by simpa using hne
  have HT := Lib.hid (tell_errV r w4 HL3.out)
  generalize ((r.getD 0 : Nat) : Int) = t at *
  obtain ⟨v, hv⟩ : ∃ v, v = errV r := ⟨_, rfl⟩
  rw [← hv] at HT ⊢
  have HV := Lib.hid hv
  clear hv hne hr
  go_wp2_with (go_at_call 7; refine HT.out.mono ?_; rintro e w5 ⟨rfl, hb5⟩; have HB5 := Lib.hid hb5; clear hb5)
  go_ret
  exact ⟨by rw [← HV.out]; rfl, HU.out.trans (Upd.of_below HB5.out) (fun _ h _ => h.elim), w2, HR.out, HU3.out.trans (Upd.of_below HB5.out) (fun _ h _ => h.elim)⟩
end Go.Proofs.YtgelingkifafeaaGreatDoor

/- archive.Open: what it refuses. -/
namespace Go.Proofs.YtgelingkifafeaaGreatDoor
open Go Go.RowKit Go.Proofs Lin
set_option maxRecDepth 100000
set_option linter.unusedVariables false

def OpnBad (w : World) (k : Nat) (e : Ending) (w' : World) : Prop := e = .returned (.tuple #[.pointer none, errV (some k)]) ∧ Below w.heap.size w w'

set_option maxHeartbeats 1000000 in
theorem opnF_bad (w : World) (a : Value) (D L G c : Int) (hR : ¬ RightI D L G) : Calls Tryz.prog 18 #[a, PV D L G, .agg #[I c]] w (OpnBad w 1) := by
  have HN := Lib.hid (new_bad D L G hR)
  have HBx := Lib.hid (show Below w.heap.size w ((w.alloc (.cells #[I D, I L, I G] 23)).alloc (.cells #[I c] 33)) from ((Below.refl _ w).alloc (Nat.le_refl _) _).alloc (by simp) _)
  clear hR
  go_enter Tryz.func18, Tryz.ntmps18
  go_wp2_with (go_at_call 26; refine (HN.out _).mono ?_; rintro e w2 ⟨rfl, hb⟩; have HB2 := Lib.hid (HBx.out.trans (hb.mono HBx.out.size)); clear hb)
  go_ret2
  exact ⟨rfl, HB2.out⟩

set_option maxHeartbeats 1000000 in
theorem opnF_cache (w : World) (a : Value) (D L G : Nat) (c : Int) (hR : Right D L G) (hc : c < 0 ∨ 64 < c) : Calls Tryz.prog 18 #[a, PV D L G, .agg #[I c]] w (OpnBad w 1) := by
  have HN := Lib.hid (new_ok D L G hR)
  have HBx := Lib.hid (show Below w.heap.size w ((w.alloc (.cells #[I D, I L, I G] 23)).alloc (.cells #[I c] 33)) from ((Below.refl _ w).alloc (Nat.le_refl _) _).alloc (by simp) _)
  have HCx := Lib.hid (Row.lit (w.alloc (.cells #[I D, I L, I G] 23)) #[I c] 33)
  have hzx : (w.alloc (.cells #[I D, I L, I G] 23)).heap.size = w.heap.size + 1 := World.size_alloc ..
  rw [hzx] at HCx
  clear hR
  by_cases h0 : c < 0
  · have b1 : decide (c < 0) = true := decide_eq_true h0
    clear hc
    go_enter Tryz.func18, Tryz.ntmps18
    go_wp2_with (go_at_call 26; refine (HN.out _).mono ?_; rintro e w2 ⟨cb, cv, β, rfl, hC2⟩; have HB2 := Lib.hid (HBx.out.trans (hC2.below.mono HBx.out.size)); have y0 : w2.cell? ⟨w.heap.size + 1, 0, none⟩ = some (I c) := (HCx.out.later hC2.below).cell 0 (by simp); clear hC2)
    go_ret2
    exact ⟨rfl, HB2.out⟩
  · have b1 : decide (c < 0) = false := decide_eq_false h0
    have b2 : decide (64 < c) = true := decide_eq_true (by omega)
    clear hc
    go_enter Tryz.func18, Tryz.ntmps18
    go_wp2_with (go_at_call 26; refine (HN.out _).mono ?_; rintro e w2 ⟨cb, cv, β, rfl, hC2⟩; have HB2 := Lib.hid (HBx.out.trans (hC2.below.mono HBx.out.size)); have y0 : w2.cell? ⟨w.heap.size + 1, 0, none⟩ = some (I c) := (HCx.out.later hC2.below).cell 0 (by simp); clear hC2)
    go_ret2
    exact ⟨rfl, HB2.out⟩
end Go.Proofs.YtgelingkifafeaaGreatDoor

/- archive.Open: what it refuses. -/
namespace Go.Proofs.YtgelingkifafeaaGreatDoor
open Go Go.RowKit Go.Proofs Lin
set_option maxRecDepth 100000
set_option linter.unusedVariables false

set_option maxHeartbeats 4000000 in
theorem opnF_drives (w : World) (l : ArrL) (A : Arr) (D L G c : Nat) (H : ArrAt w l A) (hR : Right D L G) (hc : c ≤ 64) (hn : A.n ≠ D + L + G) :
    Calls Tryz.prog 18 #[.pointer (some ⟨l.ab, 0, none⟩), PV D L G, .agg #[I c]] w (OpnBad w 5) := by
  have HH := Lib.hid H
  have HRt := Lib.hid hR
  have d1 := hR.d1
  have b1 : decide ((c : Int) < 0) = false := decide_eq_false (by omega)
  have b2 : decide ((64 : Int) < (c : Int)) = false := decide_eq_false (by omega)
  have HBx := Lib.hid (show Below w.heap.size w ((w.alloc (.cells #[I D, I L, I G] 23)).alloc (.cells #[I c] 33)) from ((Below.refl _ w).alloc (Nat.le_refl _) _).alloc (by simp) _)
  have HPx := Lib.hid (show Row ((w.alloc (.cells #[I D, I L, I G] 23)).alloc (.cells #[I c] 33)) w.heap.size 0 3 (pcells D L G) from by
    refine ((Row.lit w #[I D, I L, I G] 23).later ((Below.refl _ _).alloc (Nat.le_refl _) _)).congr fun i hi => ?_
    match i, hi with | 0, _ | 1, _ | 2, _ => rfl)
  have HCx := Lib.hid (Row.lit (w.alloc (.cells #[I D, I L, I G] 23)) #[I c] 33)
  have hzx : (w.alloc (.cells #[I D, I L, I G] 23)).heap.size = w.heap.size + 1 := World.size_alloc ..
  rw [hzx] at HCx
  clear H hR
  go_enter Tryz.func18, Tryz.ntmps18
  go_upto_region 1 with fail
  generalize (w.alloc (.cells #[.int .i64 D, .int .i64 L, .int .i64 G] 23)).alloc (.cells #[.int .i64 c] 33) = w1 at *
  have HK1 := Lib.hid (HH.out.later HBx.out)
  have x0 : w1.cell? ⟨w.heap.size, 0, none⟩ = some (I D) := HPx.out.cell 0 (by omega)
  have x1 : w1.cell? ⟨w.heap.size, 1, none⟩ = some (I L) := HPx.out.cell 1 (by omega)
  have x2 : w1.cell? ⟨w.heap.size, 2, none⟩ = some (I G) := HPx.out.cell 2 (by omega)
  clear hzx
  go_upto_region 2 with (go_at_call 26; refine (new_ok D L G HRt.out w1).mono ?_; rintro e w2 ⟨cb, cv, β, rfl, hC2⟩)
  have HK2 := Lib.hid (HK1.out.later hC2.below)
  have HB2 := Lib.hid (HBx.out.trans (hC2.below.mono HBx.out.size))
  have HP2 := Lib.hid (HPx.out.later hC2.below)
  have HX2 := Lib.hid (HCx.out.later hC2.below)
  have HC2 := Lib.hid (Cd.of hC2)
  have HOw := Lib.hid (show w1.heap.size ≤ cb from hC2.own)
  clear hC2 x0 x1 x2 HK1 HBx HPx HCx
  have y0 : w2.cell? ⟨w.heap.size + 1, 0, none⟩ = some (I c) := HX2.out.cell 0 (by simp)
  go_upto_region 6 with fail
  obtain ⟨N, hN⟩ : ∃ N, N = D + L + G := ⟨_, rfl⟩
  have eN : (D : Int) + L + G = (N : Int) := by omega
  have hnn : ((A.n : Int) == (N : Int)) = false := by simp; omega
  have hnn2 : ((A.n : Int) != (N : Int)) = true := by simp; omega
  obtain ⟨M, hM⟩ : ∃ M, M = A.m := ⟨_, rfl⟩
  have hD7 := HRt.out.sum
  obtain ⟨ι1, hι1, wA, hwA, HWA⟩ := later_worlds w2
  have HBA := Lib.hid hwA
  have HDr := Lib.hid (fun n => show Calls Tryz.prog 27 #[.pointer (some ⟨l.ab, 0, none⟩)] (wA n) fun e w' => e = .returned (I A.n) ∧ w' = wA n from drives_any (wA n) l A (HK2.out.later (hwA n)))
  have HSh := Lib.hid (fun V => show Calls Tryz.prog 15 #[PV D L G] V fun e w' => e = .returned (I N) ∧ Below V.heap.size V w' from by
    have := shards_any D L G (by omega) V; rwa [eN] at this)
  have x0 : ∀ n, (wA n).cell? ⟨w.heap.size, 0, none⟩ = some (I D) := fun n => (HP2.out.later (hwA n)).cell 0 (by omega)
  have x1 : ∀ n, (wA n).cell? ⟨w.heap.size, 1, none⟩ = some (I L) := fun n => (HP2.out.later (hwA n)).cell 1 (by omega)
  have x2 : ∀ n, (wA n).cell? ⟨w.heap.size, 2, none⟩ = some (I G) := fun n => (HP2.out.later (hwA n)).cell 2 (by omega)
  have HNx := Lib.hid (fun n V (hb : Below (wA n).heap.size (wA n) V) => HWA.out V ((hwA n).trans (hb.mono (hwA n).size)))
  have HNe := Lib.hid hN
  clear hwA eN hN hM hc d1 hn
  refine wp_region_I (fun _ V => ∃ n, V = wA n) mixed0 (by kernel_rfl) (HWA.out _ (below_drew' w2)) ?_
  refine wpI_reads (C := fun V => ∃ n, V = wA n) 1 (by decide) rfl (fun L V h => h) (fun j _ _ L V h => h) ?_
  simp only [List.drop_zero, List.take_succ_cons, List.take_zero]
  repeat (go_big_quiet_step (fail))
  refine wpQuiet_nil ?_
  simp only [Nat.zero_add]
  refine wpI_eff rfl rfl (I A.n) ?_ ?_
  · intro L' V hL _ hS
    obtain ⟨n, rfl⟩ := hS
    go_wp2_with fail
    refine (HDr.out n).mono ?_
    rintro e w3 ⟨rfl, rfl⟩
    go_wp2_with fail
    exact ⟨rfl, n, rfl⟩
  simp only [Act.put, List.setIfInBounds_toArray, List.set_cons_succ, List.set_cons_zero]
  refine wpI_reads (C := fun V => ∃ n, V = wA n) 1 (by decide) rfl (fun L V h => h) (fun j _ _ L V h => h) ?_
  simp only [List.drop_succ_cons, List.drop_zero, List.take_succ_cons, List.take_zero]
  repeat (go_big_quiet_step (fail))
  refine wpQuiet_nil ?_
  refine wpI_eff rfl rfl (I N) ?_ ?_
  · intro L' V hL _ hS
    obtain ⟨n, rfl⟩ := hS
    go_wp2_with fail
    refine (HSh.out _).mono ?_
    rintro e w3 ⟨rfl, hb⟩
    go_wp2_with fail
    exact ⟨rfl, HNx.out n _ hb⟩
  simp only [Act.put, List.setIfInBounds_toArray, List.set_cons_succ, List.set_cons_zero]
  refine wpI_reads (C := fun V => ∃ n, V = wA n) 3 (by decide) rfl (fun L V h => h) (fun j _ _ L V h => h) ?_
  simp only [List.drop_succ_cons, List.drop_zero, List.take_succ_cons, List.take_zero]
  repeat (go_big_quiet_step (fail))
  refine wpQuiet_nil ?_
  refine wpI_skip rfl rfl (fun L V h => h) ?_
  simp only [Act.put, List.setIfInBounds_toArray, List.set_cons_succ, List.set_cons_zero]
  refine wpI_reads (C := fun V => ∃ n, V = wA n) 2 (by decide) rfl (fun L V h => h) (fun j _ _ L V h => h) ?_
  simp only [List.drop_succ_cons, List.drop_zero, List.take_succ_cons, List.take_zero]
  repeat (go_big_quiet_step (fail))
  refine wpQuiet_nil ?_
  refine wpI_end (by decide) ?_
  intro L' w3 _ hS
  have HB23 : Hid (Below w2.heap.size w2 w3) := by obtain ⟨n, rfl⟩ := hS; exact Lib.hid (HBA.out n)
  clear hS HBA HDr HSh x0 x1 x2 HNx y0 HWA
  have HB3 := Lib.hid (HB2.out.trans (HB23.out.mono HB2.out.size))
  go_wp2_with fail
  go_ret2
  exact ⟨rfl, HB3.out⟩

set_option maxHeartbeats 4000000 in
theorem opnF_blocks (w : World) (l : ArrL) (A : Arr) (D L G c : Nat) (H : ArrAt w l A) (hR : Right D L G) (hc : c ≤ 64) (hn : A.n = D + L + G) (hm : A.m < 8) :
    Calls Tryz.prog 18 #[.pointer (some ⟨l.ab, 0, none⟩), PV D L G, .agg #[I c]] w (OpnBad w 5) := by
  have HH := Lib.hid H
  have HRt := Lib.hid hR
  have Hn := Lib.hid hn
  have Hm := Lib.hid hm
  have d1 := hR.d1
  have b1 : decide ((c : Int) < 0) = false := decide_eq_false (by omega)
  have b2 : decide ((64 : Int) < (c : Int)) = false := decide_eq_false (by omega)
  have HBx := Lib.hid (show Below w.heap.size w ((w.alloc (.cells #[I D, I L, I G] 23)).alloc (.cells #[I c] 33)) from ((Below.refl _ w).alloc (Nat.le_refl _) _).alloc (by simp) _)
  have HPx := Lib.hid (show Row ((w.alloc (.cells #[I D, I L, I G] 23)).alloc (.cells #[I c] 33)) w.heap.size 0 3 (pcells D L G) from by
    refine ((Row.lit w #[I D, I L, I G] 23).later ((Below.refl _ _).alloc (Nat.le_refl _) _)).congr fun i hi => ?_
    match i, hi with | 0, _ | 1, _ | 2, _ => rfl)
  have HCx := Lib.hid (Row.lit (w.alloc (.cells #[I D, I L, I G] 23)) #[I c] 33)
  have hzx : (w.alloc (.cells #[I D, I L, I G] 23)).heap.size = w.heap.size + 1 := World.size_alloc ..
  rw [hzx] at HCx
  clear H hR
  go_enter Tryz.func18, Tryz.ntmps18
  go_upto_region 1 with fail
  generalize (w.alloc (.cells #[.int .i64 D, .int .i64 L, .int .i64 G] 23)).alloc (.cells #[.int .i64 c] 33) = w1 at *
  have HK1 := Lib.hid (HH.out.later HBx.out)
  have x0 : w1.cell? ⟨w.heap.size, 0, none⟩ = some (I D) := HPx.out.cell 0 (by omega)
  have x1 : w1.cell? ⟨w.heap.size, 1, none⟩ = some (I L) := HPx.out.cell 1 (by omega)
  have x2 : w1.cell? ⟨w.heap.size, 2, none⟩ = some (I G) := HPx.out.cell 2 (by omega)
  clear hzx
  go_upto_region 2 with (go_at_call 26; refine (new_ok D L G HRt.out w1).mono ?_; rintro e w2 ⟨cb, cv, β, rfl, hC2⟩)
  have HK2 := Lib.hid (HK1.out.later hC2.below)
  have HB2 := Lib.hid (HBx.out.trans (hC2.below.mono HBx.out.size))
  have HP2 := Lib.hid (HPx.out.later hC2.below)
  have HX2 := Lib.hid (HCx.out.later hC2.below)
  have HC2 := Lib.hid (Cd.of hC2)
  have HOw := Lib.hid (show w1.heap.size ≤ cb from hC2.own)
  clear hC2 x0 x1 x2 HK1 HBx HPx HCx
  have y0 : w2.cell? ⟨w.heap.size + 1, 0, none⟩ = some (I c) := HX2.out.cell 0 (by simp)
  go_upto_region 6 with fail
  obtain ⟨N, hN⟩ : ∃ N, N = D + L + G := ⟨_, rfl⟩
  have eN : (D : Int) + L + G = (N : Int) := by omega
  have hnn : ((N : Int) == (N : Int)) = true := by simp
  obtain ⟨M, hM⟩ : ∃ M, M = A.m := ⟨_, rfl⟩
  have hm8 : decide ((M : Int) < 8) = true := decide_eq_true (by have := Hm.out; omega)
  have hD7 := HRt.out.sum
  obtain ⟨ι1, hι1, wA, hwA, HWA⟩ := later_worlds w2
  have HBA := Lib.hid hwA
  have HDr := Lib.hid (fun n => show Calls Tryz.prog 27 #[.pointer (some ⟨l.ab, 0, none⟩)] (wA n) fun e w' => e = .returned (I N) ∧ w' = wA n from by
    have := drives_any (wA n) l A (HK2.out.later (hwA n)); rwa [Hn.out, ← hN] at this)
  have HBl := Lib.hid (fun n => show Calls Tryz.prog 28 #[.pointer (some ⟨l.ab, 0, none⟩)] (wA n) fun e w' => e = .returned (I M) ∧ w' = wA n from by
    have := blocks_any (wA n) l A (HK2.out.later (hwA n)); rwa [if_neg (by rw [Hn.out]; omega), ← hM] at this)
  have HSh := Lib.hid (fun V => show Calls Tryz.prog 15 #[PV D L G] V fun e w' => e = .returned (I N) ∧ Below V.heap.size V w' from by
    have := shards_any D L G (by omega) V; rwa [eN] at this)
  have x0 : ∀ n, (wA n).cell? ⟨w.heap.size, 0, none⟩ = some (I D) := fun n => (HP2.out.later (hwA n)).cell 0 (by omega)
  have x1 : ∀ n, (wA n).cell? ⟨w.heap.size, 1, none⟩ = some (I L) := fun n => (HP2.out.later (hwA n)).cell 1 (by omega)
  have x2 : ∀ n, (wA n).cell? ⟨w.heap.size, 2, none⟩ = some (I G) := fun n => (HP2.out.later (hwA n)).cell 2 (by omega)
  have HNx := Lib.hid (fun n V (hb : Below (wA n).heap.size (wA n) V) => HWA.out V ((hwA n).trans (hb.mono (hwA n).size)))
  have HNe := Lib.hid hN
  clear hwA eN hN hM hc d1
  refine wp_region_I (fun _ V => ∃ n, V = wA n) mixed0 (by kernel_rfl) (HWA.out _ (below_drew' w2)) ?_
  refine wpI_reads (C := fun V => ∃ n, V = wA n) 1 (by decide) rfl (fun L V h => h) (fun j _ _ L V h => h) ?_
  simp only [List.drop_zero, List.take_succ_cons, List.take_zero]
  repeat (go_big_quiet_step (fail))
  refine wpQuiet_nil ?_
  simp only [Nat.zero_add]
  refine wpI_eff rfl rfl (I N) ?_ ?_
  · intro L' V hL _ hS
    obtain ⟨n, rfl⟩ := hS
    go_wp2_with fail
    refine (HDr.out n).mono ?_
    rintro e w3 ⟨rfl, rfl⟩
    go_wp2_with fail
    exact ⟨rfl, n, rfl⟩
  simp only [Act.put, List.setIfInBounds_toArray, List.set_cons_succ, List.set_cons_zero]
  refine wpI_reads (C := fun V => ∃ n, V = wA n) 1 (by decide) rfl (fun L V h => h) (fun j _ _ L V h => h) ?_
  simp only [List.drop_succ_cons, List.drop_zero, List.take_succ_cons, List.take_zero]
  repeat (go_big_quiet_step (fail))
  refine wpQuiet_nil ?_
  refine wpI_eff rfl rfl (I N) ?_ ?_
  · intro L' V hL _ hS
    obtain ⟨n, rfl⟩ := hS
    go_wp2_with fail
    refine (HSh.out _).mono ?_
    rintro e w3 ⟨rfl, hb⟩
    go_wp2_with fail
    exact ⟨rfl, HNx.out n _ hb⟩
  simp only [Act.put, List.setIfInBounds_toArray, List.set_cons_succ, List.set_cons_zero]
  refine wpI_reads (C := fun V => ∃ n, V = wA n) 3 (by decide) rfl (fun L V h => h) (fun j _ _ L V h => h) ?_
  simp only [List.drop_succ_cons, List.drop_zero, List.take_succ_cons, List.take_zero]
  repeat (go_big_quiet_step (fail))
  refine wpQuiet_nil ?_
  refine wpI_effG rfl rfl (I M) ?_ ?_
  · intro L' V hL _ hS
    obtain ⟨n, rfl⟩ := hS
    go_wp2_with fail
    refine (HBl.out n).mono ?_
    rintro e w3 ⟨rfl, rfl⟩
    go_wp2_with fail
    exact ⟨rfl, n, rfl⟩
  simp only [Act.put, List.setIfInBounds_toArray, List.set_cons_succ, List.set_cons_zero]
  refine wpI_reads (C := fun V => ∃ n, V = wA n) 2 (by decide) rfl (fun L V h => h) (fun j _ _ L V h => h) ?_
  simp only [List.drop_succ_cons, List.drop_zero, List.take_succ_cons, List.take_zero]
  repeat (go_big_quiet_step (fail))
  refine wpQuiet_nil ?_
  refine wpI_end (by decide) ?_
  intro L' w3 _ hS
  have HB23 : Hid (Below w2.heap.size w2 w3) := by obtain ⟨n, rfl⟩ := hS; exact Lib.hid (HBA.out n)
  clear hS HBA HDr HBl HSh x0 x1 x2 HNx y0 HWA
  have HB3 := Lib.hid (HB2.out.trans (HB23.out.mono HB2.out.size))
  go_wp2_with fail
  go_ret2
  exact ⟨rfl, HB3.out⟩

end Go.Proofs.YtgelingkifafeaaGreatDoor

/- List of an archive without objects. -/
namespace Go.Proofs.YtgelingkifafeaaGreatDoor
open Go Go.RowKit Go.Proofs Lin
set_option maxRecDepth 100000
set_option linter.unusedVariables false

theorem list0_any (w : World) (ar cb kb : Nat) (l : ArrL) (A : Arr) (D L G : Nat) (cv : Value) (β : Nat → Nat) (h : Hd) (lv : Value) (H : ArcAt w ar cb kb l A D L G cv β h (.slice none 0 0) lv .nilIface) :
    Calls Tryz.prog 20 #[.pointer (some ⟨ar, 0, none⟩)] w fun e w' => e = .returned (.tuple #[.slice none 0 0, .nilIface]) ∧ w' = w := by
  have c10 : w.cell? ⟨ar, 10, none⟩ = some (.slice none 0 0) := H.top.cell 10 (by omega)
  have c12 : w.cell? ⟨ar, 12, none⟩ = some .nilIface := H.top.cell 12 (by omega)
  clear H
  go_enter Tryz.func20, Tryz.ntmps20
  go_wp2_with fail
  go_loopg [4, 21] 0 (fun g o i wr => g = 0 ∧ o = .slice none 0 0 ∧ i = .int .i64 0 ∧ wr = w)
  case atStart => exact ⟨rfl, rfl, rfl, rfl⟩
  case round =>
    obtain ⟨_, rfl, rfl, rfl⟩ := hrel
    go_wp2_with fail
    go_ret2
    exact ⟨rfl, rfl⟩

theorem sList0_any (w : World) (sb ar cb kb : Nat) (l : ArrL) (A : Arr) (D L G : Nat) (cv : Value) (β : Nat → Nat) (h : Hd) (lv : Value) (H : ArcAt w ar cb kb l A D L G cv β h (.slice none 0 0) lv .nilIface) (hs : w.cell? ⟨sb, 0, none⟩ = some (.pointer (some ⟨ar, 0, none⟩))) :
    Calls Tryz.prog 11 #[.pointer (some ⟨sb, 0, none⟩)] w fun e w' => e = .returned (.tuple #[.slice none 0 0, .nilIface]) ∧ w' = w := by
  have HL := Lib.hid (list0_any w ar cb kb l A D L G cv β h lv H)
  clear H
  go_enter Tryz.func11, Tryz.ntmps11
  go_wp2_with (go_at_call 20; refine HL.out.mono ?_; rintro e w2 ⟨rfl, rfl⟩)
  go_ret2
  exact ⟨rfl, rfl⟩
end Go.Proofs.YtgelingkifafeaaGreatDoor

/- stripes.Open. -/
namespace Go.Proofs.YtgelingkifafeaaGreatDoor
open Go Go.RowKit Go.Proofs Lin
set_option maxRecDepth 100000
set_option linter.unusedVariables false

set_option maxHeartbeats 1000000 in
theorem sOpen_bad (w : World) (a : Value) (D L G c : Int) (k : Nat) (hO : ∀ V, Below w.heap.size w V → Calls Tryz.prog 18 #[a, PV D L G, .agg #[I c]] V (OpnBad V k)) : Calls Tryz.prog 6 #[a, PV D L G, .agg #[I c]] w (OpnBad w k) := by
  have HO := Lib.hid hO
  have HBx := Lib.hid (show Below w.heap.size w ((w.alloc (.cells #[I D, I L, I G] 23)).alloc (.cells #[I c] 33)) from ((Below.refl _ w).alloc (Nat.le_refl _) _).alloc (by simp) _)
  clear hO
  go_enter Tryz.func6, Tryz.ntmps6
  go_wp2_with (go_at_call 18; refine (HO.out _ HBx.out).mono ?_; rintro e w2 ⟨rfl, hb⟩; have HB2 := Lib.hid (HBx.out.trans (hb.mono HBx.out.size)); clear hb; simp only [errV])
  go_ret2
  exact ⟨rfl, HB2.out⟩

def SOpnIs (w : World) (l : ArrL) (n D L G : Nat) (r : Option Nat × Hd × Arr) (e : Ending) (w' : World) : Prop :=
  Upd (l.own n) w w' ∧ match r.1 with
  | none => ∃ sb ar cb kb cv β, e = .returned (.tuple #[.pointer (some ⟨sb, 0, none⟩), .nilIface]) ∧ Row w' sb 0 1 (fun _ => .pointer (some ⟨ar, 0, none⟩)) ∧ ArcAt w' ar cb kb l r.2.2 D L G cv β r.2.1 (.slice none 0 0) (.slice none 0 0) .nilIface ∧ w.heap.size ≤ ar ∧ w.heap.size ≤ sb
  | some k => e = .returned (.tuple #[.pointer none, errV (some k)]) ∧ ArrAt w' l r.2.2

set_option maxHeartbeats 1000000 in
theorem sOpen_any (w : World) (l : ArrL) (A : Arr) (D L G c : Nat) (H : ArrAt w l A) (hwt : A.wait < 0) (hR : Right D L G) (hc : c ≤ 64) (hn : A.n = D + L + G) (hm : 8 ≤ A.m)
    (hsz : (hdTo A (D + L + G)).found = true → (hdTo A (D + L + G)).latest.fits D L G = true → (hdTo A (D + L + G)).latest.size = 0) :
    Calls Tryz.prog 6 #[.pointer (some ⟨l.ab, 0, none⟩), PV D L G, .agg #[I c]] w (SOpnIs w l A.n D L G (opnTo D L G hd0 (hdTo A (D + L + G)))) := by
  have HO := Lib.hid (fun V (hb : Below w.heap.size w V) => opnF_any V l A D L G c (H.later hb) hwt hR hc hn hm hsz)
  have HBx := Lib.hid (show Below w.heap.size w ((w.alloc (.cells #[I D, I L, I G] 23)).alloc (.cells #[I c] 33)) from ((Below.refl _ w).alloc (Nat.le_refl _) _).alloc (by simp) _)
  have HOwn := Lib.hid H.own_lt
  clear H hwt hR hc hn hm hsz
  generalize opnTo D L G hd0 (hdTo A (D + L + G)) = r at *
  obtain ⟨r1, r2, r3⟩ := r
  cases r1 with
  | none =>
    go_enter Tryz.func6, Tryz.ntmps6
    go_wp2_with (go_at_call 18; refine (HO.out _ HBx.out).mono ?_; rintro e w2 ⟨hu, ar, cb, kb, cv, β, rfl, hA, hle⟩; have HU := Lib.hid hu; have HA := Lib.hid hA; have HLe := Lib.hid hle; clear hu hA hle)
    go_ret2
    have hb : Below w2.heap.size w2 (w2.alloc (.cells #[.pointer (some ⟨ar, 0, none⟩)] 68)) := (Below.refl _ w2).alloc (Nat.le_refl _) _
    have hs := HU.out.size
    have hs2 := HBx.out.size
    refine ⟨(((Upd.of_below HBx.out).mono (H := l.own A.n) fun _ _ h => h.elim).trans HU.out (fun _ h _ => h)).trans (Upd.of_below hb) (fun _ h _ => h.elim), w2.heap.size, ar, cb, kb, cv, β, rfl, ?_, HA.out.later hb, by have := HLe.out; omega, by omega⟩
    exact (Row.lit w2 #[.pointer (some ⟨ar, 0, none⟩)] 68).congr fun i hi => by match i, hi with | 0, _ => rfl
  | some k =>
    go_enter Tryz.func6, Tryz.ntmps6
    go_wp2_with (go_at_call 18; refine (HO.out _ HBx.out).mono ?_; rintro e w2 ⟨hu, rfl, hA⟩; have HU := Lib.hid hu; have HA := Lib.hid hA; clear hu hA; simp only [errV])
    go_ret2
    exact ⟨((Upd.of_below HBx.out).mono (H := l.own A.n) fun _ _ h => h.elim).trans HU.out (fun _ h _ => h), rfl, HA.out⟩
end Go.Proofs.YtgelingkifafeaaGreatDoor
