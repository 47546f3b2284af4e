import Derived.Test.YthaamnjpjkkolaaDoorSameP
import Derived.Test.YthaamnjpjkkolaaDoorRefUnp
import Derived.Test.YthaamnjpjkkolaaDoorRefPack
import Derived.Test.YthaamnjpjkkolaaDoorTell
/- The law's unpacks; the entry points Pack and Unpack. -/
namespace Go.Proofs.YthaamnjpjkkolaaDoor
open Go.RowKit Go.Proofs
set_option maxRecDepth 100000
set_option linter.unusedVariables false

set_option maxHeartbeats 400000 in
theorem roomy_big (a : Option Addr) (b o n c : Nat) (x : Nat → UInt8) (w : World)
    (ha : 0 < n → a = some ⟨b, o, none⟩) (hx : Rd w b o n (bs x)) (hn : n ≤ 900000) (hc : n ≤ c) :
    Calls Tryd.prog 28 #[.slice a n c] w fun e w' => e = .returned (.slice (some ⟨w.heap.size, 0, none⟩) n (n + 2)) ∧
      Below w.heap.size w w' ∧ w'.heap.size = w.heap.size + 1 ∧ Row w' w.heap.size 0 (n + 2) (bs (roomX n x)) ∧ Kd w' w.heap.size 5 := by
  have HX := Lib.hid hx
  clear hx
  have hmk := make_bytes ((n : Int) + 2) (by omega) (by omega)
  have et : ((n : Int) + 2).toNat = n + 2 := by omega
  rw [et] at hmk
  clear et
  go_enter Tryd.func28, Tryd.ntmps28
  go_wp2_with (refine wpList_copy_fn rfl (.tmp 10) (.tmp 11) 37 37 rfl 5 Tryd.underlying37 sizeU8 _ _ _ _ _ _ rfl rfl n w.heap.size 0 (n + 2) b o (fun _ => .int .u8 0) (bs x) (by show n = min n (n + 2); omega) (by omega) (Row.new _ _ _ _) (HX.out.alloc _) (fun _ => rfl) ha (fun _ _ => rfl) ?_; intro w1 hu1 hz1 hk1 hr1; have HK := Lib.hid (hk1 _ 5 (Kd.new w _ _)); clear hk1; have c1 := hr1.cell n (by omega); have f1 := hr1.free n (by omega); have c2 := hr1.cell (n + 1) (by omega); have f2 := hr1.free (n + 1) (by omega); simp only [Nat.zero_add] at c1 c2 f1 f2; have HR := Lib.hid hr1; have HU := Lib.hid hu1; have HZ := Lib.hid hz1; clear hr1 hu1 hz1)
  go_ret
  exact ⟨rfl, roomy_done HU.out HZ.out HR.out HK.out rfl⟩

set_option maxHeartbeats 400000 in
theorem still_big (a : Option Addr) (g b o n c : Nat) (x : Nat → UInt8) (w : World)
    (ha : 0 < n → a = some ⟨b, o, none⟩) (hx : Rd w b o n (bs x)) (hr : Row w g 0 (n + 2) (bs (roomX n x))) (hn : n ≤ 900000) :
    Calls Tryd.prog 30 #[.slice (some ⟨g, 0, none⟩) n (n + 2), .slice a n c] w fun e w' => e = .returned (.bool true) ∧ Upd (· = g) w w' ∧ KdKept w w' := by
  have HX := Lib.hid hx
  have HR := Lib.hid hr
  have hsame := Lib.hid (fun w (hx : Rd w b o n (bs x)) (hr : Rd w g 0 n (bs (roomX n x))) => (same_any (some ⟨g, 0, none⟩) a g 0 b o n n (n + 2) c (roomX n x) x w (fun _ => rfl) ha hr hx (by omega) (by omega)))
  have hyes := Lib.hid (show sameB n n (roomX n x) x = true from sameB_yes fun i hi => by simp [roomX, hi])
  have c1 : w.cell? ⟨g, n, none⟩ = some (.int .u8 71) := by have := hr.cell n (by omega); simp [roomX, bs] at this; exact this
  have c2 : w.cell? ⟨g, n + 1, none⟩ = some (.int .u8 72) := by have := hr.cell (n + 1) (by omega); simp [roomX, bs, show ¬ n + 1 < n by omega] at this; exact this
  clear hx hr ha
  go_enter Tryd.func30, Tryd.ntmps30
  go_wp2_with (go_at_call 14; refine (hsame.out _ ?h1 ?h2).mono ?_; exact HX.out; exact HR.out.rd.take (by omega); rw [hyes.out]; rintro e w' ⟨rfl, q, rfl⟩)
  go_loopw [8] (fun i wr => ∃ k : Nat, k ≤ n + 2 ∧ i = I k ∧ Upd (· = g) w wr ∧ KdKept w wr ∧ ∃ z, Row wr g 0 (n + 2) (bs z)) (fun i _ => n + 2 - (intOf i).toNat)
  case atStart => exact ⟨0, by omega, rfl, (Upd.refl _ _).drewN _, (KdKept.refl _).drewN _, _, HR.out.drewN _⟩
  case round =>
    obtain ⟨k, hk, rfl, hu, hkd, z, hz⟩ := hrel
    have HU := Lib.hid hu
    have HKD := Lib.hid hkd
    clear hkd
    have HZ := Lib.hid hz
    clear hu hz
    by_cases hlt : k < n + 2
    · have d1 := HZ.out.cell k hlt
      have d2 := HZ.out.free k hlt
      simp only [Nat.zero_add] at d1 d2
      go_wp2
      go_roundw
      case rel => exact ⟨k + 1, by omega, by go_num, HU.out.setCell (fun _ => rfl) _, HKD.out.set _ _, _, Row.set8 HZ.out hlt (z k ^^^ 85) (xor8 (z k) 85)⟩
      case measure => simp [intOf]; omega
    · go_wp2
      go_ret
      exact ⟨rfl, HU.out, HKD.out⟩

def LawT (w : World) (e : Ending) (w' : World) : Prop := e = .returned (.bool true) ∧ Below w.heap.size w w'

theorem V4.base_le {w : World} {base base' e n : Nat} {v : Value} {f : Nat → Nat → Value} (h : V4 w base e v n f) (hb : base' ≤ base) : V4 w base' e v n f := by
  refine ⟨h.1, ?_⟩
  rcases h.2 with hn | ⟨g, cap, cur, rfl, hg, rest⟩
  · exact .inl hn
  · exact .inr ⟨g, cap, cur, rfl, Nat.le_trans hb hg, rest⟩

def SUnp (w : World) (m : Nat) (x : Nat → UInt8) (e : Ending) (w' : World) : Prop :=
  ∃ v, e = .returned (.tuple #[.agg #[I ((x 0).toNat : Int), v], .nilIface]) ∧ V4 w' w.heap.size 65 v (unN x) (fun i => sc (unS x i)) ∧ Below w.heap.size w w'

set_option maxHeartbeats 400000 in
theorem sUnpack_yes (a : Option Addr) (b o m c : Nat) (x : Nat → UInt8) (w : World) (ha : 0 < m → a = some ⟨b, o, none⟩) (hx : Rd w b o m (bs x)) (hm : m ≤ 1000000) (hc : m < c) (hc2 : c ≤ 2000000) (hU : UnpP m x) :
    Calls Tryd.prog 29 #[.slice a m c] w (SUnp w m x) := by
  have HX := Lib.hid (hx.alloc (.cells #[I 0, .slice none 0 0] 24))
  have HY := Lib.hid hU
  have HB := Lib.hid ((Below.refl w.heap.size w).alloc (Nat.le_refl _) (.cells #[I 0, .slice none 0 0] 24))
  have HP := Lib.hid (Pair.new w 24 (I 0) (.slice none 0 0))
  have HA := Lib.hid ha
  clear hx hU ha
  go_enter Tryd.func29, Tryd.ntmps29
  go_wp2_with fail
  refine (unpack_any a b o m c x _ HA.out HX.out hm hc hc2).mono ?_
  rintro e w1 ⟨⟨_, v, rfl, hv⟩ | ⟨hn, rfl⟩, hb⟩
  · obtain ⟨va, vb, vc, rfl, hsh, _⟩ := hv.shape
    have hp := HP.out.later hb
    have hs : w.heap.size + 1 ≤ w1.heap.size := by have := hb.size; rw [World.size_alloc] at this; exact this
    have HU := Lib.hid (((Upd.refl (fun b => b = w.heap.size) w1).setCell (a := ⟨w.heap.size, 0, none⟩) (fun _ => rfl) (.int .i64 ((x 0).toNat : Int))).setCell (a := ⟨w.heap.size, 1, none⟩) (fun _ => rfl) (.slice va (unN x) vc))
    have HV := Lib.hid ((hv.kept HU.out fun t ht => hv.block_ne hp.kd (by decide) t ht).base_le (base' := w.heap.size) (by rw [World.size_alloc]; omega))
    have HB1 := Lib.hid (Below.upd (HB.out.trans (hb.mono (by rw [World.size_alloc]; omega))) HU.out (fun b e => by omega) (by omega))
    have r0 := hp.c0; have r1 := hp.c1; have r2 := hp.f0; have r3 := hp.f1
    clear hv hb hsh hp
    go_wp2_with fail
    have t0 : (w1.setCell ⟨w.heap.size, 0, none⟩ (.int .i64 ((x 0).toNat : Int))).cell? ⟨w.heap.size, 0, none⟩ = some (.int .i64 ((x 0).toNat : Int)) := cell_set_same r0 _
    have t1 : ((w1.setCell ⟨w.heap.size, 0, none⟩ (.int .i64 ((x 0).toNat : Int))).setCell ⟨w.heap.size, 1, none⟩ (.slice va (unN x) vc)).cell? ⟨w.heap.size, 1, none⟩ = some (.slice va (unN x) vc) := cell_set_same (by rw [cell_set_off (by omega)]; exact r1) _
    clear r0 r1 r2 r3
    exact bodyPost_ret (v := .tuple #[.agg #[I ((x 0).toNat : Int), .slice va (unN x) vc], .nilIface]) (by simp [results, Tryd.results29, go_sem, t0, t1]) rfl ⟨_, rfl, HV.out, HB1.out⟩
  · exact absurd HY.out hn

set_option maxHeartbeats 400000 in
theorem sUnpack_no (a : Option Addr) (b o m c : Nat) (x : Nat → UInt8) (w : World) (ha : 0 < m → a = some ⟨b, o, none⟩) (hx : Rd w b o m (bs x)) (hm : m ≤ 1000000) (hc : m < c) (hc2 : c ≤ 2000000) (hU : ¬ UnpP m x) :
    Calls Tryd.prog 29 #[.slice a m c] w fun e w' => e = .returned (.tuple #[.agg #[I 0, .slice none 0 0], .iface 28 (I 4)]) ∧ Below w.heap.size w w' := by
  have HX := Lib.hid (hx.alloc (.cells #[I 0, .slice none 0 0] 24))
  have HY := Lib.hid hU
  have HB := Lib.hid ((Below.refl w.heap.size w).alloc (Nat.le_refl _) (.cells #[I 0, .slice none 0 0] 24))
  have HP := Lib.hid (Pair.new w 24 (I 0) (.slice none 0 0))
  have HA := Lib.hid ha
  clear hx hU ha
  go_enter Tryd.func29, Tryd.ntmps29
  go_wp2_with fail
  refine (unpack_any a b o m c x _ HA.out HX.out hm hc hc2).mono ?_
  rintro e w1 ⟨⟨hn, _⟩ | ⟨_, rfl⟩, hb⟩
  · exact absurd hn HY.out
  · have hp := HP.out.later hb
    have hs : w.heap.size + 1 ≤ w1.heap.size := by have := hb.size; rw [World.size_alloc] at this; exact this
    have HU := Lib.hid (((Upd.refl (fun b => b = w.heap.size) w1).setCell (a := ⟨w.heap.size, 0, none⟩) (fun _ => rfl) (.int .i64 0)).setCell (a := ⟨w.heap.size, 1, none⟩) (fun _ => rfl) (.slice none 0 0))
    have HB1 := Lib.hid (Below.upd (HB.out.trans (hb.mono (by rw [World.size_alloc]; omega))) HU.out (fun b e => by omega) (by omega))
    have r0 := hp.c0; have r1 := hp.c1; have r2 := hp.f0; have r3 := hp.f1
    clear hb hp
    go_wp2_with fail
    have t0 : (w1.setCell ⟨w.heap.size, 0, none⟩ (.int .i64 0)).cell? ⟨w.heap.size, 0, none⟩ = some (.int .i64 0) := cell_set_same r0 _
    have t1 : ((w1.setCell ⟨w.heap.size, 0, none⟩ (.int .i64 0)).setCell ⟨w.heap.size, 1, none⟩ (.slice none 0 0)).cell? ⟨w.heap.size, 1, none⟩ = some (.slice none 0 0) := cell_set_same (by rw [cell_set_off (by omega)]; exact r1) _
    clear r0 r1 r2 r3
    exact bodyPost_ret (v := .tuple #[.agg #[I 0, .slice none 0 0], .iface 28 (I 4)]) (by simp [results, Tryd.results29, go_sem, t0, t1]) rfl ⟨rfl, HB1.out⟩

set_option maxHeartbeats 4000000 in
/-- Unpack of any bytes, as the law asks. -/
theorem unpacks_any (a : Option Addr) (b o n c : Nat) (x : Nat → UInt8) (w : World) (ha : 0 < n → a = some ⟨b, o, none⟩) (hx : Rd w b o n (bs x)) (hn : n ≤ 900000) (hc : n ≤ c) (hL : Laid w) :
    Calls Tryd.prog 15 #[.slice a n c] w (LawT w) := by
  have HX := Lib.hid hx
  have HA := Lib.hid ha
  have HL := Lib.hid hL
  have hbl : 0 < n → b < w.heap.size := hx.lt
  clear hx ha hL
  go_enter Tryd.func15, Tryd.ntmps15
  go_wp2_with fail
  refine (roomy_big a b o n c x w HA.out HX.out hn hc).mono ?_
  rintro e w1 ⟨rfl, hb1, hz1, hr1, hk1⟩
  have HB1 := Lib.hid hb1
  have HR1 := Lib.hid hr1
  have HK1 := Lib.hid hk1
  have HRx := Lib.hid (show Rd w1 w.heap.size 0 n (bs x) from (hr1.rd.take (by omega)).congr fun i hi => by simp [bs, roomX, hi])
  have hs1 : w.heap.size < w1.heap.size := by omega
  clear hb1 hr1 hk1 hz1
  by_cases hU : UnpP n x
  · have HU := Lib.hid hU
    clear hU
    go_wp2_with fail
    refine (sUnpack_yes (some ⟨w.heap.size, 0, none⟩) w.heap.size 0 n (n + 2) x w1 (fun _ => rfl) HRx.out (by omega) (by omega) (by omega) HU.out).mono ?_
    rintro e w2 ⟨v, rfl, hv, hb2⟩
    obtain ⟨va, vb, vc, rfl, hsh, hvk, hvb⟩ := hv.shape
    have HV2 := Lib.hid hv
    have HB2 := Lib.hid hb2
    have hs2 : w1.heap.size ≤ w2.heap.size := hb2.size
    clear hv hb2 hsh hvk hvb HRx
    go_wp2_with fail
    refine (tell_nil _).mono ?_
    rintro e w4 ⟨rfl, hb4⟩
    have HB4 := Lib.hid hb4
    have HP4 := Lib.hid ((Pair.new w2 24 (I ((x 0).toNat : Int)) (.slice va (unN x) vc)).later hb4)
    have HV4 := Lib.hid ((HV2.out.alloc (.cells #[I ((x 0).toNat : Int), .slice va (unN x) vc] 24)).later hb4)
    have hb14 : Below w1.heap.size w1 w4 := (HB2.out.alloc hs2 _).trans (hb4.mono (by rw [World.size_alloc]; omega))
    have HR4 := Lib.hid (HR1.out.later hb14)
    have HK4 := Lib.hid (HK1.out.later hb14)
    have HBw4 := Lib.hid (HB1.out.trans (hb14.mono (by omega)))
    have hs4 : w2.heap.size < w4.heap.size := by have := hb4.size; rw [World.size_alloc] at this; omega
    clear hb4 hb14 HV2 HB4 HB2
    go_wp2_with fail
    refine (still_big a w.heap.size b o n c x w4 HA.out (HX.out.later HBw4.out) HR4.out hn).mono ?_
    rintro e w5 ⟨rfl, hu5, hk5⟩
    have HP5 := Lib.hid (HP4.out.upd hu5 (by omega))
    have HV5 := Lib.hid (HV4.out.kept hu5 fun t ht e => by have := (HV4.out.lt t ht).1; omega)
    have HBw5 := Lib.hid (Below.upd HBw4.out hu5 (fun b e => by omega) (by omega))
    have hs5 : w4.heap.size ≤ w5.heap.size := hu5.size
    clear hu5 hk5 HP4 HV4 HR4 HK4
    go_wp2_with fail
    refine (refUnp_any a b o n c x w5 HA.out (HX.out.later HBw5.out) (by omega)).mono ?_
    rintro e w6 ⟨⟨_, u, rfl, hu⟩ | ⟨hno, _⟩, hb6⟩
    case inr => exact absurd HU.out hno
    obtain ⟨ua, ub, uc, rfl, hsu, _⟩ := hu.shape
    have HSu := Lib.hid hsu
    have HP6 := Lib.hid (HP5.out.later hb6)
    obtain ⟨va', vb', vc', e', hsv, _⟩ := (HV5.out.later hb6).shape
    obtain ⟨rfl, rfl⟩ : va' = va ∧ vc' = vc := by cases e'; exact ⟨rfl, rfl⟩
    have HSv := Lib.hid hsv
    have HBw6 := Lib.hid (HBw5.out.trans (hb6.mono (by omega)))
    have hs6 : w5.heap.size ≤ w6.heap.size := hb6.size
    clear hsu hu hb6 hsv HP5 HV5 e'
    have p0 := HP6.out.c0; have p1 := HP6.out.c1
    have hp6 : w2.heap.size < w6.heap.size := by omega
    go_wp2_with fail
    refine (sameProgram_yes va' ua vb' ub 0 0 (unN x) vc' uc (unS x) ((x 0).toNat : Int) _ (HSv.out.later ((Below.refl _ _).alloc (Nat.le_refl _) _)) (HSu.out.later ((Below.refl _ _).alloc (Nat.le_refl _) _))).mono ?_
    rintro e w8 ⟨rfl, hb8⟩
    have HB8 := Lib.hid ((HBw6.out.alloc (by omega) (.cells #[.int .i64 ((x 0).toNat : Int), .slice ua (unN x) uc] 32)).trans (hb8.mono (by rw [World.size_alloc]; omega)))
    clear hb8
    go_wp2_with fail
    go_ret
    exact ⟨rfl, HB8.out⟩
  · have HU := Lib.hid hU
    clear hU
    go_wp2_with fail
    refine (sUnpack_no (some ⟨w.heap.size, 0, none⟩) w.heap.size 0 n (n + 2) x w1 (fun _ => rfl) HRx.out (by omega) (by omega) (by omega) HU.out).mono ?_
    rintro e w2 ⟨rfl, hb2⟩
    have HB2 := Lib.hid hb2
    have hs2 : w1.heap.size ≤ w2.heap.size := hb2.size
    have HL2 := Lib.hid ((HL.out.later (HB1.out.trans (hb2.mono (by omega)))).alloc (.cells #[I 0, .slice none 0 0] 24))
    clear hb2 HRx
    go_wp2_with fail
    refine (tell_errno 4 _ HL2.out).mono ?_
    rintro e w4 ⟨rfl, hb4⟩
    have HB4 := Lib.hid hb4
    have HP4 := Lib.hid ((Pair.new w2 24 (I 0) (.slice none 0 0)).later hb4)
    have hb14 : Below w1.heap.size w1 w4 := (HB2.out.alloc hs2 _).trans (hb4.mono (by rw [World.size_alloc]; omega))
    have HR4 := Lib.hid (HR1.out.later hb14)
    have HBw4 := Lib.hid (HB1.out.trans (hb14.mono (by omega)))
    have hs4 : w2.heap.size < w4.heap.size := by have := hb4.size; rw [World.size_alloc] at this; omega
    clear hb4 hb14 HB4 HB2
    go_wp2_with fail
    refine (still_big a w.heap.size b o n c x w4 HA.out (HX.out.later HBw4.out) HR4.out hn).mono ?_
    rintro e w5 ⟨rfl, hu5, hk5⟩
    have HP5 := Lib.hid (HP4.out.upd hu5 (by omega))
    have HBw5 := Lib.hid (Below.upd HBw4.out hu5 (fun b e => by omega) (by omega))
    have hs5 : w4.heap.size ≤ w5.heap.size := hu5.size
    clear hu5 hk5 HP4 HR4
    go_wp2_with fail
    refine (refUnp_any a b o n c x w5 HA.out (HX.out.later HBw5.out) (by omega)).mono ?_
    rintro e w6 ⟨⟨hno, _⟩ | ⟨_, ua, un, uc, rfl⟩, hb6⟩
    case inl => exact absurd hno HU.out
    have HP6 := Lib.hid ((HP5.out.later hb6).alloc (.cells #[I 0, .slice ua un uc] 32))
    have HBw6 := Lib.hid (HBw5.out.trans (hb6.mono (by omega)))
    have hs6 : w5.heap.size ≤ w6.heap.size := hb6.size
    clear hb6 HP5
    have p0 := HP6.out.c0; have p1 := HP6.out.c1
    have hnil := fun (w : World) (a : Option Addr) (n c : Nat) => Lib.run_eql_slice_nil (P := Tryd.prog) w 22 65 a n c 0 0 Tryd.underlying22
    go_wp2_with fail
    go_ret
    exact ⟨rfl, HBw6.out.alloc (by omega) _⟩
end Go.Proofs.YthaamnjpjkkolaaDoor
