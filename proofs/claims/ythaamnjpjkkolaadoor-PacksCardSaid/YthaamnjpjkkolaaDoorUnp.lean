import Derived.Test.YthaamnjpjkkolaaDoorPack
import Derived.Test.YthaamnjpjkkolaaDoorHeldQ
/- Unpack: a program out of bytes. -/
namespace Go.Proofs.YthaamnjpjkkolaaDoor
open Go.RowKit Go.Proofs
set_option maxRecDepth 100000
set_option linter.unusedVariables false

/-- How many steps the bytes speak of; step i. -/
def unN (x : Nat → UInt8) : Nat := (x 1).toNat * 256 + (x 2).toNat
def unS (x : Nat → UInt8) (i : Nat) : Stp := ⟨x (3 + 4 * i), ((x (3 + 4 * i + 1)).toNat : Int), ((x (3 + 4 * i + 2)).toNat : Int), x (3 + 4 * i + 3)⟩
/-- Bytes that are a program. -/
def UnpP (m : Nat) (x : Nat → UInt8) : Prop := 3 ≤ m ∧ (x 0).toNat ≤ 32 ∧ unN x ≤ 2000 ∧ m = 3 + 4 * unN x ∧ FitTo (unN x) (unS x)

theorem Pair.set0 {w : World} {b t : Nat} {x y : Value} (h : Pair w b t x y) (v : Value) : Pair (w.setCell ⟨b, 0, none⟩ v) b t v y :=
  ⟨cell_set_same h.c0 v, by rw [cell_set_off (by omega)]; exact h.c1, by rw [frozen_set]; exact h.f0, by rw [frozen_set]; exact h.f1, h.kd.set _ _⟩
theorem Pair.drewN {w : World} {b t : Nat} {x y : Value} (h : Pair w b t x y) (k : Nat) : Pair (w.drewN k) b t x y := ⟨h.c0, h.c1, h.f0, h.f1, h.kd⟩

/-- A program in the making: the result's variable, the program, its steps. -/
structure Unpd (tp te : Nat) (w wr : World) (k : Nat) (f : Nat → Nat → Value) (regs : Int) (v : Value) : Prop where
  below : Below w.heap.size w wr
  res : Pair wr w.heap.size tp (I 0) (.slice none 0 0)
  out : Pair wr (w.heap.size + 1) tp (I regs) v
  vs : V4 wr w.heap.size te v k f
namespace Unpd
variable {tp te k : Nat} {w wr w1 w3 : World} {f : Nat → Nat → Value} {regs : Int} {v v3 : Value}
theorem start (tp te : Nat) (w : World) (f : Nat → Nat → Value) (regs : Int) : Unpd tp te w ((w.alloc (.cells #[I 0, .slice none 0 0] tp)).alloc (.cells #[I regs, .slice none 0 0] tp)) 0 f regs (.slice none 0 0) := by
  have e1 : (w.alloc (.cells #[I 0, .slice none 0 0] tp)).heap.size = w.heap.size + 1 := Deep.nblk_alloc _ _
  exact ⟨((Below.refl _ _).alloc (Nat.le_refl _) _).alloc (by omega) _, (Pair.new w _ _ _).alloc _, e1 ▸ Pair.new _ _ _ _, V4.nil _ _ _ _⟩
theorem later (h : Unpd tp te w wr k f regs v) (hb : Below wr.heap.size wr w1) : Unpd tp te w w1 k f regs v :=
  ⟨h.below.trans (hb.mono h.below.size), h.res.later hb, h.out.later hb, h.vs.later hb⟩
theorem alloc (h : Unpd tp te w wr k f regs v) (o : Obj) : Unpd tp te w (wr.alloc o) k f regs v := h.later ((Below.refl _ _).alloc (Nat.le_refl _) o)
theorem drewN (h : Unpd tp te w wr k f regs v) (n : Nat) : Unpd tp te w (wr.drewN n) k f regs v := h.later (below_drewN (Below.refl _ _) n)
theorem lt (h : Unpd tp te w wr k f regs v) : w.heap.size + 1 < wr.heap.size := h.out.kd.lt
theorem next (h : Unpd tp te w wr k f regs v) (ht : tp ≠ te) (hv : V4 w3 w.heap.size te v3 (k + 1) (fun i => if i < k then f i else f k)) (hu : Upd (fun b => some b = v.ownBlock) wr w3) :
    Unpd tp te w (w3.setCell ⟨w.heap.size + 1, 1, none⟩ v3) (k + 1) f regs v3 ∧ w3.cell? ⟨w.heap.size + 1, 1, none⟩ = some v ∧ w3.frozen? ⟨w.heap.size + 1, 1, none⟩ = false := by
  have hne : ∀ {b x y}, Pair wr b tp x y → ¬ some b = v.ownBlock := fun hp e => h.vs.block_ne hp.kd ht _ e.symm rfl
  have hr := h.res.upd hu (hne h.res)
  have ho := h.out.upd hu (hne h.out)
  have hs := h.below.size
  have hU : Upd (fun b => b = w.heap.size + 1) w3 (w3.setCell ⟨w.heap.size + 1, 1, none⟩ v3) := (Upd.refl (fun b => b = w.heap.size + 1) w3).setCell (a := ⟨w.heap.size + 1, 1, none⟩) (fun _ => rfl) v3
  refine ⟨⟨?_, hr.upd hU (by omega), ho.set1 v3, ?_⟩, ho.c1, ho.f1⟩
  · exact Below.upd (Below.upd h.below hu (fun b e => (h.vs.lt b e.symm).1) hs) hU (fun b e => by omega) (Nat.le_trans hs hu.size)
  · refine (hv.kept hU fun t ht' e => ?_).congr fun i hi j _ => ?_
    · exact hv.block_ne ho.kd ht t ht' e
    · by_cases e : i < k
      · rw [if_pos e]
      · rw [if_neg e, show i = k by omega]
end Unpd

theorem infoAS : (Tryd.prog.info? 65).map (fun i => (i.zero, i.size, i.bytes)) = some (some (.agg #[.int .u8 0, .int .i64 0, .int .i64 0, .int .u8 0]), 4, 32) := by kernel_rfl

theorem or_spell (a b : Nat) (ha : a < 256) (hb : b < 256) : bits .or .i64 ((a : Int) * 256) (b : Int) = ((a * 256 + b : Nat) : Int) := by
  rw [show (a : Int) * 256 = ((a * 256 : Nat) : Int) by simp, (bits_nat .i64 63 (by decide) wraps_i64 (a * 256) b (by omega) (by omega)).2]
  congr 1
  have := Nat.two_pow_add_eq_or_of_lt (i := 8) (show b < 2 ^ 8 by omega) a
  rw [Nat.mul_comm a 256]; exact this.symm

def UnpIs (w : World) (m : Nat) (x : Nat → UInt8) (e : Ending) (w' : World) : Prop :=
  (UnpP m x ∧ (∃ v, e = .returned (.tuple #[.agg #[I ((x 0).toNat : Int), v], .nilIface]) ∧ V4 w' w.heap.size 65 v (unN x) (fun i => sc (unS x i))) ∨
   ¬ UnpP m x ∧ e = .returned (.tuple #[.agg #[I 0, .slice none 0 0], .iface 28 (I 4)])) ∧ Below w.heap.size w w'

theorem unp_no {w w' : World} {m : Nat} {x : Nat → UInt8} (h : ¬ UnpP m x) (hB : Below w.heap.size w w') : UnpIs w m x (.returned (.tuple #[.agg #[I 0, .slice none 0 0], .iface 28 (I 4)])) w' := ⟨.inr ⟨h, rfl⟩, hB⟩

set_option maxHeartbeats 4000000 in
theorem unpack_any (a : Option Addr) (b o m c : Nat) (x : Nat → UInt8) (w : World) (ha : 0 < m → a = some ⟨b, o, none⟩) (hx : Rd w b o m (bs x)) (hm : m ≤ 1000000) (hc : m < c) (hc2 : c ≤ 2000000) :
    Calls Tryd.prog 44 #[.slice a m c] w (UnpIs w m x) := by
  have HX := Lib.hid hx
  clear hx
  have HB0 := Lib.hid ((Below.refl w.heap.size w).alloc (Nat.le_refl _) (.cells #[I 0, .slice none 0 0] 24))
  have HP0 := Lib.hid (fun r => Unpd.start 24 65 w (fun i => sc (unS x i)) r)
  by_cases h3 : m < 3
  · go_enter Tryd.func44, Tryd.ntmps44
    go_wp2_with fail
    exact bodyPost_ret (v := .tuple #[.agg #[I 0, .slice none 0 0], .iface 28 (I 4)]) (by simp [results, Tryd.results44, go_sem]) rfl (unp_no (fun h => by have := h.1; omega) HB0.out)
  obtain rfl := ha (by omega)
  have hbl : b < w.heap.size := HX.out.lt (by omega)
  have x0 : w.cell? ⟨b, o, none⟩ = some (B (x 0)) := HX.out 0 (by omega)
  have x1 : w.cell? ⟨b, o + 1, none⟩ = some (B (x 1)) := HX.out 1 (by omega)
  have x2 : w.cell? ⟨b, o + 2, none⟩ = some (B (x 2)) := HX.out 2 (by omega)
  obtain ⟨N, hN⟩ : ∃ N, N = unN x := ⟨_, rfl⟩
  have hN2 : N < 65536 := by rw [hN]; unfold unN; have h1 := (x 1).toNat_lt; have h2 := (x 2).toNat_lt; omega
  have hor : bits .or .i64 (((x 1).toNat : Int) * 256) ((x 2).toNat : Int) = (N : Int) := by rw [hN]; exact or_spell (x 1).toNat (x 2).toNat (x 1).toNat_lt (x 2).toNat_lt
  have b1 := (x 1).toNat_lt; have b2 := (x 2).toNat_lt; have b0 := (x 0).toNat_lt
  have HN := Lib.hid hN
  have HPn := Lib.hid (show ¬ (3 ≤ m ∧ (x 0).toNat ≤ 32 ∧ N ≤ 2000 ∧ m = 3 + 4 * N ∧ FitTo N (unS x)) → ¬ UnpP m x by rw [hN]; exact fun h => h)
  clear hN ha
  have hwr : IntKind.i64.wrap (((x 1).toNat : Int) * 256) = ((x 1).toNat : Int) * 256 := wraps_i64 _ (by omega) (by omega)
  go_enter Tryd.func44, Tryd.ntmps44
  go_wp2_with fail
  go_quiet (fail)
  clear hwr
  by_cases r1 : 32 < (x 0).toNat
  · go_wp2_with fail
    exact bodyPost_ret (v := .tuple #[.agg #[I 0, .slice none 0 0], .iface 28 (I 4)]) (by simp [results, Tryd.results44, go_sem]) rfl (unp_no (HPn.out fun h => by omega) (((below_drewN (HP0.out _).below nq).setCell (Nat.le_refl _) _).setCell (Nat.le_refl _) _))
  by_cases r2 : 2000 < N
  · go_wp2_with fail
    exact bodyPost_ret (v := .tuple #[.agg #[I 0, .slice none 0 0], .iface 28 (I 4)]) (by simp [results, Tryd.results44, go_sem]) rfl (unp_no (HPn.out fun h => by omega) (((below_drewN (HP0.out _).below nq).setCell (Nat.le_refl _) _).setCell (Nat.le_refl _) _))
  by_cases r3 : m = 3 + 4 * N
  case neg =>
    have hne : ((m : Int) != 3 + 4 * (N : Int)) = true := by simp; omega
    go_wp2_with fail
    exact bodyPost_ret (v := .tuple #[.agg #[I 0, .slice none 0 0], .iface 28 (I 4)]) (by simp [results, Tryd.results44, go_sem]) rfl (unp_no (HPn.out fun h => by omega) (((below_drewN (HP0.out _).below nq).setCell (Nat.le_refl _) _).setCell (Nat.le_refl _) _))
  have hne : ((m : Int) != 3 + 4 * (N : Int)) = false := by simp; omega
  have r4 : m ≤ 3 + 4 * N := by omega
  have r5 : 3 + 4 * N ≤ m := by omega
  clear r3
  go_wp2_with fail
  go_loopg [0] N (fun g v wr => ∃ (k p l q : Nat) (u : Value), g = N - k ∧ k ≤ N ∧ p = o + 3 + 4 * k ∧ l + 4 * k = 4 * N ∧ l < q ∧ q ≤ 2000000 ∧ v = .slice (some ⟨b, p, none⟩) l q ∧ Unpd 24 65 w wr k (fun i => sc (unS x i)) ((x 0).toNat : Int) u ∧ FitTo k (unS x))
  case atStart => exact ⟨0, o + 3, m - 3, c - 3, _, rfl, by omega, by omega, by omega, by omega, by omega, rfl, (HP0.out _).drewN nq, fun i hi => absurd hi (by omega)⟩
  case round =>
    have hbl' : b < wr.heap.size := Nat.lt_of_lt_of_le hbl (by have := hrel; obtain ⟨k, p, l, q, u, h1, h2, h3, h4, h5, h6, h7, h8, h9⟩ := this; exact h8.below.size)
    obtain ⟨k, p, l, q, u, rfl, hk, hp, hl, hlq, hq, rfl, hP, hft⟩ := hrel
    obtain ⟨ua, ub, uc, rfl, hsh, _⟩ := hP.vs.shape
    have HP := Lib.hid hP
    have HFT := Lib.hid hft
    have HPp := Lib.hid hp
    have HLl := Lib.hid hl
    have hsz : w.heap.size + 1 < wr.heap.size := hP.lt
    clear hP hft hsh hp x0 x1 x2 HP0
    by_cases hlt : k < N
    · have hl4 : 4 ≤ l := by omega
      have hl5 : l ≤ 4 * N := by omega
      have i1 : (1 : Int) < (l : Int) := by omega
      have i2 : (2 : Int) < (l : Int) := by omega
      have i3 : (3 : Int) < (l : Int) := by omega
      have key : ∀ j, j < 4 → wr.cell? ⟨b, p + j, none⟩ = some (B (x (3 + 4 * k + j))) := fun j hj => by
        have := (HX.out.below HP.out.below (fun _ => hbl)) (3 + 4 * k + j) (by omega)
        rwa [show o + (3 + 4 * k + j) = p + j by have := HPp.out; omega] at this
      obtain ⟨k0, hk0⟩ : ∃ z, z = x (3 + 4 * k) := ⟨_, rfl⟩
      obtain ⟨k1, hk1⟩ : ∃ z, z = x (3 + 4 * k + 1) := ⟨_, rfl⟩
      obtain ⟨k2, hk2⟩ : ∃ z, z = x (3 + 4 * k + 2) := ⟨_, rfl⟩
      obtain ⟨k3, hk3⟩ : ∃ z, z = x (3 + 4 * k + 3) := ⟨_, rfl⟩
      have y0 : wr.cell? ⟨b, p, none⟩ = some (B k0) := by rw [hk0]; exact key 0 (by omega)
      have y1 : wr.cell? ⟨b, p + 1, none⟩ = some (B k1) := by rw [hk1]; exact key 1 (by omega)
      have y2 : wr.cell? ⟨b, p + 2, none⟩ = some (B k2) := by rw [hk2]; exact key 2 (by omega)
      have y3 : wr.cell? ⟨b, p + 3, none⟩ = some (B k3) := by rw [hk3]; exact key 3 (by omega)
      have HS := Lib.hid (show unS x k = ⟨k0, (k1.toNat : Int), (k2.toNat : Int), k3⟩ by rw [hk0, hk1, hk2, hk3]; rfl)
      clear key hk0 hk1 hk2 hk3 hl
      have t1 := k1.toNat_lt; have t2 := k2.toNat_lt
      have HP1 := Lib.hid ((HP.out.drewN 1).alloc (.cells #[B k0, I (k1.toNat : Int), I (k2.toNat : Int), B k3] 65))
      have HR := Lib.hid (Row.new4 (wr.drewN 1) (B k0) (I (k1.toNat : Int)) (I (k2.toNat : Int)) (B k3) 65)
      go_wp2_with fail
      obtain ⟨wA, hA0, hA1, hAA⟩ := two_worlds wr.drew (wr.drew.alloc (.cells #[.int .u8 0, .int .i64 0, .int .i64 0, .int .u8 0] 65))
      have HA0 := Lib.hid hA0
      have HA1 := Lib.hid hA1
      have z0 := hAA (fun W => W.cell? ⟨b, p, none⟩ = some (B k0)) y0 (cell_alloc' (W := wr.drew) y0 _)
      have z1 := hAA (fun W => W.cell? ⟨b, p + 1, none⟩ = some (B k1)) y1 (cell_alloc' (W := wr.drew) y1 _)
      have z2 := hAA (fun W => W.cell? ⟨b, p + 2, none⟩ = some (B k2)) y2 (cell_alloc' (W := wr.drew) y2 _)
      have z3 := hAA (fun W => W.cell? ⟨b, p + 3, none⟩ = some (B k3)) y3 (cell_alloc' (W := wr.drew) y3 _)
      clear hA0 hA1 hAA
      refine wp_region_held_quiet 15 (fun W => ∃ n, W = wA n) (by kernel_rfl) (by kernel_rfl) rfl ?hq ⟨0, HA0.out.symm⟩ ?_
      case hq => intro c a d v w h; cases d <;> exact h
      simp only [List.take_succ_cons, List.take_zero, List.drop_succ_cons, List.drop_zero]
      repeat (go_big_quiet_step (fail))
      refine wpQuiet_nil ?_
      refine wpOp_of (i := 15) rfl rfl ?_
      clear z0 z1 z2 z3
      cases hf : fitB ⟨k0, (k1.toNat : Int), (k2.toNat : Int), k3⟩ with
      | false =>
        have HF := Lib.hid hf
        clear hf
        go_simp
        refine ⟨⟨1, HA1.out.symm⟩, ?_⟩
        clear y0 y1 y2 y3
        go_wp2_with (go_at_call 43; refine (fits_any ⟨k0, (k1.toNat : Int), (k2.toNat : Int), k3⟩ _).mono ?_; rintro e w1 ⟨rfl, hb⟩; rw [HF.out]; have HP2 := Lib.hid (HP1.out.later hb); have r0 := HP2.out.res.c0; have r1 := HP2.out.res.c1; have r2 := HP2.out.res.f0; have r3 := HP2.out.res.f1; clear hb)
        have t0 : (w1.setCell ⟨w.heap.size, 0, none⟩ (.int .i64 0)).cell? ⟨w.heap.size, 0, none⟩ = some (.int .i64 0) := cell_set_same r0 _
        have t1 : ((w1.setCell ⟨w.heap.size, 0, none⟩ (.int .i64 0)).setCell ⟨w.heap.size, 1, none⟩ (.slice none 0 0)).cell? ⟨w.heap.size, 1, none⟩ = some (.slice none 0 0) := cell_set_same (by rw [cell_set_off (by omega)]; exact r1) _
        clear r0 r1 r2 r3
        exact bodyPost_ret (v := .tuple #[.agg #[I 0, .slice none 0 0], .iface 28 (I 4)]) (by simp [results, Tryd.results44, go_sem, t0, t1]) rfl (unp_no (HPn.out fun h => fitB_f HF.out (HS.out ▸ h.2.2.2.2 k hlt)) ((HP2.out.below.setCell (Nat.le_refl _) _).setCell (Nat.le_refl _) _))
      | true =>
        have HF := Lib.hid hf
        clear hf
        go_simp
        refine ⟨⟨1, HA1.out.symm⟩, ?_⟩
        clear y0 y1 y2 y3
        go_wp2_with (first | (go_at_call 43; refine (fits_any ⟨k0, (k1.toNat : Int), (k2.toNat : Int), k3⟩ _).mono ?_; rintro e w1 ⟨rfl, hb⟩; rw [HF.out]; have HP2 := Lib.hid (HP1.out.later hb); have q1 := HP2.out.out.c1; have hr : Four w1 wr.heap.size _ _ _ _ := HR.out.later hb; have e0 := hr.c0; have e1 := hr.c1; have e2 := hr.c2; have e3 := hr.c3; have hsz1 : w.heap.size + 1 < w1.heap.size := HP2.out.lt; clear hb hr) | (refine wpList_append_four rfl (.tmp 72) (.tmp 74) 22 rfl w.heap.size 65 (.agg #[.int .u8 0, .int .i64 0, .int .i64 0, .int .u8 0]) 32 Tryd.underlying22 infoAS rfl (.slice ua k uc) k _ rfl HP2.out.vs (sc ⟨k0, (k1.toNat : Int), (k2.toNat : Int), k3⟩) 65 rfl (fun j hj => by rcases (show j = 0 ∨ j = 1 ∨ j = 2 ∨ j = 3 by omega) with rfl | rfl | rfl | rfl <;> rfl) (by omega) (by omega) (by omega) ?_; intro v3 w3 hv3 hu3; have HN := Lib.hid (HP2.out.next (by decide) (HS.out ▸ hv3) hu3); obtain ⟨va3, vb3, vc3, rfl, _⟩ := hv3.shape; have n1 : w3.cell? ⟨w.heap.size + 1, 1, none⟩ = some (.slice ua k uc) := HN.out.2.1; have n2 : w3.frozen? ⟨w.heap.size + 1, 1, none⟩ = false := HN.out.2.2; clear hv3 hu3))
        go_roundg (N - (k + 1))
        case measure => omega
        case rel => exact ⟨k + 1, p + 4, l - 4, q - 4, _, rfl, by omega, by have := HPp.out; omega, by have := HLl.out; omega, by omega, by omega, rfl, HN.out.1, HFT.out.next (HS.out ▸ fitB_t HF.out)⟩
    · obtain rfl : N = k := by omega
      have r0 := HP.out.res.c0
      have r1 := HP.out.res.c1
      have r2 := HP.out.res.f0
      have r3 := HP.out.res.f1
      have o0 := HP.out.out.c0
      have o1 := HP.out.out.c1
      have HU := Lib.hid (((Upd.refl (fun b => b = w.heap.size) wr).setCell (a := ⟨w.heap.size, 0, none⟩) (fun _ => rfl) (.int .i64 ((x 0).toNat : Int))).setCell (a := ⟨w.heap.size, 1, none⟩) (fun _ => rfl) (.slice ua N uc))
      have HV := Lib.hid (HP.out.vs.kept HU.out fun t ht => HP.out.vs.block_ne HP.out.res.kd (by decide) t ht)
      have hl0 : l = 0 := by omega
      subst hl0
      go_wp2_with fail
      have t0 : (wr.setCell ⟨w.heap.size, 0, none⟩ (.int .i64 ((x 0).toNat : Int))).cell? ⟨w.heap.size, 0, none⟩ = some (.int .i64 ((x 0).toNat : Int)) := cell_set_same r0 _
      have t1 : ((wr.setCell ⟨w.heap.size, 0, none⟩ (.int .i64 ((x 0).toNat : Int))).setCell ⟨w.heap.size, 1, none⟩ (.slice ua N uc)).cell? ⟨w.heap.size, 1, none⟩ = some (.slice ua N uc) := cell_set_same (by rw [cell_set_off (by omega)]; exact r1) _
      clear r0 r1 r2 r3 o0 o1
      refine bodyPost_ret (v := .tuple #[.agg #[I ((x 0).toNat : Int), .slice ua N uc], .nilIface]) (by simp [results, Tryd.results44, go_sem, t0, t1]) rfl ⟨.inl ⟨?_, _, rfl, ?_⟩, Below.upd HP.out.below HU.out (fun b e => by omega) (by omega)⟩
      · have h1 := HN.out
        have h2 := HFT.out
        rw [h1] at h2
        exact ⟨by omega, by omega, by omega, by omega, h2⟩
      · have := HV.out
        rw [← HN.out]
        exact this
end Go.Proofs.YthaamnjpjkkolaaDoor
