import Derived.Test.YthaamnjpjkkolabDoorRunB
import Derived.Test.YthaamnjpjkkolabDoorTell
import Derived.Test.YthaamnjpjkkolabDoorNum
/- The law Runs: its walk. -/
namespace Go.Proofs.YthaamnjpjkkolabDoor
open Go.RowKit Go.Proofs
set_option maxRecDepth 100000
set_option linter.unusedVariables false

theorem infoB1 : (Tryd.prog.info? 4).map (fun i => (i.zero, i.size, i.bytes)) = some (some (.bool false), 1, 1) := by kernel_rfl

/-- The list of shards in the making: k of them are laid, or left nil. -/
def inV (D : Nat → Sl) (β : Nat → Nat) (x k j : Nat) : Value := if j < k ∧ x.testBit j = false then .slice (some ⟨β j, 0, none⟩) (D j).n ((D j).n + 2) else .slice none 0 0
theorem inV_done (D : Nat → Sl) (β : Nat → Nat) (x m j : Nat) (hj : j < m) : inV D β x m j = (inT D β (fun i => x.testBit i) j).v := by
  unfold inV inT
  by_cases h : x.testBit j = true
  · rw [if_neg (by simp [h])]; simp [h]
  · have h' : x.testBit j = false := by simpa using h
    rw [if_pos ⟨hj, h'⟩]; simp [h']

set_option maxHeartbeats 8000000 in
theorem runs_walk (a a' : Option Addr) (b b' o o' n m c c' : Nat) (S : Nat → Stp) (D : Nat → Sl) (regs : Int) (x : Nat) (hx : x < 2 ^ 64) (w : World) (h : Stps w a b o n c fun i => sc (S i)) (hD : Rws w a' b' o' m c' D) (hL : Laid w) :
    Calls Tryd.prog 4 #[.agg #[I regs, .slice a n c], .slice a' m c', U x] w (LawTrue w) := by
  have HS := Lib.hid h
  have HD := Lib.hid hD
  have HL := Lib.hid hL
  have hcap := h.cap; have hmax := h.max; have hcd := hD.cap; have hmd := hD.max
  have hwt := Lib.hid (fun w' (hb : Below w.heap.size w w') => weight_any a' b' o' m c' D w' (hD.later hb).addr (hD.later hb).out (fun i hi => Nat.le_trans (hD.ok i hi).cap (hD.ok i hi).max) (by unfold maxLen; omega))
  clear h hD hL
  have HB0 := Lib.hid ((Below.refl w.heap.size w).alloc (Nat.le_refl _) (.cells #[I regs, .slice a n c] 39))
  have HP0 := Lib.hid (Pair.new w 39 (I regs) (.slice a n c))
  go_enter Tryd.func4, Tryd.ntmps4
  go_wp2_with fail
  refine (hwt.out _ HB0.out).mono ?_
  rintro e w1 ⟨r, rfl, rfl, hr0, hr⟩
  by_cases hbig : 100000 < r
  · clear hr
    go_wp2_with fail
    go_ret
    exact ⟨rfl, HB0.out⟩
  have hsum : m + wt D m ≤ 100000 := hr (by omega)
  have hs := Lib.hid (fun i (hi : i < m) => (show (D i).n ≤ 100000 by have := wt_le D hi; omega))
  have d0 : decide (100000 < r) = false := decide_eq_false hbig
  clear hr hwt
  by_cases h5 : 5000 < n
  · have d1 : decide ((5000 : Int) < (n : Int)) = true := decide_eq_true (by omega)
    go_wp2_with fail
    go_ret
    exact ⟨rfl, HB0.out⟩
  have d1 : decide ((5000 : Int) < (n : Int)) = false := decide_eq_false (by omega)
  by_cases h6 : 64 < m
  · have d2 : decide ((64 : Int) < (m : Int)) = true := decide_eq_true (by omega)
    go_wp2_with fail
    go_ret
    exact ⟨rfl, HB0.out⟩
  have d2 : decide ((64 : Int) < (m : Int)) = false := decide_eq_false (by omega)
  obtain ⟨L, N, y, hL2, hN4, hrun, href⟩ := runs_both n m S D (fun i => x.testBit i) regs hs.out
  have HRun := Lib.hid hrun
  have HRef := Lib.hid href
  clear hrun href
  go_wp2_with fail
  have HDa := Lib.hid (HD.out.later HB0.out)
  refine (roomies_any a' b' o' m c' D _ HDa.out.addr HDa.out.out HDa.out.ok hs.out (by omega)).mono ?_
  rintro e w1 ⟨v, β, rfl, hb1, hv1, hr1⟩
  have HB1 := Lib.hid (HB0.out.trans (hb1.mono HB0.out.size))
  have HP1 := Lib.hid (HP0.out.later hb1)
  have HV1 := Lib.hid hv1
  have HR1 := Lib.hid hr1
  have hsz0 : w.heap.size < (w.alloc (.cells #[I regs, .slice a n c] 39)).heap.size := by rw [Deep.nblk_alloc]; omega
  have HBX := Lib.hid (show ∀ j, j < m → (w.alloc (.cells #[I regs, .slice a n c] 39)).heap.size ≤ β j ∧ β j < w1.heap.size from fun j hj => ⟨hr1.own j hj, (hr1.kd j hj).lt⟩)
  clear hb1 hv1 hr1
  obtain ⟨va, vb, vc, rfl, hva, hvr, hvc, hvk, _⟩ := HV1.out.shape
  have HVR := Lib.hid hvr.rd
  have HVA := Lib.hid hva
  have hmk := make_bss (m : Int) (by omega) (by omega)
  simp only [Int.toNat_natCast] at hmk
  have HW3 := Lib.hid ((Row.new w1 (.slice none 0 0) m 28))
  have HK3 := Lib.hid (Kd.new w1 (madeCells #[.slice none 0 0] m) 28)
  have HU3 := Lib.hid ((Upd.refl (fun b => b = w1.heap.size) w1).alloc (.cells (madeCells #[.slice none 0 0] m) 28))
  clear hva hvr hvk
  go_wp2_with fail
  go_loopg [9, 11] m (fun g nv i wr => ∃ k : Nat, g = m - k ∧ k ≤ m ∧ i = I k ∧ Below w1.heap.size w1 wr ∧ Row wr w1.heap.size 0 m (inV D β x k) ∧ Kd wr w1.heap.size 28 ∧ Vc wr (w1.heap.size + 1) 4 nv k (fun i => .bool (x.testBit i)) ∧ w1.heap.size + 1 ≤ wr.heap.size)
  case atStart => exact ⟨0, rfl, by omega, rfl, (Below.refl _ _).alloc (Nat.le_refl _) _, HW3.out.congr fun i hi => by simp [inV], HK3.out, Vc.nil _ _ _ _, by rw [World.size_alloc]; omega⟩
  case round =>
    obtain ⟨k, rfl, hk, rfl, hb, hrow, hkd, hnv, hs3⟩ := hrel
    have HB := Lib.hid hb
    have HRW := Lib.hid hrow
    have HKD := Lib.hid hkd
    have HNV := Lib.hid hnv
    have hs4 : w1.heap.size < wr.heap.size := by omega
    clear hb hrow hkd hnv HW3 HK3 HU3
    by_cases hlt : k < m
    · obtain rfl := HVA.out (by omega)
      have HHS := Lib.hid (refHas_any x k hx (by omega))
      have HBU := Lib.hid (fun w2 (hu : Upd (fun b => some b = u9.ownBlock) wr w2) => (show Below w1.heap.size w1 w2 ∧ Row w2 w1.heap.size 0 m (inV D β x k) ∧ Kd w2 w1.heap.size 28 ∧ w2.cell? ⟨vb, k, none⟩ = some (.slice (some ⟨β k, 0, none⟩) (D k).n ((D k).n + 2)) ∧ w1.heap.size < w2.heap.size from by
        have hne : ¬ some w1.heap.size = u9.ownBlock := fun e => by have := (HNV.out.lt _ e.symm).1; omega
        have hb2 : Below w1.heap.size w1 w2 := Below.upd HB.out hu (fun b e => by have := (HNV.out.lt b e.symm).1; omega) (by omega)
        refine ⟨hb2, HRW.out.upd hu (fun _ => hne), HKD.out.upd hu hne, ?_, Nat.lt_of_lt_of_le hs4 hu.size⟩
        have := (HVR.out.later hb2) k hlt
        rwa [Nat.zero_add] at this))
      cases hbit : x.testBit k with
      | true =>
        have HBit := Lib.hid hbit
        clear hbit
        go_wp2_with (first | (go_at_call 15; refine (HHS.out _).mono ?_; rintro e w2 ⟨rfl, rfl⟩; rw [HBit.out]) | (refine wpList_append_one rfl (.tmp 50) (.tmp 52) 43 rfl (w1.heap.size + 1) 4 (.bool false) 1 Tryd.underlying43 infoB1 rfl _ k _ rfl HNV.out (.bool true) _ rfl rfl (by omega) (by omega) hs3 ?_; intro v2 w2 hv2 hu2; have HV2 := Lib.hid hv2; have HX2 := Lib.hid (HBU.out w2 hu2); clear hv2 hu2))
        go_roundg (m - (k + 1))
        case measure => omega
        case rel => exact ⟨k + 1, rfl, by omega, by go_num, HX2.out.1, HX2.out.2.1.congr fun i hi => by
          unfold inV
          by_cases e : i = k
          · subst e; simp [HBit.out]
          · simp only [show (i < k + 1) ↔ i < k by omega], HX2.out.2.2.1, HV2.out.congr fun i hi => by
          by_cases e : i < k
          · simp [e]
          · obtain rfl : i = k := by omega
            simp [HBit.out], HX2.out.2.2.2.2⟩
      | false =>
        have HBit := Lib.hid hbit
        clear hbit
        go_wp2_with (first | (go_at_call 15; refine (HHS.out _).mono ?_; rintro e w2 ⟨rfl, rfl⟩; rw [HBit.out]) | (refine wpList_append_one rfl (.tmp 50) (.tmp 52) 43 rfl (w1.heap.size + 1) 4 (.bool false) 1 Tryd.underlying43 infoB1 rfl _ k _ rfl HNV.out (.bool false) _ rfl rfl (by omega) (by omega) hs3 ?_; intro v2 w2 hv2 hu2; have HV2 := Lib.hid hv2; have hx2 := HBU.out w2 hu2; have y1 := hx2.2.2.2.1; have y2 := hx2.2.1.cell k hlt; have y3 := hx2.2.1.free k hlt; rw [Nat.zero_add] at y2 y3; rw [show inV D β x k k = .slice none 0 0 by unfold inV; rw [if_neg (by omega)]] at y2; have HX2 := Lib.hid hx2; clear hv2 hu2 hx2))
        go_roundg (m - (k + 1))
        case measure => omega
        case rel =>
          have hU : Upd (· = w1.heap.size) w2 (w2.setCell ⟨w1.heap.size, k, none⟩ (.slice (some ⟨β k, 0, none⟩) (D k).n ((D k).n + 2))) := (Upd.refl (· = w1.heap.size) w2).setCell (a := ⟨w1.heap.size, k, none⟩) (fun _ => rfl) _
          refine ⟨k + 1, rfl, by omega, by go_num, Below.upd HX2.out.1 hU (fun b e => by omega) (by have := HX2.out.2.2.2.2; omega), ?_, HX2.out.2.2.1.set _ _, ?_, by rw [Deep.nblk_setCell]; exact HX2.out.2.2.2.2⟩
          · have h1 := HX2.out.2.1.set hlt (.slice (some ⟨β k, 0, none⟩) (D k).n ((D k).n + 2))
            rw [Nat.zero_add] at h1
            refine h1.congr fun i hi => ?_
            unfold inV
            by_cases e : i = k
            · subst e; simp [HBit.out]
            · simp only [if_neg e, show (i < k + 1) ↔ i < k by omega]
          · refine (HV2.out.kept hU fun t ht e => by have := (HV2.out.lt t ht).1; omega).congr fun i hi => ?_
            by_cases e : i < k
            · simp [e]
            · obtain rfl : i = k := by omega
              simp [HBit.out]
    · obtain rfl : m = k := by omega
      have HBw := Lib.hid (HB1.out.trans (HB.out.mono HB1.out.size))
      have HSh := Lib.hid (show Shs wr (some ⟨w1.heap.size, 0, none⟩) w1.heap.size 0 m m (inT D β (fun i => x.testBit i)) from
        ⟨fun _ => rfl, HRW.out.rd.congr fun i hi => inV_done D β x m i hi, fun i hi hne => by
          unfold inT at hne ⊢
          by_cases hb : x.testBit i = true
          · simp [hb] at hne
          · simp only [hb]
            exact ⟨rfl, (((HR1.out.row i hi).rd.take (m := (D i).n) (Nat.le_add_right _ 2)).later HB.out).congr fun t ht => by simp [bs, roomX, show t < (D i).n from ht]⟩, fun i hi => by
          have := hs.out i hi
          unfold inT; by_cases hb : x.testBit i = true
          · simp [hb]
          · simp [hb]; exact this, Nat.le_refl _, by omega⟩)
      obtain ⟨na, nb, nc, rfl, hna, hnr, hnc, _, _⟩ := HNV.out.shape
      have HNA := Lib.hid hna
      have hp := HP1.out.later HB.out
      have p0 := hp.c0; have p1 := hp.c1
      have HPr := Lib.hid hp
      clear hna hnr hp HRW HKD hmk d0 d1 d2
      go_wp2_with fail
      refine (sRun_of a (some ⟨w1.heap.size, 0, none⟩) b o n c m m S regs L N y wr (fun w2 hb => HRun.out β a (some ⟨w1.heap.size, 0, none⟩) b w1.heap.size o 0 c m w2 (HS.out.later (HBw.out.trans (hb.mono HBw.out.size))) (HSh.out.later hb))).mono ?_
      rintro e w4 ⟨v4, γ, ev, rfl, ho, hb4, hy⟩
      have ht : ∀ w', Laid w' → Calls Tryd.prog 11 #[ev] w' fun e w2 => e = .returned (I y) ∧ Below w'.heap.size w' w2 := by
        rcases hy with ⟨rfl, rfl⟩ | ⟨_, _, rfl⟩
        · exact fun w' _ => tell_nil w'
        · exact fun w' hl => tell_errno y w' hl
      have HTl := Lib.hid ht
      have HY := Lib.hid hy
      have HO := Lib.hid ho
      have HBw4 := Lib.hid (HBw.out.trans (hb4.mono HBw.out.size))
      have H4 := Lib.hid hb4
      clear ht hy ho hb4 p0 p1
      go_wp2_with fail
      refine (HTl.out _ (HL.out.later HBw4.out)).mono ?_
      rintro e w5 ⟨rfl, hb5⟩
      have HBw5 := Lib.hid (HBw4.out.trans (hb5.mono HBw4.out.size))
      have H5 := Lib.hid (H4.out.trans (hb5.mono H4.out.size))
      have HO5 := Lib.hid (HO.out.later hb5)
      have H15 := Lib.hid (HB.out.trans (H5.out.mono HB.out.size))
      clear hb5 HO
      go_wp2_with fail
      have HD5 := Lib.hid (HD.out.later HBw5.out)
      refine (allStill_fine (.slice va m vc) a' b' o' m c' (w.alloc (.cells #[I regs, .slice a n c] 39)).heap.size D β w5 HD5.out.addr HD5.out.out HD5.out.ok hs.out (by omega) (fun h0 => by have := HD.out.out.lt h0; omega) (fun i hi h0 => by have := (HD.out.ok i hi).rd.lt h0; omega) (HV1.out.later H15.out) (HR1.out.later H15.out)).mono ?_
      rintro e w6 ⟨rfl, hu6⟩
      have hs6 : w5.heap.size ≤ w6.heap.size := hu6.size
      have hs5 : wr.heap.size ≤ w5.heap.size := H5.out.size
      have HBw6 := Lib.hid (Below.upd HBw5.out hu6 (fun t ⟨j, hj, e⟩ => by have := (HBX.out j hj).1; omega) HBw5.out.size)
      have hp6 := (HPr.out.later H5.out).upd hu6 (fun ⟨j, hj, e⟩ => by have := (HBX.out j hj).1; omega)
      have q0 := hp6.c0; have q1 := hp6.c1
      have HO6 := Lib.hid (HO5.out.upd hu6 (fun j hj ⟨i, hi, e⟩ => by have := HO5.out.own j hj; have := (HBX.out i hi).2; omega) (fun t ht ⟨i, hi, e⟩ => by have := (HO5.out.vz.lt t ht).1; have := (HBX.out i hi).2; omega))
      have HN6 := Lib.hid ((HNV.out.later H5.out).kept hu6 (fun t ht ⟨i, hi, e⟩ => by have := (HNV.out.lt t ht).1; have := (HBX.out i hi).2; omega))
      clear hu6 hp6 HO5
      go_wp2_with fail
      refine (program_any a b o n c S regs w6 (HS.out.later HBw6.out) (by omega)).mono ?_
      rintro e w7 ⟨v7, rfl, hb7, hv7⟩
      obtain ⟨a7, b7, c7, rfl, hs7, _⟩ := hv7.shape
      have HS7 := Lib.hid (hs7.later ((Below.refl _ _).alloc (Nat.le_refl _) (.cells #[.int .i64 regs, .slice a7 n c7] 51)))
      have HBw7 := Lib.hid ((HBw6.out.trans (hb7.mono HBw6.out.size)).alloc (Nat.le_trans HBw6.out.size hb7.size) (.cells #[.int .i64 regs, .slice a7 n c7] 51))
      have HO7 := Lib.hid ((HO6.out.later hb7).later ((Below.refl _ _).alloc (Nat.le_refl _) (.cells #[.int .i64 regs, .slice a7 n c7] 51)))
      have HN7 := Lib.hid ((HN6.out.later hb7).later ((Below.refl _ _).alloc (Nat.le_refl _) (.cells #[.int .i64 regs, .slice a7 n c7] 51)))
      have hsz7 : wr.heap.size ≤ (w7.alloc (.cells #[.int .i64 regs, .slice a7 n c7] 51)).heap.size := by rw [World.size_alloc]; have := hb7.size; omega
      obtain ⟨na2, nb2, nc2, e', hna2, hnr2, hnc2, _, _⟩ := HN7.out.shape
      obtain ⟨rfl, rfl⟩ : na2 = na ∧ nc2 = nc := by cases e'; exact ⟨rfl, rfl⟩
      have HNA2 := Lib.hid hna2
      have HNR2 := Lib.hid hnr2.rd
      clear hs7 hv7 hb7 q0 q1 e' hna2 hnr2
      go_wp2_with fail
      refine (HRef.out a7 a' na2 b7 b' nb2 0 o' 0 c7 c' nc2 _ HS7.out (HD.out.later HBw7.out) HNA2.out HNR2.out hnc2).mono ?_
      rintro e w8 ⟨v8, δ, rfl, ho8, hb8⟩
      have HO8 := Lib.hid (ho8.base_le hsz7)
      have HO78 := Lib.hid (HO7.out.later hb8)
      have HBw8 := Lib.hid (HBw7.out.trans (hb8.mono HBw7.out.size))
      have HNE := Lib.hid (fun i j (hi : i < L.length) (hj : j < L.length) => (show γ i ≠ δ j from by
        have h1 := (HO7.out.kd i hi).lt
        have h2 := ho8.own j hj
        omega))
      clear ho8 hb8
      go_wp2_with fail
      refine (sameOutputs_yes _ _ _ N w8 v4 v8 L γ δ HO78.out HO8.out HNE.out hL2 hN4).mono ?_
      rintro e w9 ⟨rfl, hu9⟩
      have HBw9 := Lib.hid (Below.upd HBw8.out hu9 (fun t ⟨j, hj, e⟩ => by have := HO78.out.own j hj; have := HBw.out.size; omega) HBw8.out.size)
      clear hu9
      have hyy : (y == y) = true := by simp
      obtain ⟨a4, b4, c4, rfl, _⟩ := HO78.out.els
      have hnil := fun (a : Option Addr) (n c : Nat) (w : World) => Lib.run_eql_slice_nil (P := Tryd.prog) w 45 89 a n c 0 0 Tryd.underlying45
      rcases HY.out with ⟨hy0, _⟩ | ⟨hy1, hv, _⟩
      · have hyt := btrue hy0
        clear hy0
        go_wp2_with fail
        refine (num_any _ _).mono ?_
        rintro e w10 ⟨rfl, rfl⟩
        go_wp2_with fail
        go_ret
        exact ⟨rfl, HBw9.out⟩
      · have hyf := bfalse hy1
        obtain rfl : a4 = none := (Value.slice.inj hv).1
        clear hv hy1
        go_wp2_with fail
        refine (num_any _ _).mono ?_
        rintro e w10 ⟨rfl, rfl⟩
        go_wp2_with fail
        go_ret
        exact ⟨rfl, HBw9.out⟩
end Go.Proofs.YthaamnjpjkkolabDoor
