import Derived.Test.YthaamnjpjkkolabDoorMaStep
/- The reference's Check. -/
namespace Go.Proofs.YthaamnjpjkkolabDoor
open Go.RowKit Go.Proofs
set_option maxRecDepth 100000
set_option linter.unusedVariables false

def RefCheckIs (P : Prop) (w : World) (e : Ending) (w' : World) : Prop := (P ∧ e = .returned (I 0) ∨ ¬ P ∧ e = .returned (I 4)) ∧ Below w.heap.size w w'

set_option maxHeartbeats 4000000 in
theorem refCheck_any (a : Option Addr) (b o n c : Nat) (S : Nat → Stp) (regs shards : Int) (w : World) (h : Stps w a b o n c fun i => rc (S i)) :
    Calls Tryd.prog 35 #[.agg #[I regs, .slice a n c], I shards] w (RefCheckIs (OkP regs n S shards) w) := by
  have HS := Lib.hid h
  have hcap := h.cap; have hmax := h.max
  clear h
  have HB := Lib.hid ((Below.refl w.heap.size w).alloc (Nat.le_refl _) (.cells #[I regs, .slice a n c] 51))
  by_cases h1 : regs < 0
  · go_enter Tryd.func35, Tryd.ntmps35
    go_wp2_with fail
    go_ret
    exact ⟨.inr ⟨fun h => by have := h.1; omega, rfl⟩, HB.out⟩
  by_cases h2 : 32 < regs
  · go_enter Tryd.func35, Tryd.ntmps35
    go_wp2_with fail
    go_ret
    exact ⟨.inr ⟨fun h => by have := h.2.1; omega, rfl⟩, HB.out⟩
  by_cases h3 : 2000 < n
  · go_enter Tryd.func35, Tryd.ntmps35
    go_wp2_with fail
    go_ret
    exact ⟨.inr ⟨fun h => by have := h.2.2.1; omega, rfl⟩, HB.out⟩
  go_enter Tryd.func35, Tryd.ntmps35
  go_wp2_with fail
  go_loopg [5] n (fun g i wr => ∃ k : Nat, g = n - k ∧ k ≤ n ∧ i = I k ∧ Below w.heap.size w wr ∧ Below (w.heap.size + 1) (w.alloc (.cells #[I regs, .slice a n c] 51)) wr ∧ OkTo regs k S shards)
  case atStart => exact ⟨0, rfl, by omega, rfl, HB.out, Below.refl _ _, fun i hi => absurd hi (by omega)⟩
  case round =>
    obtain ⟨k, rfl, hk, rfl, hb, hb2, ho⟩ := hrel
    have HB1 := Lib.hid hb
    have HB2 := Lib.hid hb2
    have HO := Lib.hid ho
    clear hb hb2 ho
    have p0 : wr.cell? ⟨w.heap.size, 0, none⟩ = some (I regs) := (HB2.out.cell (p := ⟨w.heap.size, 0, none⟩) (by simp)).trans (by simp)
    have p1 : wr.cell? ⟨w.heap.size, 1, none⟩ = some (.slice a n c) := (HB2.out.cell (p := ⟨w.heap.size, 1, none⟩) (by simp)).trans (by rw [cell_new]; rfl)
    by_cases hlt : k < n
    · obtain rfl := HS.out.addr (by omega)
      have hat := (HS.out.later HB1.out).rd.at4 hlt
      have hsz : w.heap.size < wr.heap.size := by have := HB2.out.size; rw [Deep.nblk_alloc] at this; omega
      obtain ⟨s, hs⟩ : ∃ s, s = S k := ⟨_, rfl⟩
      rw [← hs] at hat
      have HSk := Lib.hid hs
      have c0 : wr.cell? ⟨b, o + k * 4, none⟩ = some (I (s.k.toNat : Int)) := hat.c0
      have c1 : wr.cell? ⟨b, o + k * 4 + 1, none⟩ = some (I s.a) := hat.c1
      have c2 : wr.cell? ⟨b, o + k * 4 + 2, none⟩ = some (I s.b) := hat.c2
      have c3 : wr.cell? ⟨b, o + k * 4 + 3, none⟩ = some (B s.c) := hat.c3
      clear hs hat
      have HN := Lib.hid ((HB1.out.alloc HB1.out.size (.cells #[I (s.k.toNat : Int), I s.a, I s.b, B s.c] 86)))
      have HN2 := Lib.hid ((HB2.out.alloc (by omega) (.cells #[I (s.k.toNat : Int), I s.a, I s.b, B s.c] 86)))
      have HY := Lib.hid (fun h : OkStep regs shards s => HO.out.next (HSk.out ▸ h))
      have HX := Lib.hid (fun h : ¬ OkStep regs shards s => (show ¬ OkP regs n S shards from fun h' => h (HSk.out ▸ h'.2.2.2 k hlt)))
      clear HO HSk
      by_cases k2 : 2 < s.k.toNat
      · go_wp2_with fail
        go_ret
        exact ⟨.inr ⟨HX.out fun h => by unfold OkStep at h; omega, rfl⟩, HN.out⟩
      by_cases a1 : s.a < 0
      · go_wp2_with fail
        go_ret
        exact ⟨.inr ⟨HX.out fun h => by unfold OkStep at h; omega, rfl⟩, HN.out⟩
      by_cases a2 : regs ≤ s.a
      · go_wp2_with fail
        go_ret
        exact ⟨.inr ⟨HX.out fun h => by unfold OkStep at h; omega, rfl⟩, HN.out⟩
      by_cases b1 : s.b < 0
      · go_wp2_with fail
        go_ret
        exact ⟨.inr ⟨HX.out fun h => by unfold OkStep at h; omega, rfl⟩, HN.out⟩
      by_cases k1 : s.k.toNat = 1
      · have t1 := btrue (a := (s.k.toNat : Int)) (b := 1) (by omega)
        have t2 := nfalse (a := (s.k.toNat : Int)) (b := 1) (by omega)
        have HE := Lib.hid k1
        clear k1
        by_cases b2 : regs ≤ s.b
        · go_wp2_with fail
          go_ret
          exact ⟨.inr ⟨HX.out fun h => by have h0 := HE.out; unfold OkStep at h; omega, rfl⟩, HN.out⟩
        by_cases hab : s.a = s.b
        · have t3 := btrue hab
          have HAB := Lib.hid hab
          clear hab
          have d2 : decide (regs ≤ s.b) = false := decide_eq_false b2
          go_wp2_with fail
          go_ret
          exact ⟨.inr ⟨HX.out fun h => by have h0 := HE.out; have h3 := HAB.out; unfold OkStep at h; omega, rfl⟩, HN.out⟩
        · have t3 := bfalse hab
          have d2 : decide (regs ≤ s.b) = false := decide_eq_false b2
          go_wp2_with fail
          go_roundg (n - (k + 1))
          case measure => omega
          case rel => exact ⟨k + 1, rfl, by omega, by go_num, HN.out, HN2.out, HY.out (by have h0 := HE.out; unfold OkStep; omega)⟩
      · have t1 := bfalse (a := (s.k.toNat : Int)) (b := 1) (by omega)
        have t2 := ntrue (a := (s.k.toNat : Int)) (b := 1) (by omega)
        by_cases b2 : shards ≤ s.b
        · go_wp2_with fail
          go_ret
          exact ⟨.inr ⟨HX.out fun h => by unfold OkStep at h; omega, rfl⟩, HN.out⟩
        · have d2 : decide (shards ≤ s.b) = false := decide_eq_false b2
          go_wp2_with fail
          go_roundg (n - (k + 1))
          case measure => omega
          case rel => exact ⟨k + 1, rfl, by omega, by go_num, HN.out, HN2.out, HY.out (by unfold OkStep; omega)⟩
    · obtain rfl : n = k := by omega
      go_wp2_with fail
      go_ret
      exact ⟨.inl ⟨⟨by omega, by omega, by omega, HO.out⟩, rfl⟩, HB1.out⟩
end Go.Proofs.YthaamnjpjkkolabDoor
