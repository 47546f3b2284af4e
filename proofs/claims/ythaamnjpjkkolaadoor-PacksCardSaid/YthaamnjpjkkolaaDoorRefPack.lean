import Derived.Test.YthaamnjpjkkolaaDoorUnp
/- The reference's Pack and Unpack. -/
namespace Go.Proofs.YthaamnjpjkkolaaDoor
open Go.RowKit Go.Proofs
set_option maxRecDepth 100000
set_option linter.unusedVariables false

def RefPackIs (w : World) (regs : Int) (n : Nat) (S : Nat → Stp) (e : Ending) (w' : World) : Prop :=
  (PackP regs n S ∧ (∃ v, e = .returned (.tuple #[v, I 0]) ∧ Vc w' w.heap.size 5 v (3 + 4 * n) (bs (packX regs n S))) ∨
   ¬ PackP regs n S ∧ e = .returned (.tuple #[.slice none 0 0, I 4])) ∧ Below w.heap.size w w'

set_option maxHeartbeats 4000000 in
theorem refPack_any (a : Option Addr) (b o n c : Nat) (S : Nat → Stp) (regs : Int) (w : World) (h : Stps w a b o n c fun i => rc (S i)) :
    Calls Tryd.prog 13 #[.agg #[I regs, .slice a n c]] w (RefPackIs w regs n S) := by
  have HS := Lib.hid h
  have hcap := h.cap; have hmax := h.max
  clear h
  have HB := Lib.hid ((Below.refl w.heap.size w).alloc (Nat.le_refl _) (.cells #[I regs, .slice a n c] 32))
  by_cases h1 : regs < 0
  · go_enter Tryd.func13, Tryd.ntmps13
    go_wp2_with fail
    go_ret2
    exact ⟨.inr ⟨fun h => by have := h.1; omega, rfl⟩, HB.out⟩
  by_cases h2 : 32 < regs
  · go_enter Tryd.func13, Tryd.ntmps13
    go_wp2_with fail
    go_ret2
    exact ⟨.inr ⟨fun h => by have := h.2.1; omega, rfl⟩, HB.out⟩
  by_cases h3 : 2000 < n
  · go_enter Tryd.func13, Tryd.ntmps13
    go_wp2_with fail
    go_ret2
    exact ⟨.inr ⟨fun h => by have := h.2.2.1; omega, rfl⟩, HB.out⟩
  have HV0 := Lib.hid (show Vc _ (w.heap.size + 1) _ (.slice (some ⟨w.heap.size + 1, 0, none⟩) 3 3) _ _ from World.size_alloc w (.cells #[I regs, .slice a n c] 32) ▸ packX_start regs n S (by omega) (by omega) (by omega) (w.alloc (.cells #[I regs, .slice a n c] 32)) (w.alloc (.cells #[I regs, .slice a n c] 32)).heap.size (Nat.le_refl _))
  have HB2 := Lib.hid ((Below.refl (w.heap.size + 1) (w.alloc (.cells #[I regs, .slice a n c] 32))).alloc (by simp) (.cells #[.int .u8 regs, .int .u8 ((n : Int) / 256), .int .u8 ((n : Int) % 256)] 5))
  go_enter Tryd.func13, Tryd.ntmps13
  go_wp2_with fail
  go_loopg [4, 5] n (fun g v i wr => ∃ k : Nat, g = n - k ∧ k ≤ n ∧ i = I k ∧ Below (w.heap.size + 1) (w.alloc (.cells #[I regs, .slice a n c] 32)) wr ∧ Vc wr (w.heap.size + 1) 5 v (3 + 4 * k) (bs (packX regs n S)) ∧ FitTo k S)
  case atStart => exact ⟨0, rfl, by omega, rfl, HB2.out, HV0.out, fun i hi => absurd hi (by omega)⟩
  case round =>
    obtain ⟨k, rfl, hk, rfl, hb, hv, ho⟩ := hrel
    obtain ⟨va, vb, vc, rfl, hva, _⟩ := hv.shape
    obtain rfl := hva (by omega)
    have HB1 := Lib.hid hb
    have HV := Lib.hid hv
    have HO := Lib.hid ho
    have HBw := Lib.hid (show Below w.heap.size w wr from HB.out.trans (hb.mono (Nat.le_succ _)))
    have p1 : wr.cell? ⟨w.heap.size, 1, none⟩ = some (.slice a n c) := (hb.cell (p := ⟨w.heap.size, 1, none⟩) (by simp)).trans (by rw [cell_new]; rfl)
    have hsz : w.heap.size + 1 ≤ wr.heap.size := by have := hb.size; rw [Deep.nblk_alloc] at this; omega
    clear hb hv ho hva HV0 HB2
    by_cases hlt : k < n
    · obtain rfl := HS.out.addr (by omega)
      have hat := (HS.out.later HBw.out).rd.at4 hlt
      obtain ⟨s, hs⟩ : ∃ s, s = S k := ⟨_, rfl⟩
      rw [← hs] at hat
      have HSk := Lib.hid hs
      have c0 : wr.cell? ⟨b, o + k * 4, none⟩ = some (I (s.k.toNat : Int)) := hat.c0
      have c1 : wr.cell? ⟨b, o + k * 4 + 1, none⟩ = some (I s.a) := hat.c1
      have c2 : wr.cell? ⟨b, o + k * 4 + 2, none⟩ = some (I s.b) := hat.c2
      have c3 : wr.cell? ⟨b, o + k * 4 + 3, none⟩ = some (B s.c) := hat.c3
      clear hs hat
      have HN := Lib.hid (HBw.out.alloc (by omega) (.cells #[I (s.k.toNat : Int), I s.a, I s.b, B s.c] 67))
      have HX := Lib.hid (fun h : ¬ Fit s => (show ¬ PackP regs n S from fun h' => h (HSk.out ▸ h'.2.2.2 k hlt)))
      have d0 : decide ((s.k.toNat : Int) < 0) = false := decide_eq_false (by omega)
      by_cases k2 : 2 < s.k.toNat
      · have dk : decide ((2 : Int) < (s.k.toNat : Int)) = true := decide_eq_true (by omega)
        go_wp2_with fail
        go_ret2
        exact ⟨.inr ⟨HX.out fun h => by unfold Fit at h; omega, rfl⟩, HN.out⟩
      have d1 : decide ((2 : Int) < (s.k.toNat : Int)) = false := decide_eq_false (by omega)
      by_cases a1 : s.a < 0
      · go_wp2_with fail
        go_ret2
        exact ⟨.inr ⟨HX.out fun h => by unfold Fit at h; omega, rfl⟩, HN.out⟩
      have d2 : decide (s.a < 0) = false := decide_eq_false (by omega)
      by_cases a2 : 255 < s.a
      · go_wp2_with fail
        go_ret2
        exact ⟨.inr ⟨HX.out fun h => by unfold Fit at h; omega, rfl⟩, HN.out⟩
      have d3 : decide (255 < s.a) = false := decide_eq_false (by omega)
      by_cases b1 : s.b < 0
      · go_wp2_with fail
        go_ret2
        exact ⟨.inr ⟨HX.out fun h => by unfold Fit at h; omega, rfl⟩, HN.out⟩
      have d4 : decide (s.b < 0) = false := decide_eq_false (by omega)
      by_cases b2 : 255 < s.b
      · go_wp2_with fail
        go_ret2
        exact ⟨.inr ⟨HX.out fun h => by unfold Fit at h; omega, rfl⟩, HN.out⟩
      have d5 : decide (255 < s.b) = false := decide_eq_false (by omega)
      by_cases hfit : Fit s
      case neg =>
        have t1 := ntrue (a := (s.k.toNat : Int)) (b := 1) (fun e => hfit ⟨by omega, by omega, by omega, by omega, by omega, .inr (by omega)⟩)
        have t2 := ntrue (a := (s.c.toNat : Int)) (b := 0) (fun e => hfit ⟨by omega, by omega, by omega, by omega, by omega, .inl (by omega)⟩)
        have HF := Lib.hid hfit
        clear hfit
        go_wp2_with fail
        go_ret2
        exact ⟨.inr ⟨HX.out HF.out, rfl⟩, HN.out⟩
      have HF := Lib.hid hfit
      have HN2 := Lib.hid (HB1.out.alloc hsz (.cells #[I (s.k.toNat : Int), I s.a, I s.b, B s.c] 67))
      have HV1 := Lib.hid (HV.out.alloc (.cells #[I (s.k.toNat : Int), I s.a, I s.b, B s.c] 67))
      have HR := Lib.hid (Row.new4 wr (I (s.k.toNat : Int)) (I s.a) (I s.b) (B s.c) 67)
      have hk8 := s.k.toNat_lt
      rcases (show s.k.toNat = 1 ∨ (s.k.toNat ≠ 1 ∧ s.c.toNat = 0) by have := hfit.2.2.2.2.2; omega) with k1 | ⟨k1, k3⟩
      · have t1 := nfalse (a := (s.k.toNat : Int)) (b := 1) (by omega)
        clear k1
        clear hfit
        go_upto_region 10 with fail
        have hsz2 : w.heap.size + 1 ≤ (wr.alloc (.cells #[I (s.k.toNat : Int), I s.a, I s.b, B s.c] 67)).heap.size := by rw [Deep.nblk_alloc]; omega
        generalize wr.alloc (.cells #[I (s.k.toNat : Int), I s.a, I s.b, B s.c] 67) = W2 at *
        have e0 := HR.out.c0; have e1 := HR.out.c1; have e2 := HR.out.c2; have e3 := HR.out.c3
        clear p1
        go_wp2_with (refine wpList_append_vc rfl (.tmp 85) (.tmp 97) 37 rfl (w.heap.size + 1) 5 (.int .u8 0) 1 Tryd.underlying37 infoU8 rfl (.slice (some ⟨vb, 0, none⟩) (3 + 4 * k) vc) (3 + 4 * k) _ rfl (HV1.out.alloc _) (some ⟨W2.heap.size, 0, none⟩) 4 4 W2.heap.size 0 (fun j => B (stB s j)) rfl (fun _ => rfl) (stB_new s HF.out W2) (fun _ _ => rfl) (by omega) (by omega) (by rw [Deep.nblk_alloc]; omega) ?_; intro v3 w3 hv3 hu3; have HV3 := Lib.hid (packX_next (regs := regs) (n := n) (S := S) (HSk.out ▸ hv3)); have HB4 := Lib.hid (Below.upd (HN2.out.alloc hsz2 _) hu3 (fun b e => (HV1.out.lt b e.symm).1) (by rw [Deep.nblk_alloc]; omega)); clear hv3 hu3)
        go_roundg (n - (k + 1))
        case measure => omega
        case rel => exact ⟨k + 1, rfl, by omega, by go_num, HB4.out, HV3.out, HO.out.next (HSk.out ▸ HF.out)⟩
      · have t1 := ntrue (a := (s.k.toNat : Int)) (b := 1) (by omega)
        have t2 := nfalse (a := (s.c.toNat : Int)) (b := 0) (by omega)
        clear k1 k3
        clear hfit
        go_upto_region 10 with fail
        have hsz2 : w.heap.size + 1 ≤ (wr.alloc (.cells #[I (s.k.toNat : Int), I s.a, I s.b, B s.c] 67)).heap.size := by rw [Deep.nblk_alloc]; omega
        generalize wr.alloc (.cells #[I (s.k.toNat : Int), I s.a, I s.b, B s.c] 67) = W2 at *
        have e0 := HR.out.c0; have e1 := HR.out.c1; have e2 := HR.out.c2; have e3 := HR.out.c3
        clear p1
        go_wp2_with (refine wpList_append_vc rfl (.tmp 85) (.tmp 97) 37 rfl (w.heap.size + 1) 5 (.int .u8 0) 1 Tryd.underlying37 infoU8 rfl (.slice (some ⟨vb, 0, none⟩) (3 + 4 * k) vc) (3 + 4 * k) _ rfl (HV1.out.alloc _) (some ⟨W2.heap.size, 0, none⟩) 4 4 W2.heap.size 0 (fun j => B (stB s j)) rfl (fun _ => rfl) (stB_new s HF.out W2) (fun _ _ => rfl) (by omega) (by omega) (by rw [Deep.nblk_alloc]; omega) ?_; intro v3 w3 hv3 hu3; have HV3 := Lib.hid (packX_next (regs := regs) (n := n) (S := S) (HSk.out ▸ hv3)); have HB4 := Lib.hid (Below.upd (HN2.out.alloc hsz2 _) hu3 (fun b e => (HV1.out.lt b e.symm).1) (by rw [Deep.nblk_alloc]; omega)); clear hv3 hu3)
        go_roundg (n - (k + 1))
        case measure => omega
        case rel => exact ⟨k + 1, rfl, by omega, by go_num, HB4.out, HV3.out, HO.out.next (HSk.out ▸ HF.out)⟩
    · obtain rfl : n = k := by omega
      go_wp2_with fail
      go_ret2
      exact ⟨.inl ⟨⟨by omega, by omega, by omega, HO.out⟩, _, rfl, HV.out.base_le (Nat.le_succ _)⟩, HBw.out⟩
end Go.Proofs.YthaamnjpjkkolaaDoor
