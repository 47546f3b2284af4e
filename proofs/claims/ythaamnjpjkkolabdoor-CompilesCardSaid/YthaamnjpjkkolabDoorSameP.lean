import Derived.Test.YthaamnjpjkkolabDoorMaStep
/- The law's sameProgram, where both are the same. -/
namespace Go.Proofs.YthaamnjpjkkolabDoor
open Go.RowKit Go.Proofs
set_option maxRecDepth 100000
set_option linter.unusedVariables false

set_option maxHeartbeats 2000000 in
theorem sameProgram_yes (a a' : Option Addr) (b b' o o' n c c' : Nat) (S : Nat → Stp) (regs : Int) (w : World) (h : Stps w a b o n c fun i => sc (S i)) (h' : Stps w a' b' o' n c' fun i => rc (S i)) :
    Calls Tryd.prog 27 #[.agg #[I regs, .slice a n c], .agg #[I regs, .slice a' n c']] w fun e w' => e = .returned (.bool true) ∧ Below w.heap.size w w' := by
  have HS := Lib.hid h
  have HT := Lib.hid h'
  have hcap := h.cap; have hmax := h.max
  clear h h'
  have hrr : (regs != regs) = false := by simp
  have hnn : ((n : Int) != (n : Int)) = false := by simp
  have HB := Lib.hid ((Below.refl (w.heap.size + 1 + 1) ((w.alloc (.cells #[I regs, .slice a n c] 39)).alloc (.cells #[I regs, .slice a' n c'] 51))))
  have HB0 := Lib.hid (((Below.refl w.heap.size w).alloc (Nat.le_refl _) (.cells #[I regs, .slice a n c] 39)).alloc (by simp) (.cells #[I regs, .slice a' n c'] 51))
  have HP := Lib.hid ((Pair.new w 39 (I regs) (.slice a n c)).alloc (.cells #[I regs, .slice a' n c'] 51))
  have HQ := Lib.hid (show Pair ((w.alloc (.cells #[I regs, .slice a n c] 39)).alloc (.cells #[I regs, .slice a' n c'] 51)) (w.heap.size + 1) 51 (I regs) (.slice a' n c') from World.size_alloc w (.cells #[I regs, .slice a n c] 39) ▸ Pair.new (w.alloc (.cells #[I regs, .slice a n c] 39)) 51 (I regs) (.slice a' n c'))
  go_enter Tryd.func27, Tryd.ntmps27
  go_wp2_with fail
  go_loopg [5] n (fun g i wr => ∃ k : Nat, g = n - k ∧ k ≤ n ∧ i = I k ∧ Below (w.heap.size + 1 + 1) ((w.alloc (.cells #[I regs, .slice a n c] 39)).alloc (.cells #[I regs, .slice a' n c'] 51)) wr)
  case atStart => exact ⟨0, rfl, by omega, rfl, HB.out⟩
  case round =>
    obtain ⟨k, rfl, hk, rfl, hb⟩ := hrel
    have HB1 := Lib.hid hb
    have HBw := Lib.hid (show Below w.heap.size w wr from HB0.out.trans (hb.mono (by omega)))
    have hsz : w.heap.size + 1 + 1 ≤ wr.heap.size := by have := hb.size; rw [World.size_alloc, World.size_alloc] at this; omega
    have hsz2 : w.heap.size + 1 < wr.heap.size := by omega
    have hb' : Below ((w.alloc (.cells #[I regs, .slice a n c] 39)).alloc (.cells #[I regs, .slice a' n c'] 51)).heap.size ((w.alloc (.cells #[I regs, .slice a n c] 39)).alloc (.cells #[I regs, .slice a' n c'] 51)) wr := by rw [World.size_alloc, World.size_alloc]; exact hb
    have p1 := (HP.out.later hb').c1
    have q1 := (HQ.out.later hb').c1
    clear hb hb'
    by_cases hlt : k < n
    · obtain rfl := HS.out.addr (by omega)
      obtain rfl := HT.out.addr (by omega)
      have hat := (HS.out.later HBw.out).rd.at4 hlt
      have hat' := (HT.out.later HBw.out).rd.at4 hlt
      obtain ⟨s, hs⟩ : ∃ s, s = S k := ⟨_, rfl⟩
      rw [← hs] at hat hat'
      have c0 : wr.cell? ⟨b, o + k * 4, none⟩ = some (B s.k) := hat.c0
      have c1 : wr.cell? ⟨b, o + k * 4 + 1, none⟩ = some (I s.a) := hat.c1
      have c2 : wr.cell? ⟨b, o + k * 4 + 2, none⟩ = some (I s.b) := hat.c2
      have c3 : wr.cell? ⟨b, o + k * 4 + 3, none⟩ = some (B s.c) := hat.c3
      have d0 : wr.cell? ⟨b', o' + k * 4, none⟩ = some (I (s.k.toNat : Int)) := hat'.c0
      have d1 : wr.cell? ⟨b', o' + k * 4 + 1, none⟩ = some (I s.a) := hat'.c1
      have d2 : wr.cell? ⟨b', o' + k * 4 + 2, none⟩ = some (I s.b) := hat'.c2
      have d3 : wr.cell? ⟨b', o' + k * 4 + 3, none⟩ = some (B s.c) := hat'.c3
      have hbl' : b' < wr.heap.size := World.block_lt_of_cell? _ _ d0
      have t0 : ((s.k.toNat : Int) != (s.k.toNat : Int)) = false := by simp
      have t1 : (s.a != s.a) = false := by simp
      have t2 : (s.b != s.b) = false := by simp
      have t3 : ((s.c.toNat : Int) != (s.c.toNat : Int)) = false := by simp
      have hk8 := s.k.toNat_lt
      have HN := Lib.hid ((HB1.out.alloc hsz (.cells #[B s.k, I s.a, I s.b, B s.c] 84)).alloc (by simp; omega) (.cells #[I (s.k.toNat : Int), I s.a, I s.b, B s.c] 86))
      clear hs hat hat'
      go_wp2_with fail

      go_roundg (n - (k + 1))
      case measure => omega
      case rel => exact ⟨k + 1, rfl, by omega, by go_num, HN.out⟩
    · obtain rfl : n = k := by omega
      go_wp2_with fail
      go_ret
      exact ⟨rfl, HBw.out⟩
end Go.Proofs.YthaamnjpjkkolabDoor
