import Derived.Test.YthaamnjpjkkolaaDoorRefStep
import Derived.Test.YthaamnjpjkkolaaDoorRws
/- The law Checks: its walk. -/
namespace Go.Proofs.YthaamnjpjkkolaaDoor
open Go.RowKit Go.Proofs
set_option maxRecDepth 100000
set_option linter.unusedVariables false

set_option maxHeartbeats 400000 in
theorem sCheck_any (a : Option Addr) (b o n c : Nat) (S : Nat → Stp) (regs shards : Int) (w : World) (h : Stps w a b o n c fun i => sc (S i)) :
    Calls Tryd.prog 7 #[.agg #[I regs, .slice a n c], I shards] w (CheckIs (OkP regs n S shards) w) := by
  have H := Lib.hid (fun w h => check_any a b o n c S regs shards w h)
  have HS := Lib.hid h
  clear h
  have HB := Lib.hid ((Below.refl w.heap.size w).alloc (Nat.le_refl _) (.cells #[I regs, .slice a n c] 24))
  go_enter Tryd.func7, Tryd.ntmps7
  go_wp2_with (go_at_call 25; refine (H.out _ (HS.out.later HB.out)).mono ?_; rintro e w1 ⟨h, hb⟩; have HB1 := Lib.hid (HB.out.trans (hb.mono HB.out.size)); have HH := Lib.hid h; clear hb h; rcases HH.out with ⟨h1, rfl⟩ | ⟨h1, rfl⟩)
  · go_ret
    exact ⟨.inl ⟨h1, rfl⟩, HB1.out⟩
  · go_ret
    exact ⟨.inr ⟨h1, rfl⟩, HB1.out⟩

set_option maxHeartbeats 400000 in
theorem num_any (n : Int) (w : World) : Calls Tryd.prog 11 #[I n] w fun e w' => e = .returned (I n) ∧ w = w' := by
  go_enter Tryd.func11, Tryd.ntmps11
  go_wp2_with fail
  go_ret
  exact ⟨rfl, rfl⟩

set_option maxHeartbeats 1000000 in
theorem checks_walk (a : Option Addr) (b o n c : Nat) (S : Nat → Stp) (regs shards : Int) (w : World) (h : Stps w a b o n c fun i => sc (S i)) (hl : Laid w) :
    Calls Tryd.prog 3 #[.agg #[I regs, .slice a n c], I shards] w (LawTrue w) := by
  have HS := Lib.hid h
  have HL := Lib.hid hl
  have hcap := h.cap; have hmax := h.max
  clear h hl
  have HB := Lib.hid ((Below.refl w.heap.size w).alloc (Nat.le_refl _) (.cells #[I regs, .slice a n c] 24))
  have HP := Lib.hid (Pair.new w 24 (I regs) (.slice a n c))
  by_cases hn : 5000 < n
  · go_enter Tryd.func3, Tryd.ntmps3
    go_wp2_with fail
    go_ret
    exact ⟨rfl, HB.out⟩
  have HC := Lib.hid (fun w h => sCheck_any a b o n c S regs shards w h)
  have HPr := Lib.hid (fun w h => program_any a b o n c S regs w h (by omega))
  have key : ∃ x : Int, (OkP regs n S shards ∧ x = 0 ∨ ¬ OkP regs n S shards ∧ x = 4) := by
    by_cases e : OkP regs n S shards
    · exact ⟨0, .inl ⟨e, rfl⟩⟩
    · exact ⟨4, .inr ⟨e, rfl⟩⟩
  obtain ⟨x, hx⟩ := key
  have HX := Lib.hid hx
  clear hx
  have hxx : (x == x) = true := by simp
  have HT : ∀ w1 e, Laid w1 → (OkP regs n S shards ∧ e = Ending.returned .nilIface ∨ ¬ OkP regs n S shards ∧ e = Ending.returned (.iface 28 (I 4))) → ∃ v, e = .returned v ∧ Calls Tryd.prog 8 #[v] w1 fun e' w' => e' = .returned (I x) ∧ Below w1.heap.size w1 w' := by
    intro w1 e hL he
    rcases he with ⟨h1, rfl⟩ | ⟨h1, rfl⟩
    · rcases HX.out with ⟨h2, rfl⟩ | ⟨h2, rfl⟩
      · exact ⟨_, rfl, tell_nil w1⟩
      · exact absurd h1 h2
    · rcases HX.out with ⟨h2, rfl⟩ | ⟨h2, rfl⟩
      · exact absurd h2 h1
      · exact ⟨_, rfl, tell_errno 4 w1 hL⟩
  have HT := Lib.hid HT
  have HR : ∀ w1 (a1 : Option Addr) (b1 c1 : Nat), Stps w1 a1 b1 0 n c1 (fun i => rc (S i)) → Calls Tryd.prog 10 #[.agg #[I regs, .slice a1 n c1], I shards] w1 fun e w' => e = .returned (I x) ∧ Below w1.heap.size w1 w' := by
    intro w1 a1 b1 c1 hs
    refine (refCheck_any a1 b1 0 n c1 S regs shards w1 hs).mono ?_
    rintro e w2 ⟨⟨h1, rfl⟩ | ⟨h1, rfl⟩, hb⟩
    · rcases HX.out with ⟨h2, rfl⟩ | ⟨h2, rfl⟩
      · exact ⟨rfl, hb⟩
      · exact absurd h1 h2
    · rcases HX.out with ⟨h2, rfl⟩ | ⟨h2, rfl⟩
      · exact absurd h2 h1
      · exact ⟨rfl, hb⟩
  have HR := Lib.hid HR
  clear HX
  go_enter Tryd.func3, Tryd.ntmps3
  go_wp2_with fail
  refine (HC.out _ (HS.out.later HB.out)).mono ?_
  rintro e w1 ⟨he, hb⟩
  have HB1 := Lib.hid (HB.out.trans (hb.mono HB.out.size))
  have HP1 := Lib.hid (HP.out.later hb)
  obtain ⟨v, rfl, ht⟩ := HT.out w1 e (HL.out.later HB1.out) he
  have HTT := Lib.hid ht
  clear he hb ht HB HP HC
  go_wp2_with (go_at_call 8; refine HTT.out.mono ?_; rintro e w2 ⟨rfl, hb⟩; have HB2 := Lib.hid (HB1.out.trans (hb.mono HB1.out.size)); have hp := HP1.out.later hb; have q0 := hp.c0; have q1 := hp.c1; clear hb hp)
  refine (HPr.out _ (HS.out.later HB2.out)).mono ?_
  rintro e w3 ⟨v3, rfl, hb, hv⟩
  have HB3 := Lib.hid (HB2.out.trans (hb.mono HB2.out.size))
  obtain ⟨a3, b3, c3, rfl, hs3, _⟩ := hv.shape
  have HS3 := Lib.hid hs3
  clear hb hv hs3 q0 q1
  go_wp2_with (go_at_call 10; refine (HR.out _ _ b3 _ (HS3.out.later ((Below.refl _ _).alloc (Nat.le_refl _) _))).mono ?_; rintro e w4 ⟨rfl, hb⟩; have HB4 := Lib.hid ((HB3.out.alloc HB3.out.size (.cells #[I regs, .slice a3 n c3] 32)).trans (hb.mono (by rw [Deep.nblk_alloc]; exact Nat.le_trans HB3.out.size (Nat.le_succ _)))); clear hb)
  refine (num_any _ _).mono ?_
  rintro e w5 ⟨rfl, rfl⟩
  go_wp2_with fail
  go_ret
  exact ⟨by simp, HB4.out⟩
end Go.Proofs.YthaamnjpjkkolaaDoor
