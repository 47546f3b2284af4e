import Derived.Test.YtgelingkifafeaaGreatDoorBu43
/- archive.Open: what it refuses. -/
namespace Go.Proofs.YtgelingkifafeaaGreatDoor
open Go Go.RowKit Go.Proofs Lin
set_option maxRecDepth 100000
set_option linter.unusedVariables false

def OpnBad (w : World) (k : Nat) (e : Ending) (w' : World) : Prop := e = .returned (.tuple #[.pointer none, errV (some k)]) ∧ Below w.heap.size w w'

set_option maxHeartbeats 1000000 in
theorem opnF_bad (w : World) (a : Value) (D L G c : Int) (hR : ¬ RightI D L G) : Calls Tryz.prog 18 #[a, PV D L G, .agg #[I c]] w (OpnBad w 1) := by
  have HN := Lib.hid (new_bad D L G hR)
  have HBx := Lib.hid (show Below w.heap.size w ((w.alloc (.cells #[I D, I L, I G] 23)).alloc (.cells #[I c] 33)) from ((Below.refl _ w).alloc (Nat.le_refl _) _).alloc (by simp) _)
  clear hR
  go_enter Tryz.func18, Tryz.ntmps18
  go_wp2_with (go_at_call 26; refine (HN.out _).mono ?_; rintro e w2 ⟨rfl, hb⟩; have HB2 := Lib.hid (HBx.out.trans (hb.mono HBx.out.size)); clear hb)
  go_ret2
  exact ⟨rfl, HB2.out⟩

set_option maxHeartbeats 1000000 in
theorem opnF_cache (w : World) (a : Value) (D L G : Nat) (c : Int) (hR : Right D L G) (hc : c < 0 ∨ 64 < c) : Calls Tryz.prog 18 #[a, PV D L G, .agg #[I c]] w (OpnBad w 1) := by
  have HN := Lib.hid (new_ok D L G hR)
  have HBx := Lib.hid (show Below w.heap.size w ((w.alloc (.cells #[I D, I L, I G] 23)).alloc (.cells #[I c] 33)) from ((Below.refl _ w).alloc (Nat.le_refl _) _).alloc (by simp) _)
  have HCx := Lib.hid (Row.lit (w.alloc (.cells #[I D, I L, I G] 23)) #[I c] 33)
  have hzx : (w.alloc (.cells #[I D, I L, I G] 23)).heap.size = w.heap.size + 1 := World.size_alloc ..
  rw [hzx] at HCx
  clear hR
  by_cases h0 : c < 0
  · have b1 : decide (c < 0) = true := decide_eq_true h0
    clear hc
    go_enter Tryz.func18, Tryz.ntmps18
    go_wp2_with (go_at_call 26; refine (HN.out _).mono ?_; rintro e w2 ⟨cb, cv, β, rfl, hC2⟩; have HB2 := Lib.hid (HBx.out.trans (hC2.below.mono HBx.out.size)); have y0 : w2.cell? ⟨w.heap.size + 1, 0, none⟩ = some (I c) := (HCx.out.later hC2.below).cell 0 (by simp); clear hC2)
    go_ret2
    exact ⟨rfl, HB2.out⟩
  · have b1 : decide (c < 0) = false := decide_eq_false h0
    have b2 : decide (64 < c) = true := decide_eq_true (by omega)
    clear hc
    go_enter Tryz.func18, Tryz.ntmps18
    go_wp2_with (go_at_call 26; refine (HN.out _).mono ?_; rintro e w2 ⟨cb, cv, β, rfl, hC2⟩; have HB2 := Lib.hid (HBx.out.trans (hC2.below.mono HBx.out.size)); have y0 : w2.cell? ⟨w.heap.size + 1, 0, none⟩ = some (I c) := (HCx.out.later hC2.below).cell 0 (by simp); clear hC2)
    go_ret2
    exact ⟨rfl, HB2.out⟩
end Go.Proofs.YtgelingkifafeaaGreatDoor
