import Derived.Test.YtgelingkifafeaaGreatDoorBu03
import Derived.Test.YtgelingkifafeaaGreatDoorBu04
/- Tell: an error's number. -/
namespace Go.Proofs.YtgelingkifafeaaGreatDoor
open Go.RowKit Go.Proofs
set_option maxRecDepth 100000
set_option linter.unusedVariables false

/-- The library's variable holds the handle of 'error'. -/
def Laid (w : World) : Prop := w.cell? ⟨0, 0, none⟩ = some (.iface 154 (.agg #[.pointer (some ⟨3, 29, none⟩)]))
theorem Laid.lt {w : World} (h : Laid w) : 0 < w.heap.size := World.block_lt_of_cell? _ _ h
theorem Laid.below {w w' : World} {b : Nat} (h : Laid w) (hb : Below b w w') (hB : 0 < b) : Laid w' := (hb.cell (p := ⟨0, 0, none⟩) hB).trans h
theorem Laid.later {w w' : World} (h : Laid w) (hb : Below w.heap.size w w') : Laid w' := h.below hb h.lt
theorem Laid.alloc {w : World} (h : Laid w) (o : Obj) : Laid (w.alloc o) := Rd.alloc (n := 1) (f := fun _ => _) (fun i hi => by obtain rfl : i = 0 := (by omega); exact h) o 0 (by omega)
theorem Laid.drewN {w : World} (h : Laid w) (n : Nat) : Laid (w.drewN n) := h

theorem tell_nil (w : World) : Calls Tryz.prog 7 #[.nilIface] w fun e w' => e = .returned (I 0) ∧ Below w.heap.size w w' := by
  go_enter Tryz.func7, Tryz.ntmps7
  go_wp2_with fail
  go_ret
  exact ⟨rfl, (Below.refl _ _).alloc (Nat.le_refl _) _⟩

set_option maxHeartbeats 400000 in
theorem tell_errno (n : Int) (w : World) (hg : Laid w) : Calls Tryz.prog 7 #[.iface 34 (I n)] w fun e w' => e = .returned (I n) ∧ Below w.heap.size w w' := by
  have HG := Lib.hid hg
  clear hg
  have h0 : (w.alloc (.cells #[I 0] 34)).cell? ⟨w.heap.size, 0, none⟩ = some (I 0) := by simp
  have h1 : (w.alloc (.cells #[I 0] 34)).frozen? ⟨w.heap.size, 0, none⟩ = false := by simp
  have HA := Lib.hid (as_hit n ⟨w.heap.size, 0, none⟩ (I 0) (w.alloc (.cells #[I 0] 34)) (HG.out.alloc _) h0 h1)
  have HB := Lib.hid ((((((Below.refl w.heap.size w).alloc (Nat.le_refl _) (.cells #[I n] 34)).alloc (by simp) (.cells #[.pointer (some ⟨w.heap.size, 0, none⟩)] 70)).alloc (by simp; omega) (.cells #[.pointer (some ⟨3, 70, none⟩), .pointer (some ⟨w.heap.size + 1, 0, none⟩), .int .u64 150] 105)).alloc (by simp; omega) (.cells #[.pointer (some ⟨3, 70, none⟩), .pointer (some ⟨w.heap.size + 1, 0, none⟩), .int .u64 150] 105)).alloc (by simp; omega) (.cells #[I n] 34))
  go_enter Tryz.func7, Tryz.ntmps7
  go_wp2_with (go_at_call 19; refine HA.out.mono ?_; rintro e w' ⟨rfl, rfl⟩)
  go_ret
  exact ⟨rfl, HB.out⟩
end Go.Proofs.YtgelingkifafeaaGreatDoor
