import Derived.Test.YtgelingkifafeaaGreatDoorBu16
/- Drives, Blocks. -/
namespace Go.Proofs.YtgelingkifafeaaGreatDoor
open Go Go.RowKit Go.Proofs
set_option maxRecDepth 100000
set_option linter.unusedVariables false

theorem drives_any (w : World) (l : ArrL) (A : Arr) (h : ArrAt w l A) : Calls Tryz.prog 27 #[.pointer (some ⟨l.ab, 0, none⟩)] w fun e w' => e = .returned (I A.n) ∧ w' = w := by
  have c0 := h.c0
  obtain ⟨a, c, e⟩ := l.dv_shape A.n
  rw [e] at c0
  clear h e
  go_enter Tryz.func27, Tryz.ntmps27
  go_wp2_with fail
  go_ret
  exact ⟨rfl, rfl⟩

theorem blocks_any (w : World) (l : ArrL) (A : Arr) (h : ArrAt w l A) : Calls Tryz.prog 28 #[.pointer (some ⟨l.ab, 0, none⟩)] w fun e w' => e = .returned (I (if A.n = 0 then 0 else A.m)) ∧ w' = w := by
  have c0 := h.c0
  have n20 := h.n20; have m40 := h.m40; have hcap := h.cap; have hmax := h.max
  by_cases hn : A.n = 0
  · rw [if_pos hn]
    have e : l.dv A.n = .slice none 0 0 := by unfold ArrL.dv; rw [if_pos hn]
    simp only [if_pos rfl, e] at c0
    clear h
    go_enter Tryz.func28, Tryz.ntmps28
    go_wp2_with fail
    go_ret
    exact ⟨rfl, rfl⟩
  · rw [if_neg hn]
    have e : l.dv A.n = .slice (some ⟨l.db, 0, none⟩) A.n l.dc := by unfold ArrL.dv; rw [if_neg hn]
    rw [e] at c0
    have hz : ((A.n : Int) == 0) = false := by simp; omega
    have h1 : w.cell? ⟨l.db, 1, none⟩ = some (.slice (some ⟨l.bk 0, 0, none⟩) A.m A.m) := by
      have := h.drives.cell (0 * 4 + 1) (by omega)
      rw [elz_at _ _ _ (by omega)] at this
      simpa [dcell] using this
    have hn0 : (0 : Int) < (A.n : Int) := by omega
    clear h e
    go_enter Tryz.func28, Tryz.ntmps28
    go_wp2_with fail
    go_ret
    exact ⟨rfl, rfl⟩
end Go.Proofs.YtgelingkifafeaaGreatDoor
