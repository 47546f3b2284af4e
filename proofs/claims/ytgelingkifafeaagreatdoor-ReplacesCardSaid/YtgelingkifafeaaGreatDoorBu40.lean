import Derived.Test.YtgelingkifafeaaGreatDoorBu30
import Derived.Test.YtgelingkifafeaaGreatDoorBu17
/- A head that is written is read again. -/
namespace Go.Proofs.YtgelingkifafeaaGreatDoor
open Go Go.RowKit Go.Proofs Lin
set_option linter.unusedVariables false

theorem readH_c (h : Hd) (i : Nat) (hok : h.ok) : readH (cFrm h i) = h := by
  obtain ⟨o1, o2, o3, o4, o5, o6, o7⟩ := hok
  cases h with
  | mk s D L G z b f =>
    simp only at o1 o2 o3 o4 o5 o6 o7
    unfold readH cFrm
    simp only [Hd.mk.injEq, true_and]
    refine ⟨?_, ?_, ?_, ?_, ?_, ?_⟩
    · simp [Hd.bytes, Hd.row, thenB]; omega
    · simp [Hd.bytes, Hd.row, thenB]; omega
    · simp [Hd.bytes, Hd.row, thenB]; omega
    · simp [ofB, Hd.bytes, Hd.row, thenB, numB]; omega
    · simp [ofB, Hd.bytes, Hd.row, thenB, numB]; omega
    · simp [ofB, Hd.bytes, Hd.row, thenB, numB]; omega
theorem isHead_c (h : Hd) (i : Nat) : isHead (cFrm h i) = true := by
  unfold isHead markOk cFrm
  rw [Bool.and_eq_true, List.all_eq_true]
  refine ⟨rfl, fun j hj => ?_⟩
  have hj' : j < 8 := List.mem_range.1 hj
  simp only [Hd.bytes, Hd.row, thenB]
  rw [if_pos (by omega), if_pos (by omega), if_pos (by omega), if_pos (by omega), if_pos (by omega)]
  simp
theorem headAt_c (h : Hd) (i : Nat) (hi : i < 256) (hok : h.ok) : headAt (Frm.blk (cFrm h i)) i = true := by
  obtain ⟨_, _, _, _, _, _, o7⟩ := id hok
  have e := Frm.read_blk (cFrm h i) hi o7
  unfold headAt
  rw [e, Frm.okB_blk (cFrm h i) (show (2 : UInt8) ≠ 0 by decide), isHead_c]
  simp [cFrm]
end Go.Proofs.YtgelingkifafeaaGreatDoor
