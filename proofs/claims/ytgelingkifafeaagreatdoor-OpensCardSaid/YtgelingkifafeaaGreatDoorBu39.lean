import Derived.Test.YtgelingkifafeaaGreatDoorBu38
/- How many blocks there are never turns. -/
namespace Go.Proofs.YtgelingkifafeaaGreatDoor
open Go Go.RowKit Go.Proofs Lin
set_option linter.unusedVariables false

theorem rd_m (A : Arr) (d b : Nat) : (A.rd d b).2.2.m = A.m := by
  unfold Arr.rd; split
  · rfl
  · split <;> rfl
theorem rdF_m (A : Arr) (d b : Nat) : (A.rdF d b).2.2.m = A.m := by
  have e : (A.rdF d b).2.2 = (A.rd d b).2.2 := by unfold Arr.rdF; split <;> rfl
  rw [e, rd_m]
theorem wrF_m (A : Arr) (d b : Nat) (f : Frm.Frm) : (A.wrF d b f).m = A.m := by
  unfold Arr.wrF Arr.wr; split <;> rfl
theorem hdStep_m (s : HdSt) (i : Nat) : (hdStep s i).A.m = s.A.m := by
  have e1 := rd_m s.A i 0
  unfold hdStep
  split
  · exact e1
  · split
    · exact e1
    · split <;> exact e1
theorem hdTo_m (A : Arr) : ∀ k, (hdTo A k).A.m = A.m
  | 0 => rfl
  | k + 1 => (hdStep_m _ _).trans (hdTo_m A k)
theorem annStep_m (o : Bool) (h : Hd) (A : Arr) (i : Nat) : (annStep o h A i).m = A.m := by
  unfold annStep
  split
  · split
    · exact rdF_m _ _ _
    · rw [wrF_m]; exact rdF_m _ _ _
  · exact wrF_m _ _ _ _
theorem annTo_m (o : Bool) (h : Hd) (A : Arr) : ∀ k, (annTo o h A k).m = A.m
  | 0 => rfl
  | k + 1 => (annStep_m _ _ _ _).trans (annTo_m o h A k)
theorem opnTo_m (D L G : Nat) (h : Hd) (s : HdSt) : (opnTo D L G h s).2.2.m = s.A.m := by
  unfold opnTo
  split
  · split
    · exact annTo_m _ _ _ _
    · rfl
  · split
    · exact annTo_m _ _ _ _
    · rfl
end Go.Proofs.YtgelingkifafeaaGreatDoor
