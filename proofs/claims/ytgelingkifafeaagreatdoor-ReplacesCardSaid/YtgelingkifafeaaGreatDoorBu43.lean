import Derived.Test.YtgelingkifafeaaGreatDoorBu41
import Derived.Test.YtgelingkifafeaaGreatDoorBu42
import Derived.Test.YtgelingkifafeaaGreatDoorBu38
/- The plain law of Open: what it opens to. -/
namespace Go.Proofs.YtgelingkifafeaaGreatDoor
open Go Go.RowKit Go.Proofs Lin
set_option linter.unusedVariables false

theorem decB_zero {D L G : Nat} (hR : Right D L G) : decB D L G 0 = true := by
  refine decB_small hR.d1 hR.d2 hR.sum ?_
  have : sel (D + L + G) (Nat.testBit 0) = [] := by unfold sel; simp
  rw [this]; simp
theorem opn_first {A : Arr} {D L G : Nat} (hR : Right D L G) (h : Sd A (D + L + G) (fun _ _ => 0)) : ∃ A', opnTo D L G hd0 (hdTo A (D + L + G)) = (none, opnHd D L G, A') ∧ Sd A' (D + L + G) (fun d => Frm.blk (cFrm (opnHd D L G) d)) := by
  obtain ⟨A', e, h'⟩ := hdTo_zero h (D + L + G) (Nat.le_refl _)
  rw [e]
  have h0 : 0 < D + L + G := by have := hR.d1; omega
  refine ⟨annTo false (opnHd D L G) A' (D + L + G), ?_, ?_⟩
  · unfold opnTo
    simp only [decide_eq_true h0, decB_zero hR]
    rfl
  · have := annTo_first h' (opnHd D L G) (D + L + G) (Nat.le_refl _)
    exact ⟨this.n, this.m, this.wait, this.lost, this.bad, fun d hd => by rw [this.blk d hd, if_pos hd]⟩
theorem sd_arr0 (n m : Nat) (hm : 0 < m) : Sd (arr0 n m) n (fun _ _ => 0) := ⟨rfl, hm, (by decide : (-1 : Int) < 0), fun _ _ => rfl, fun _ _ => rfl, fun _ _ => rfl⟩
theorem opn_again {A : Arr} {N D L G : Nat} {h : Hd} (hN : N = D + L + G) (hR : Right D L G) (hok : h.ok) (H : Sd A N (fun d => Frm.blk (cFrm h d))) : ∃ A', (hdTo A N).found = true ∧ (hdTo A N).latest = h ∧ (h.fits D L G = false → opnTo D L G hd0 (hdTo A N) = (some 1, hd0, A')) ∧ (h.fits D L G = true → ∃ A2, opnTo D L G hd0 (hdTo A N) = (none, h, A2)) := by
  have h7 := hR.sum; have h1 := hR.d1
  obtain ⟨A', o, e, h'⟩ := hdTo_heads (by omega) hok H N (Nat.le_refl _)
  have h0 : 0 < N := by omega
  have hn : N ≠ 0 := by omega
  rw [e]
  refine ⟨A', by simp [h0], by simp [hn], fun hf => ?_, fun hf => ?_⟩
  · unfold opnTo; simp only [decide_eq_true h0, if_neg hn, hf]; rfl
  · refine ⟨annTo true h A' (D + L + G), ?_⟩
    unfold opnTo; simp only [decide_eq_true h0, if_neg hn, hf]; rfl
end Go.Proofs.YtgelingkifafeaaGreatDoor

/- How many blocks there are never turns. -/
namespace Go.Proofs.YtgelingkifafeaaGreatDoor
open Go Go.RowKit Go.Proofs Lin
set_option linter.unusedVariables false

theorem rd_m (A : Arr) (d b : Nat) : (A.rd d b).2.2.m = A.m := by
  unfold Arr.rd; split
  · rfl
  · split <;> rfl
theorem rdF_m (A : Arr) (d b : Nat) : (A.rdF d b).2.2.m = A.m := by
  have e : (A.rdF d b).2.2 = (A.rd d b).2.2 := by unfold Arr.rdF; split <;> rfl
  rw [e, rd_m]
theorem wrF_m (A : Arr) (d b : Nat) (f : Frm.Frm) : (A.wrF d b f).m = A.m := by
  unfold Arr.wrF Arr.wr; split <;> rfl
theorem hdStep_m (s : HdSt) (i : Nat) : (hdStep s i).A.m = s.A.m := by
  have e1 := rd_m s.A i 0
  unfold hdStep
  split
  · exact e1
  · split
    · exact e1
    · split <;> exact e1
theorem hdTo_m (A : Arr) : ∀ k, (hdTo A k).A.m = A.m
  | 0 => rfl
  | k + 1 => (hdStep_m _ _).trans (hdTo_m A k)
theorem annStep_m (o : Bool) (h : Hd) (A : Arr) (i : Nat) : (annStep o h A i).m = A.m := by
  unfold annStep
  split
  · split
    · exact rdF_m _ _ _
    · rw [wrF_m]; exact rdF_m _ _ _
  · exact wrF_m _ _ _ _
theorem annTo_m (o : Bool) (h : Hd) (A : Arr) : ∀ k, (annTo o h A k).m = A.m
  | 0 => rfl
  | k + 1 => (annStep_m _ _ _ _).trans (annTo_m o h A k)
theorem opnTo_m (D L G : Nat) (h : Hd) (s : HdSt) : (opnTo D L G h s).2.2.m = s.A.m := by
  unfold opnTo
  split
  · split
    · exact annTo_m _ _ _ _
    · rfl
  · split
    · exact annTo_m _ _ _ _
    · rfl
end Go.Proofs.YtgelingkifafeaaGreatDoor
