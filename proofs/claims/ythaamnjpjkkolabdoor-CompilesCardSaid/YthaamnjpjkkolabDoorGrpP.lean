import Derived.Test.YthaamnjpjkkolabDoorAnyP
import Derived.Test.YthaamnjpjkkolabDoorCompQ
/- One lost shard can always be repaired; how many shards are then read. In plain words. -/
namespace Go.Proofs.YthaamnjpjkkolabDoor
open Lin Gf
set_option maxRecDepth 100000
set_option linter.unusedVariables false

theorem sel_one {N k : Nat} (hk : k < N) : sel N (2 ^ k).testBit = [k] := by
  have h := filter_mask (l := [k]) (N := N) (by simp) (by simpa using hk)
  have e : mask [k] = 2 ^ k := by rw [mask_cons]; simp [mask]
  rw [e] at h
  exact h

theorem decB_one {D L G k : Nat} (h1 : 1 ≤ D) (h2 : D ≤ 12) (h3 : 1 ≤ L) (h6 : D % L = 0) (h7 : D + L + G ≤ 16) (hk : k < D + L + G) : decB D L G (2 ^ k) = true := by
  by_cases hi : k < D + L
  · have hr := (local_reads h1 h3 h6 h7 (sel_one hk) hi).1
    generalize locN D L (D + L + G) k = r at *
    have h0 : rk (RL D (codeM D L) (left (D + L + G) 0)) D = D := (decB_iff h1 h2 h7).1 (decB_small h1 h2 h7 (by rw [show sel (D + L + G) (Nat.testBit 0) = [] from by unfold sel; simp]; simp))
    refine (decB_iff h1 h2 h7).2 ?_
    have hsp : Spans D (codeM D L) (left (D + L + G) (2 ^ k)) (left (D + L + G) 0) := by
      intro i hi0
      by_cases e : i = k
      · subst e
        have := hr.spans i (by rw [sel_one hk]; simp)
        refine this.mono (RL.sub fun j hj => ?_)
        obtain ⟨j1, j2⟩ := mem_sel.1 hj
        exact left_mem.2 ⟨j1, hr.apart j j2⟩
      · refine .row (RL.mk (left_mem.2 ⟨(left_mem.1 hi0).1, ?_⟩))
        rw [Nat.testBit_two_pow]; simp; omega
    have := hsp.rk
    rw [h0] at this
    exact Nat.le_antisymm (rk_le _ _) this
  · exact decB_small h1 h2 h7 (by rw [sel_one hk]; simp; omega)

/-- One lost shard: what is read. -/
theorem one_near {D L G k : Nat} (h1 : 1 ≤ D) (h3 : 1 ≤ L) (h6 : D % L = 0) (h7 : D + L + G ≤ 16) (hk : k < D + L) : (readL D L (D + L + G) (2 ^ k)).length = D / L := by
  unfold readL
  rw [reads_one (sel_one (by omega)) hk]
  exact (local_reads h1 h3 h6 h7 (sel_one (by omega)) hk).2
theorem one_ok {D L G k : Nat} (h1 : 1 ≤ D) (h2 : D ≤ 12) (h3 : 1 ≤ L) (h6 : D % L = 0) (h7 : D + L + G ≤ 16) (hk : k < D + L + G) :
    (readL D L (D + L + G) (2 ^ k)).length ≤ D ∧ (readsN D L (D + L + G) (2 ^ k)).testBit k = false := by
  have h := reads_ok h1 h2 h3 h6 h7 (decB_one h1 h2 h3 h6 h7 hk)
  refine ⟨h.data, ?_⟩
  cases e : (readsN D L (D + L + G) (2 ^ k)).testBit k with
  | false => rfl
  | true => have := h.apart k e; rw [Nat.testBit_two_pow] at this; simp at this

/-- Of a program that Compile makes: what it loads is apart from what is lost. -/
theorem apart_and {D L G x : Nat} (h : ReadsOk D L G x (readsN D L (D + L + G) x)) : readsN D L (D + L + G) x &&& x = 0 := by
  apply Nat.eq_of_testBit_eq
  intro i
  rw [Nat.testBit_and, Nat.zero_testBit]
  cases e : (readsN D L (D + L + G) x).testBit i with
  | false => rfl
  | true => rw [h.apart i e]; rfl

/-- No set of fewer does. -/
theorem none_less {D L G x s : Nat} (h1 : 1 ≤ D) (h2 : D ≤ 12) (h7 : D + L + G ≤ 16) (h : ReadsOk D L G x (readsN D L (D + L + G) x)) (hs : s &&& x = 0) (hc : (sel (D + L + G) s.testBit).length < (readL D L (D + L + G) x).length) : spB D L (D + L + G) x s = false := by
  cases e : spB D L (D + L + G) x s with
  | false => rfl
  | true =>
    have hsp := (spB_iff h2 h7).1 e
    have := h.least _ (fun i hi => ?_) (sel_pair _ _) hsp
    · unfold readL at hc; omega
    · obtain ⟨i1, i2⟩ := mem_sel.1 hi
      refine ⟨i1, ?_⟩
      cases e2 : x.testBit i with
      | false => rfl
      | true =>
        have e3 : (s &&& x).testBit i = true := by rw [Nat.testBit_and, i2, e2]; rfl
        rw [hs, Nat.zero_testBit] at e3; cases e3
theorem reads_do {D L G x : Nat} (h2 : D ≤ 12) (h7 : D + L + G ≤ 16) (h : ReadsOk D L G x (readsN D L (D + L + G) x)) : spB D L (D + L + G) x (readsN D L (D + L + G) x) = true := (spB_iff h2 h7).2 h.spans
end Go.Proofs.YthaamnjpjkkolabDoor
