import Derived.Test.YtgelingkifafeaaGreatDoorBu30
import Derived.Test.YtgelingkifafeaaGreatDoorBu40
/- The plain law of Open: what is announced is found. -/
namespace Go.Proofs.YtgelingkifafeaaGreatDoor
open Go Go.RowKit Go.Proofs Lin
set_option linter.unusedVariables false

theorem zeroB_c (h : Hd) (i : Nat) : zeroB (Frm.blk (cFrm h i)) = false := by
  have e : Frm.blk (cFrm h i) 0 = 2 := by simp [Frm.blk, Frm.bare, cFrm]
  cases hz : zeroB (Frm.blk (cFrm h i)) with
  | false => rfl
  | true =>
    have := List.all_eq_true.1 hz 0 (by simp)
    rw [e] at this
    exact absurd this (by decide)
theorem hdTo_heads {A : Arr} {N : Nat} {h : Hd} (hN : N ≤ 16) (hok : h.ok) (H : Sd A N (fun d => Frm.blk (cFrm h d))) : ∀ k, k ≤ N → ∃ A' o, hdTo A k = ⟨if k = 0 then hd0 else h, decide (0 < k), false, o, A'⟩ ∧ Sd A' N (fun d => Frm.blk (cFrm h d))
  | 0, _ => ⟨A, 0, rfl, H⟩
  | k + 1, hk => by
    obtain ⟨A', o, e, h'⟩ := hdTo_heads hN hok H k (by omega)
    obtain ⟨_, _, _, _, _, _, o7⟩ := id hok
    have e1 := Frm.read_blk (cFrm h k) (show k < 256 by omega) o7
    refine ⟨A'.saw k, o ||| 2 ^ k, ?_, h'.saw k⟩
    show hdStep (hdTo A k) k = _
    rw [e]
    unfold hdStep
    simp only [h'.rd (show k < N by omega), zeroB_c, headAt_c h k (by omega) hok, e1, readH_c h k hok]
    by_cases h0 : k = 0
    · subst h0; simp
    · have : 0 < k := by omega
      simp [h0, this, cFrm]
end Go.Proofs.YtgelingkifafeaaGreatDoor
