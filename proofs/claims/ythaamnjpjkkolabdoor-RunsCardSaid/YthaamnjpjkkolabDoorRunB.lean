import Derived.Test.YthaamnjpjkkolabDoorRunW
import Derived.Test.YthaamnjpjkkolabDoorRefRun
import Derived.Test.YthaamnjpjkkolabDoorSameO
import Derived.Test.YthaamnjpjkkolabDoorSets
/- Run and the reference's Run answer alike. -/
namespace Go.Proofs.YthaamnjpjkkolabDoor
open Go.RowKit Go.Proofs
set_option maxRecDepth 100000
set_option linter.unusedVariables false

/-- The shards that the law hands to Run: those that are not gone, with room. -/
def inT (D : Nat → Sl) (β : Nat → Nat) (gone : Nat → Bool) : Nat → Sl := fun j =>
  if gone j then ⟨none, 0, 0, 0, 0, (D j).x⟩ else ⟨some ⟨β j, 0, none⟩, β j, 0, (D j).n, (D j).n + 2, (D j).x⟩
theorem inT_x (D : Nat → Sl) (β : Nat → Nat) (gone : Nat → Bool) : runX (inT D β gone) = refX D := by
  funext j; unfold runX refX inT; by_cases h : gone j <;> simp [h]
theorem inT_here (D : Nat → Sl) (β : Nat → Nat) (gone : Nat → Bool) : hereS (inT D β gone) = hereG gone := by
  funext j; unfold hereS hereG inT; by_cases h : gone j <;> simp [h]
theorem inT_len (D : Nat → Sl) (β : Nat → Nat) (gone : Nat → Bool) (j : Nat) (h : hereG gone j) : lenS (inT D β gone) j = lenS D j := by
  unfold lenS inT; unfold hereG at h; simp [h]
theorem load_in {S : Nat → Stp} {D : Nat → Sl} {β : Nat → Nat} {gone : Nat → Bool} {n : Nat} :
    LoadTo S (hereS (inT D β gone)) (lenS (inT D β gone)) n ↔ LoadTo S (hereG gone) (lenS D) n := by
  rw [inT_here]
  exact ⟨fun h => (load_same (fun j hj => inT_len D β gone j hj) h).1, fun h => (load_same (fun j hj => (inT_len D β gone j hj).symm) h).1⟩
theorem runN_in {S : Nat → Stp} {D : Nat → Sl} {β : Nat → Nat} {gone : Nat → Bool} {n : Nat} (h : LoadTo S (hereG gone) (lenS D) n) : runN S (inT D β gone) n = refN S D n := by
  unfold runN refN
  rw [(load_same (fun j hj => (inT_len D β gone j hj).symm) h).2]

/-- What Run answers: outputs L; the error's number y. -/
def RunAns (w : World) (L : List (Int × (Nat → UInt8))) (N : Nat) (y : Int) (e : Ending) (w' : World) : Prop :=
  ∃ v γ ev, e = .returned (.tuple #[v, ev]) ∧ Outs w.heap.size 89 w' v L N γ ∧ Below w.heap.size w w' ∧ (y = 0 ∧ ev = .nilIface ∨ y ≠ 0 ∧ v = .slice none 0 0 ∧ ev = .iface 33 (I y))
def RefAns (w : World) (L : List (Int × (Nat → UInt8))) (N : Nat) (y : Int) (e : Ending) (w' : World) : Prop :=
  ∃ v γ, e = .returned (.tuple #[v, I y]) ∧ Outs w.heap.size 70 w' v L N γ ∧ Below w.heap.size w w'

theorem runs_both (n m : Nat) (S : Nat → Stp) (D : Nat → Sl) (gone : Nat → Bool) (regs : Int) (hsz : ∀ i, i < m → (D i).n ≤ 100000) :
    ∃ (L : List (Int × (Nat → UInt8))) (N : Nat) (y : Int), L.length ≤ 2000 ∧ N ≤ 4096 ∧
      (∀ (β : Nat → Nat) (a a' : Option Addr) (b b' o o' c c' : Nat) (w : World), Stps w a b o n c (fun i => sc (S i)) → Shs w a' b' o' m c' (inT D β gone) →
        Calls Tryd.prog 33 #[.agg #[I regs, .slice a n c], .slice a' m c'] w (RunAns w L N y)) ∧
      (∀ (a a' a2 : Option Addr) (b b' b2 o o' o2 c c' c2 : Nat) (w : World), Stps w a b o n c (fun i => rc (S i)) → Rws w a' b' o' m c' D → (0 < m → a2 = some ⟨b2, o2, none⟩) → Rd w b2 o2 m (fun i => .bool (gone i)) → m ≤ c2 →
        Calls Tryd.prog 19 #[.agg #[I regs, .slice a n c], .slice a' m c', .slice a2 m c2] w (RefAns w L N y)) := by
  by_cases hP : OkP regs n S (m : Int)
  · by_cases hL : LoadTo S (hereG gone) (lenS D) n
    · have hn := hP.2.2.1
      refine ⟨outL (refX D) S n, refN S D n, 0, by have := outL_len (refX D) S n; omega, by have := firstN_max hL; unfold refN; omega, fun β a a' b b' o o' c c' w h hT => ?_, fun a a' a2 b b' b2 o o' o2 c c' c2 w h hD ha hg hc => ?_⟩
      · refine (run_any a a' b b' o o' n m c c' S _ regs w h hT).mono ?_
        rintro e w' ⟨⟨_, _, v, γ, rfl, ho⟩ | ⟨_, hno, _⟩ | ⟨hno, _⟩, hb⟩
        · rw [inT_x, runN_in hL] at ho
          exact ⟨v, γ, _, rfl, ho, hb, .inl ⟨rfl, rfl⟩⟩
        · exact absurd (load_in.2 hL) hno
        · exact absurd hP hno
      · refine (refRun_any a a' a2 b b' b2 o o' o2 n m c c' c2 S D gone regs w h hD hsz ha hg hc).mono ?_
        rintro e w' ⟨⟨_, _, v, γ, rfl, ho⟩ | ⟨_, hno, _⟩ | ⟨hno, _⟩, hb⟩
        · exact ⟨v, γ, rfl, ho, hb⟩
        · exact absurd hL hno
        · exact absurd hP hno
    · refine ⟨[], 0, 2, by simp, by omega, fun β a a' b b' o o' c c' w h hT => ?_, fun a a' a2 b b' b2 o o' o2 c c' c2 w h hD ha hg hc => ?_⟩
      · refine (run_any a a' b b' o o' n m c c' S _ regs w h hT).mono ?_
        rintro e w' ⟨⟨_, hy, _⟩ | ⟨_, _, rfl⟩ | ⟨hno, _⟩, hb⟩
        · exact absurd (load_in.1 hy) hL
        · exact ⟨_, fun _ => 0, _, rfl, Outs.start _ _ _ _ _, hb, .inr ⟨by decide, rfl, rfl⟩⟩
        · exact absurd hP hno
      · refine (refRun_any a a' a2 b b' b2 o o' o2 n m c c' c2 S D gone regs w h hD hsz ha hg hc).mono ?_
        rintro e w' ⟨⟨_, hy, _⟩ | ⟨_, _, rfl⟩ | ⟨hno, _⟩, hb⟩
        · exact absurd hy hL
        · exact ⟨_, fun _ => 0, rfl, Outs.start _ _ _ _ _, hb⟩
        · exact absurd hP hno
  · refine ⟨[], 0, 4, by simp, by omega, fun β a a' b b' o o' c c' w h hT => ?_, fun a a' a2 b b' b2 o o' o2 c c' c2 w h hD ha hg hc => ?_⟩
    · refine (run_any a a' b b' o o' n m c c' S _ regs w h hT).mono ?_
      rintro e w' ⟨⟨hy, _⟩ | ⟨hy, _⟩ | ⟨_, rfl⟩, hb⟩
      · exact absurd hy hP
      · exact absurd hy hP
      · exact ⟨_, fun _ => 0, _, rfl, Outs.start _ _ _ _ _, hb, .inr ⟨by decide, rfl, rfl⟩⟩
    · refine (refRun_any a a' a2 b b' b2 o o' o2 n m c c' c2 S D gone regs w h hD hsz ha hg hc).mono ?_
      rintro e w' ⟨⟨hy, _⟩ | ⟨hy, _⟩ | ⟨_, rfl⟩, hb⟩
      · exact absurd hy hP
      · exact absurd hy hP
      · exact ⟨_, fun _ => 0, rfl, Outs.start _ _ _ _ _, hb⟩

set_option maxHeartbeats 400000 in
/-- The entry point Run. -/
theorem sRun_of (a a' : Option Addr) (b o n c m c' : Nat) (S : Nat → Stp) (regs : Int) (L : List (Int × (Nat → UInt8))) (N : Nat) (y : Int) (w : World)
    (h : ∀ w1, Below w.heap.size w w1 → Calls Tryd.prog 33 #[.agg #[I regs, .slice a n c], .slice a' m c'] w1 (RunAns w1 L N y)) :
    Calls Tryd.prog 16 #[.agg #[I regs, .slice a n c], .slice a' m c'] w (RunAns w L N y) := by
  have HC := Lib.hid h
  clear h
  have HB := Lib.hid ((Below.refl w.heap.size w).alloc (Nat.le_refl _) (.cells #[I regs, .slice a n c] 39))
  go_enter Tryd.func16, Tryd.ntmps16
  go_wp2_with fail
  refine (HC.out _ HB.out).mono ?_
  rintro e w1 ⟨v, γ, ev, rfl, ho, hb, hy⟩
  have HO := Lib.hid (ho.base_le (base' := w.heap.size) (by rw [World.size_alloc]; omega))
  have HB1 := Lib.hid (HB.out.trans (hb.mono (by rw [World.size_alloc]; omega)))
  have HY := Lib.hid hy
  clear ho hb hy
  go_wp2_with fail
  go_ret2
  exact ⟨v, γ, ev, rfl, HO.out, HB1.out, HY.out⟩
end Go.Proofs.YthaamnjpjkkolabDoor
