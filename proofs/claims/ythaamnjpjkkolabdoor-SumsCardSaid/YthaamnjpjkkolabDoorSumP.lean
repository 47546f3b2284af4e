import Derived.Test.YthaamnjpjkkolabDoorEnc
/- The law Sums, in plain words: sums of shards; a data shard is itself; a group and its parity are nought together. -/
namespace Go.Proofs.YthaamnjpjkkolabDoor
open Lin Gf
set_option maxRecDepth 100000

theorem encM_add {D L W : Nat} {X Y Z : Nat → Nat → UInt8} (h : ∀ q, q < D → ∀ t, t < W → Z q t = X q t ^^^ Y q t) (i : Nat) {t : Nat} (ht : t < W) : encM D L Z i t = encM D L X i t ^^^ encM D L Y i t := by
  unfold encM
  rw [← dot_add_right]
  exact dot_congr (fun _ _ => rfl) fun q hq => h q hq t ht

theorem encM_data {D L : Nat} {X : Nat → Nat → UInt8} {i : Nat} (hi : i < D) (t : Nat) : encM D L X i t = X i t := by
  unfold encM
  rw [dot_one hi fun j _ hne => by rw [codeM_D hi, if_neg (fun e => hne e.symm), zero_mul], codeM_D hi, if_pos rfl, one_mul]

/-- What is left of a group's sum from place m on. -/
def rest (D q s : Nat) (X : Nat → Nat → UInt8) (t m : Nat) : UInt8 := dot D (fun j => if m ≤ j ∧ j < q + s then 1 else 0) (fun j => X j t)

theorem rest_start {D L g s : Nat} {X : Nat → Nat → UInt8} {t : Nat} (hs : s = D / L) (hd : D % L = 0) (hL : 1 ≤ L) (hD : 1 ≤ D) (hg : g < L) : rest D (g * s) s X t (g * s) = encM D L X (D + g) t := by
  subst hs
  unfold rest encM
  exact dot_congr (fun j hj => codeM_local hd hL hD hg hj) fun _ _ => rfl
theorem rest_next {D q s : Nat} {X : Nat → Nat → UInt8} {t m : Nat} (h1 : m < q + s) (h2 : q + s ≤ D) : rest D q s X t m ^^^ X m t = rest D q s X t (m + 1) := by
  unfold rest
  have e : dot D (fun j => if m ≤ j ∧ j < q + s then (1 : UInt8) else 0) (fun j => X j t) = dot D (fun j => if m + 1 ≤ j ∧ j < q + s then (1 : UInt8) else 0) (fun j => X j t) ^^^ dot D (fun j => if j = m then (1 : UInt8) else 0) (fun j => X j t) := by
    rw [← dot_add]
    refine dot_congr (fun j _ => ?_) fun _ _ => rfl
    by_cases e : j = m
    · subst e
      rw [if_pos ⟨Nat.le_refl _, h1⟩, if_neg (by omega), if_pos rfl]; rfl
    · by_cases e2 : m ≤ j
      · simp [e, e2, show m + 1 ≤ j by omega]
      · simp [e, e2, show ¬ m + 1 ≤ j by omega]
  have e1 : dot D (fun j => if j = m then (1 : UInt8) else 0) (fun j => X j t) = X m t := by
    rw [dot_one (k := m) (by omega) fun j _ hne => by rw [if_neg hne, zero_mul], if_pos rfl, one_mul]
  rw [e, e1, UInt8.xor_assoc]; simp
theorem rest_end {D q s : Nat} {X : Nat → Nat → UInt8} {t : Nat} : rest D q s X t (q + s) = 0 := by
  unfold rest
  rw [dot_congr (v := fun _ => 0) (y := fun j => X j t) (fun j _ => by rw [if_neg (by omega)]) fun _ _ => rfl, dot_zero]
end Go.Proofs.YthaamnjpjkkolabDoor
