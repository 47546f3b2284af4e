import Derived.Test.YthaamnjpjkkolabDoorMaHeap
/- The cells of elements of z cells each, told by the index. -/
namespace Go.Proofs.YthaamnjpjkkolabDoor
open Go.RowKit Go.Proofs

/-- The cells of elements of z, one behind the other. -/
def elz (z : Nat) (f : Nat → Nat → Value) : Nat → Value := fun i => f (i / z) (i % z)
theorem elz_at {z : Nat} (f : Nat → Nat → Value) (k j : Nat) (hj : j < z) : elz z f (k * z + j) = f k j := by
  unfold elz
  rw [Nat.mul_comm k z, Nat.mul_add_div (by omega), Nat.div_eq_of_lt hj, Nat.mul_add_mod, Nat.mod_eq_of_lt hj, Nat.add_zero]
theorem mul_add_lt {k n z j : Nat} (hk : k < n) (hj : j < z) : k * z + j < n * z := by
  have : (k + 1) * z ≤ n * z := Nat.mul_le_mul_right _ hk
  rw [Nat.add_mul] at this; omega
end Go.Proofs.YthaamnjpjkkolabDoor
