import Derived.Test.YthaamnjpjkkolaaCode
/- Sets of shards: Has, Whole. -/
namespace Go.Proofs.Ythaamnjpjkkolaa
open Go.RowKit Go.Proofs Lin
set_option maxRecDepth 100000
set_option linter.unusedVariables false

/-- A uint64. -/
abbrev U (n : Nat) : Value := .int .u64 (n : Int)

theorem wraps_u64 (n : Int) (h₀ : 0 ≤ n) (h₁ : n < 2 ^ 64) : IntKind.u64.wrap n = n := by
  show n % 2 ^ 64 = n
  exact Int.emod_eq_of_lt h₀ h₁

theorem u64_and_nat (a b : Nat) (ha : a < 2 ^ 64) (hb : b < 2 ^ 64) : bits .and .u64 (a : Int) (b : Int) = ((a &&& b : Nat) : Int) :=
  (bits_nat .u64 64 (by decide) wraps_u64 a b ha hb).1

theorem has_spell (x i : Nat) (hx : x < 2 ^ 64) : (bits .and .u64 ((x : Int) / 2 ^ i) 1 == 1) = x.testBit i := by
  have e : (x : Int) / 2 ^ i = ((x / 2 ^ i : Nat) : Int) := by simp
  have hd : x / 2 ^ i ≤ x := Nat.div_le_self _ _
  rw [e, show (1 : Int) = ((1 : Nat) : Int) from rfl, u64_and_nat _ _ (by omega) (by omega), nat_mask1, Nat.testBit_eq_decide_div_mod_eq]
  by_cases h : x / 2 ^ i % 2 = 1
  · simp [h]
  · have : x / 2 ^ i % 2 = 0 := by omega
    simp [this]

set_option maxHeartbeats 400000 in
theorem has_any (x i : Nat) (hx : x < 2 ^ 64) (hi : i < 64) (w : World) :
    Calls Try.prog 46 #[U x, I i] w fun e w' => e = .returned (.bool (x.testBit i)) ∧ w' = w := by
  have HX := Lib.hid (has_spell x i hx)
  go_enter Try.func46, Try.ntmps46
  go_wp2_with fail
  go_ret
  exact ⟨by rw [← HX.out]; rfl, rfl⟩

set_option maxHeartbeats 400000 in
theorem refHas_any (x i : Nat) (hx : x < 2 ^ 64) (hi : i < 64) (w : World) :
    Calls Try.prog 33 #[U x, I i] w fun e w' => e = .returned (.bool (x.testBit i)) ∧ w' = w := by
  have HX := Lib.hid (has_spell x i hx)
  go_enter Try.func33, Try.ntmps33
  go_wp2_with fail
  go_ret
  exact ⟨by rw [← HX.out]; rfl, rfl⟩

set_option maxHeartbeats 400000 in
theorem theirs_any (D L G : Int) (w : World) :
    Calls Try.prog 20 #[PV D L G] w fun e w' => e = .returned (PV D L G) ∧ Below w.heap.size w w' := by
  go_enter Try.func20, Try.ntmps20
  go_wp2_with fail
  go_returns
  exact ⟨rfl, ((Below.refl _ _).alloc (Nat.le_refl _) _).alloc (by simp) _⟩
end Go.Proofs.Ythaamnjpjkkolaa
