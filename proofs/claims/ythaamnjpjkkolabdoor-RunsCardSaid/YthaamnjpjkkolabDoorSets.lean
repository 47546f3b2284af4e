import Derived.Test.YthaamnjpjkkolabDoorCode
/- Sets of shards: Has, Whole. -/
namespace Go.Proofs.YthaamnjpjkkolabDoor
open Go.RowKit Go.Proofs Lin
set_option maxRecDepth 100000
set_option linter.unusedVariables false

/-- A uint64. -/
abbrev U (n : Nat) : Value := .int .u64 (n : Int)

theorem wraps_u64 (n : Int) (h₀ : 0 ≤ n) (h₁ : n < 2 ^ 64) : IntKind.u64.wrap n = n := by
  show n % 2 ^ 64 = n
  exact Int.emod_eq_of_lt h₀ h₁

theorem u64_and_nat (a b : Nat) (ha : a < 2 ^ 64) (hb : b < 2 ^ 64) : bits .and .u64 (a : Int) (b : Int) = ((a &&& b : Nat) : Int) :=
  (bits_nat .u64 64 (by decide) wraps_u64 a b ha hb).1

theorem has_spell (x i : Nat) (hx : x < 2 ^ 64) : (bits .and .u64 ((x : Int) / 2 ^ i) 1 == 1) = x.testBit i := by
  have e : (x : Int) / 2 ^ i = ((x / 2 ^ i : Nat) : Int) := by simp
  have hd : x / 2 ^ i ≤ x := Nat.div_le_self _ _
  rw [e, show (1 : Int) = ((1 : Nat) : Int) from rfl, u64_and_nat _ _ (by omega) (by omega), nat_mask1, Nat.testBit_eq_decide_div_mod_eq]
  by_cases h : x / 2 ^ i % 2 = 1
  · simp [h]
  · have : x / 2 ^ i % 2 = 0 := by omega
    simp [this]

set_option maxHeartbeats 400000 in
theorem has_any (x i : Nat) (hx : x < 2 ^ 64) (hi : i < 64) (w : World) :
    Calls Tryd.prog 74 #[U x, I i] w fun e w' => e = .returned (.bool (x.testBit i)) ∧ w' = w := by
  have HX := Lib.hid (has_spell x i hx)
  go_enter Tryd.func74, Tryd.ntmps74
  go_wp2_with fail
  go_ret
  exact ⟨by rw [← HX.out]; rfl, rfl⟩

set_option maxHeartbeats 400000 in
theorem refHas_any (x i : Nat) (hx : x < 2 ^ 64) (hi : i < 64) (w : World) :
    Calls Tryd.prog 15 #[U x, I i] w fun e w' => e = .returned (.bool (x.testBit i)) ∧ w' = w := by
  have HX := Lib.hid (has_spell x i hx)
  go_enter Tryd.func15, Tryd.ntmps15
  go_wp2_with fail
  go_ret
  exact ⟨by rw [← HX.out]; rfl, rfl⟩

set_option maxHeartbeats 400000 in
theorem refShards_any (D L G : Int) (h : 0 ≤ D ∧ D ≤ 1000 ∧ 0 ≤ L ∧ L ≤ 1000 ∧ 0 ≤ G ∧ G ≤ 1000) (w : World) :
    Calls Tryd.prog 12 #[PV D L G] w fun e w' => e = .returned (I (D + L + G)) ∧ Below w.heap.size w w' := by
  obtain ⟨h1, h2, h3, h4, h5, h6⟩ := h
  go_enter Tryd.func12, Tryd.ntmps12
  go_wp2_with fail
  go_ret
  exact ⟨rfl, (Below.refl _ _).alloc (Nat.le_refl _) _⟩

end Go.Proofs.YthaamnjpjkkolabDoor
