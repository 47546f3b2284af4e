import Derived.Test.YthaamnjpjkkolaaField
/- The laws Names, Products, Fields: their walks. -/
namespace Go.Proofs.Ythaamnjpjkkolaa
open Go.RowKit Go.Proofs
set_option maxRecDepth 100000

set_option maxHeartbeats 400000 in
theorem names_walk (w : World) : Calls Try.prog 3 #[] w fun e w' => e = .returned (.bool true) ∧ w = w' := by
  go_enter Try.func3, Try.ntmps3
  go_wp2
  go_ret
  exact ⟨rfl, rfl⟩

set_option maxHeartbeats 400000 in
theorem products_walk (a b : UInt8) (w : World) : Calls Try.prog 4 #[B a, B b] w fun e w' => e = .returned (.bool true) ∧ w = w' := by
  go_enter Try.func4, Try.ntmps4
  go_wp2_with (first | (go_at_call 11; refine (refMul_any _ _ _).mono ?_; rintro e w' ⟨rfl, rfl⟩) | (go_at_call 12; refine (refInv_any _ _).mono ?_; rintro e w' ⟨rfl, rfl⟩) | (go_at_call 13; refine (sMul_any _ _ _).mono ?_; rintro e w' ⟨rfl, rfl⟩) | (go_at_call 14; refine (sInv_any _ _).mono ?_; rintro e w' ⟨rfl, rfl⟩))
  go_ret
  exact ⟨rfl, rfl⟩

set_option maxHeartbeats 400000 in
theorem fields_walk (a b c : UInt8) (w : World) : Calls Try.prog 5 #[B a, B b, B c] w fun e w' => e = .returned (.bool true) ∧ w = w' := by
  have ha := a.toNat_lt
  have hb := b.toNat_lt
  have hc := c.toNat_lt
  have hx0 : 0 ≤ bits BinOp.xor IntKind.u8 (b.toNat : Int) (c.toNat : Int) := by rw [xor8]; omega
  have hx1 : bits BinOp.xor IntKind.u8 (b.toNat : Int) (c.toNat : Int) < 256 := by rw [xor8]; have := (b ^^^ c).toNat_lt; omega
  have bd1 := (Gf.mul a b).toNat_lt
  have bd2 := (Gf.mul b c).toNat_lt
  have bd3 := (Gf.inv a).toNat_lt
  go_enter Try.func5, Try.ntmps5
  go_wp2_with (first | (go_at_call 13; refine (sMul_int _ _ _ (by omega) (by omega) (by omega) (by omega)).mono ?_; rintro e w' ⟨rfl, rfl⟩; (try simp only [b8_nat, b8_xor, b8_one, b8_two, b8_128])) | (go_at_call 14; refine (sInv_any _ _).mono ?_; rintro e w' ⟨rfl, rfl⟩))
  all_goals
    have f1 : ((Gf.mul a b).toNat : Int) = ((Gf.mul b a).toNat : Int) := by rw [Gf.mul_comm]
    have f2 : ((Gf.mul (Gf.mul a b) c).toNat : Int) = ((Gf.mul a (Gf.mul b c)).toNat : Int) := by rw [Gf.mul_assoc]
    have f3 : ((Gf.mul a (b ^^^ c)).toNat : Int) = bits BinOp.xor IntKind.u8 ((Gf.mul b a).toNat : Int) ((Gf.mul a c).toNat : Int) := by rw [xor8, Gf.mul_xor, Gf.mul_comm b a]
    have f4 : ((Gf.mul a 1).toNat : Int) = (a.toNat : Int) := by rw [Gf.mul_one]
    have f5 : a.toNat = 0 → (Gf.inv a).toNat = 0 := fun h => by rw [show a = 0 from UInt8.toNat.inj h, Gf.inv_zero]; rfl
    have f6 : ¬ a.toNat = 0 → ((Gf.mul a (Gf.inv a)).toNat : Int) = 1 := fun h => by
      rw [Gf.mul_inv (fun e => h (by rw [e]; rfl))]; rfl
    have f7 : Gf.mul 2 128 = 29 := by decide +kernel
    have f8 : ¬ a.toNat = 0 → (((a.toNat : Int) != 0 && ((Gf.mul 2 128).toNat : Int) == 29)) = true := fun h => by
      rw [f7]; simpa using h
    first
      | exact absurd f1 ‹_›
      | exact absurd f2 ‹_›
      | exact absurd f3 ‹_›
      | exact absurd f4 ‹_›
      | exact absurd (f5 ‹_›) ‹_›
      | exact absurd (f6 ‹_›) ‹_›
      | (go_ret; exact ⟨by rw [← f8 ‹_›]; rfl, rfl⟩)
      | (go_ret; exact ⟨by rw [f7]; rfl, rfl⟩)
end Go.Proofs.Ythaamnjpjkkolaa
