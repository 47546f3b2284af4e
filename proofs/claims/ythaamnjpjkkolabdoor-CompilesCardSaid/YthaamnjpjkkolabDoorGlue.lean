import Derived.Test.YthaamnjpjkkolabDoorProg
import Derived.Test.YthaamnjpjkkolabDoorMaPlain
import Derived.WalkKit
import Derived.WalkLawsBesides
import Derived.WalkSpells
import Derived.BigQuiet
import Derived.Deep.QuietTactic
import Derived.Lib.Hide
import Derived.Deep.LoopGhost
import Derived.Deep.OwnRows
import Derived.Handy
/- Bytes of the walk and numbers of the field; the small laws that the walks share. -/
namespace Go.Proofs.YthaamnjpjkkolabDoor
open Go.RowKit Go.Proofs

/-- A byte as the walk holds it. -/
abbrev B (x : UInt8) : Value := .int .u8 (x.toNat : Int)
/-- An int of 64 bits. -/
abbrev I (n : Int) : Value := .int .i64 n

theorem ret_int {k : IntKind} {a b : Int} (h : a = b) : Ending.returned (.int k a) = .returned (.int k b) := by rw [h]

theorem xor8 (a b : UInt8) : bits BinOp.xor IntKind.u8 (a.toNat : Int) (b.toNat : Int) = ((a ^^^ b).toNat : Int) := by
  rw [u8_xor_nat _ _ a.toNat_lt b.toNat_lt, UInt8.toNat_xor]

theorem and8_one (a : UInt8) : bits BinOp.and IntKind.u8 (a.toNat : Int) 1 = ((a.toNat % 2 : Nat) : Int) := by
  rw [show (1 : Int) = ((1 : Nat) : Int) from rfl, u8_and_nat _ _ a.toNat_lt (by omega), nat_mask1]

/-- An int's byte. -/
def b8 (n : Int) : UInt8 := UInt8.ofNat (n % 256).toNat
theorem toNat_b8 {n : Int} (h0 : 0 ≤ n) (h1 : n < 256) : ((b8 n).toNat : Int) = n := by
  unfold b8; rw [UInt8.toNat_ofNat', Nat.mod_eq_of_lt (by omega)]; omega
theorem B_b8 {n : Int} (h0 : 0 ≤ n) (h1 : n < 256) : B (b8 n) = .int .u8 n := by unfold B; rw [toNat_b8 h0 h1]
theorem b8_nat (x : UInt8) : b8 (x.toNat : Int) = x := by
  apply UInt8.toNat.inj
  have := toNat_b8 (n := (x.toNat : Int)) (by omega) (by have := x.toNat_lt; omega)
  omega

theorem b8_xor (a b : UInt8) : b8 (bits BinOp.xor IntKind.u8 (a.toNat : Int) (b.toNat : Int)) = a ^^^ b := by rw [xor8, b8_nat]
theorem b8_one : b8 1 = 1 := rfl
theorem b8_two : b8 2 = 2 := rfl
theorem b8_128 : b8 128 = 128 := rfl

theorem byte_of_int {n : Int} (h0 : 0 ≤ n) (h1 : n < 256) : ∃ x : UInt8, n = (x.toNat : Int) := by
  refine ⟨UInt8.ofNat n.toNat, ?_⟩
  rw [UInt8.toNat_ofNat', Nat.mod_eq_of_lt (by omega)]
  omega

theorem byte_of_wf {n : Int} (h : (Lit.int .u8 n).wf = true) : ∃ x : UInt8, n = (x.toNat : Int) := by
  have : IntKind.min .u8 ≤ n ∧ n ≤ IntKind.max .u8 := by simpa [Lit.wf] using h
  simp [IntKind.min, IntKind.max, IntKind.signed, IntKind.bits] at this
  exact byte_of_int this.1 (by omega)

/-- x times x, as a byte. -/
def xt8 (a : UInt8) : UInt8 := UInt8.ofNat (Gf.xt a.toNat)
theorem toNat_xt8 (a : UInt8) : (xt8 a).toNat = Gf.xt a.toNat := by
  unfold xt8; rw [UInt8.toNat_ofNat']; exact Nat.mod_eq_of_lt (Gf.xt_lt _ a.toNat_lt)

theorem xt_spell (a : UInt8) : bits BinOp.xor IntKind.u8 ((a.toNat : Int) * 2 % 256) ((a.toNat : Int) / 128 * 29) = ((xt8 a).toNat : Int) := by
  have ha := a.toNat_lt
  rw [toNat_xt8]
  have h : ∀ n < 256, (n * 2 % 256 ^^^ n / 128 * 29 == Gf.xt n) = true := by decide +kernel
  have h' := h a.toNat ha
  rw [show (a.toNat : Int) * 2 % 256 = ((a.toNat * 2 % 256 : Nat) : Int) by omega, show (a.toNat : Int) / 128 * 29 = ((a.toNat / 128 * 29 : Nat) : Int) by omega,
    u8_xor_nat _ _ (by omega) (by omega)]
  exact congrArg Int.ofNat (by simpa using h')

def half (b : UInt8) : UInt8 := UInt8.ofNat (b.toNat / 2)
theorem toNat_half (b : UInt8) : (half b).toNat = b.toNat / 2 := by
  have := b.toNat_lt
  unfold half; rw [UInt8.toNat_ofNat']; exact Nat.mod_eq_of_lt (by omega)
theorem half_spell (b : UInt8) : (b.toNat : Int) / 2 = ((half b).toNat : Int) := by rw [toNat_half]; omega

/-- One step of the product by bits. -/
theorem mul_step (a b : UInt8) : Gf.mul a b = (if b.toNat % 2 = 1 then a else 0) ^^^ Gf.mul (xt8 a) (half b) := by
  have hb := b.toNat_lt
  apply UInt8.toNat.inj
  have e7 : Gf.bt (b.toNat / 2) 7 = 0 := by unfold Gf.bt; rw [Nat.shiftRight_eq_div_pow]; omega
  have es : ∀ i, Gf.bt (b.toNat / 2) i = Gf.bt b.toNat (i + 1) := by
    intro i; unfold Gf.bt; rw [Nat.shiftRight_eq_div_pow, Nat.shiftRight_eq_div_pow, Nat.div_div_eq_div_mul]; congr 2; rw [Nat.pow_succ, Nat.mul_comm]
  have e0 : Gf.bt b.toNat 0 = b.toNat % 2 := by unfold Gf.bt; rfl
  rw [UInt8.toNat_xor, Gf.toNat_mul, Gf.toNat_mul, toNat_xt8, toNat_half]
  unfold Gf.mulN
  simp only [e7, es, Nat.zero_mul, Nat.xor_zero, e0, Nat.zero_add, Nat.reduceAdd]
  by_cases h : b.toNat % 2 = 1
  · rw [h, if_pos rfl]; simp only [Nat.one_mul]; ac_rfl
  · have h' : b.toNat % 2 = 0 := by omega
    rw [h', if_neg (by decide)]; simp

theorem mul_done (a : UInt8) {b : UInt8} (h : ¬ 0 < b.toNat) : Gf.mul a b = 0 := by
  have : b = 0 := UInt8.toNat.inj (by rw [UInt8.toNat_zero]; omega)
  rw [this, Gf.mul_zero]


theorem wraps_i64 (n : Int) (h₀ : 0 ≤ n) (h₁ : n < 2 ^ 63) : IntKind.i64.wrap n = n := by rw [IntKind.wrap_i64]; omega

theorem i64_and_nat (a b : Nat) (ha : a < 2 ^ 63) (hb : b < 2 ^ 63) : bits .and .i64 (a : Int) (b : Int) = ((a &&& b : Nat) : Int) :=
  (bits_nat .i64 63 (by decide) wraps_i64 a b ha hb).1
theorem i64_xor_nat (a b : Nat) (ha : a < 2 ^ 63) (hb : b < 2 ^ 63) : bits .xor .i64 (a : Int) (b : Int) = ((a ^^^ b : Nat) : Int) := by
  have hx : a ^^^ b < 2 ^ 63 := Nat.xor_lt_two_pow ha hb
  show IntKind.i64.wrap ((BitVec.ofInt 64 (a : Int) ^^^ BitVec.ofInt 64 (b : Int)).toNat : Int) = _
  rw [BitVec.toNat_xor, ofInt_u64 a (by omega), ofInt_u64 b (by omega), IntKind.wrap_i64]
  omega

/-- 'x >> k & 1 == 1' of an int. -/
theorem bit_spell (x k : Nat) (hx : x < 2 ^ 63) : bits .and .i64 ((x : Int) / 2 ^ k) 1 = ((Gf.bt x k : Nat) : Int) := by
  have e : (x : Int) / 2 ^ k = ((x / 2 ^ k : Nat) : Int) := by simp
  have hd : x / 2 ^ k ≤ x := Nat.div_le_self _ _
  rw [e, show (1 : Int) = ((1 : Nat) : Int) from rfl, i64_and_nat _ _ (by omega) (by omega), nat_mask1]
  unfold Gf.bt
  rw [Nat.shiftRight_eq_div_pow]

theorem shl_spell (a k : Nat) (h : a * 2 ^ k < 2 ^ 62) : wrap64 ((a : Int) * 2 ^ k) = ((a <<< k : Nat) : Int) := by
  have e : (a : Int) * 2 ^ k = ((a * 2 ^ k : Nat) : Int) := by simp
  rw [e, Nat.shiftLeft_eq]
  exact IntWalk.wrap64_in _ ⟨by omega, by omega⟩

end Go.Proofs.YthaamnjpjkkolabDoor
