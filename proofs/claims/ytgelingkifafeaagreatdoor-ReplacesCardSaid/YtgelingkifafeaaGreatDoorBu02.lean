import Derived.Test.YtgelingkifafeaaGreatDoorProg
import Derived.Test.YtgelingkifafeaaGreatDoorBu01
import Derived.WalkKit
import Derived.WalkLawsBesides
import Derived.WalkSpells
import Derived.BigQuiet
import Derived.Deep.QuietTactic
import Derived.Lib.Hide
import Derived.Deep.LoopGhost
import Derived.Deep.OwnRows
import Derived.Handy
/- Bytes of the walk and numbers of the field; the small laws that the walks share. -/
namespace Go.Proofs.YtgelingkifafeaaGreatDoor
open Go.RowKit Go.Proofs

/-- A byte as the walk holds it. -/
abbrev B (x : UInt8) : Value := .int .u8 (x.toNat : Int)
/-- An int of 64 bits. -/
abbrev I (n : Int) : Value := .int .i64 n

theorem ret_int {k : IntKind} {a b : Int} (h : a = b) : Ending.returned (.int k a) = .returned (.int k b) := by rw [h]

theorem xor8 (a b : UInt8) : bits BinOp.xor IntKind.u8 (a.toNat : Int) (b.toNat : Int) = ((a ^^^ b).toNat : Int) := by
  rw [u8_xor_nat _ _ a.toNat_lt b.toNat_lt, UInt8.toNat_xor]

theorem and8_one (a : UInt8) : bits BinOp.and IntKind.u8 (a.toNat : Int) 1 = ((a.toNat % 2 : Nat) : Int) := by
  rw [show (1 : Int) = ((1 : Nat) : Int) from rfl, u8_and_nat _ _ a.toNat_lt (by omega), nat_mask1]

/-- An int's byte. -/
def b8 (n : Int) : UInt8 := UInt8.ofNat (n % 256).toNat
theorem toNat_b8 {n : Int} (h0 : 0 ≤ n) (h1 : n < 256) : ((b8 n).toNat : Int) = n := by
  unfold b8; rw [UInt8.toNat_ofNat', Nat.mod_eq_of_lt (by omega)]; omega
theorem B_b8 {n : Int} (h0 : 0 ≤ n) (h1 : n < 256) : B (b8 n) = .int .u8 n := by unfold B; rw [toNat_b8 h0 h1]
theorem b8_nat (x : UInt8) : b8 (x.toNat : Int) = x := by
  apply UInt8.toNat.inj
  have := toNat_b8 (n := (x.toNat : Int)) (by omega) (by have := x.toNat_lt; omega)
  omega

theorem b8_xor (a b : UInt8) : b8 (bits BinOp.xor IntKind.u8 (a.toNat : Int) (b.toNat : Int)) = a ^^^ b := by rw [xor8, b8_nat]
theorem b8_one : b8 1 = 1 := rfl
theorem b8_two : b8 2 = 2 := rfl
theorem b8_128 : b8 128 = 128 := rfl

theorem byte_of_int {n : Int} (h0 : 0 ≤ n) (h1 : n < 256) : ∃ x : UInt8, n = (x.toNat : Int) := by
  refine ⟨UInt8.ofNat n.toNat, ?_⟩
  rw [UInt8.toNat_ofNat', Nat.mod_eq_of_lt (by omega)]
  omega

theorem byte_of_wf {n : Int} (h : (Lit.int .u8 n).wf = true) : ∃ x : UInt8, n = (x.toNat : Int) := by
  have : IntKind.min .u8 ≤ n ∧ n ≤ IntKind.max .u8 := by simpa [Lit.wf] using h
  simp [IntKind.min, IntKind.max, IntKind.signed, IntKind.bits] at this
  exact byte_of_int this.1 (by omega)

/-- x times x, as a byte. -/
def xt8 (a : UInt8) : UInt8 := UInt8.ofNat (Gf.xt a.toNat)
theorem toNat_xt8 (a : UInt8) : (xt8 a).toNat = Gf.xt a.toNat := by
  unfold xt8; rw [UInt8.toNat_ofNat']; exact Nat.mod_eq_of_lt (Gf.xt_lt _ a.toNat_lt)

theorem xt_spell (a : UInt8) : bits BinOp.xor IntKind.u8 ((a.toNat : Int) * 2 % 256) ((a.toNat : Int) / 128 * 29) = ((xt8 a).toNat : Int) := by
  have ha := a.toNat_lt
  rw [toNat_xt8]
  have h : ∀ n < 256, (n * 2 % 256 ^^^ n / 128 * 29 == Gf.xt n) = true := by decide +kernel
  have h' := h a.toNat ha
  rw [show (a.toNat : Int) * 2 % 256 = ((a.toNat * 2 % 256 : Nat) : Int) by omega, show (a.toNat : Int) / 128 * 29 = ((a.toNat / 128 * 29 : Nat) : Int) by omega,
    u8_xor_nat _ _ (by omega) (by omega)]
  exact congrArg Int.ofNat (by simpa using h')

def half (b : UInt8) : UInt8 := UInt8.ofNat (b.toNat / 2)
theorem toNat_half (b : UInt8) : (half b).toNat = b.toNat / 2 := by
  have := b.toNat_lt
  unfold half; rw [UInt8.toNat_ofNat']; exact Nat.mod_eq_of_lt (by omega)
theorem half_spell (b : UInt8) : (b.toNat : Int) / 2 = ((half b).toNat : Int) := by rw [toNat_half]; omega

/-- One step of the product by bits. -/
theorem mul_step (a b : UInt8) : Gf.mul a b = (if b.toNat % 2 = 1 then a else 0) ^^^ Gf.mul (xt8 a) (half b) := by
  have hb := b.toNat_lt
  apply UInt8.toNat.inj
  have e7 : Gf.bt (b.toNat / 2) 7 = 0 := by unfold Gf.bt; rw [Nat.shiftRight_eq_div_pow]; omega
  have es : ∀ i, Gf.bt (b.toNat / 2) i = Gf.bt b.toNat (i + 1) := by
    intro i; unfold Gf.bt; rw [Nat.shiftRight_eq_div_pow, Nat.shiftRight_eq_div_pow, Nat.div_div_eq_div_mul]; congr 2; rw [Nat.pow_succ, Nat.mul_comm]
  have e0 : Gf.bt b.toNat 0 = b.toNat % 2 := by unfold Gf.bt; rfl
  rw [UInt8.toNat_xor, Gf.toNat_mul, Gf.toNat_mul, toNat_xt8, toNat_half]
  unfold Gf.mulN
  simp only [e7, es, Nat.zero_mul, Nat.xor_zero, e0, Nat.zero_add, Nat.reduceAdd]
  by_cases h : b.toNat % 2 = 1
  · rw [h, if_pos rfl]; simp only [Nat.one_mul]; ac_rfl
  · have h' : b.toNat % 2 = 0 := by omega
    rw [h', if_neg (by decide)]; simp

theorem mul_done (a : UInt8) {b : UInt8} (h : ¬ 0 < b.toNat) : Gf.mul a b = 0 := by
  have : b = 0 := UInt8.toNat.inj (by rw [UInt8.toNat_zero]; omega)
  rw [this, Gf.mul_zero]


theorem wraps_i64 (n : Int) (h₀ : 0 ≤ n) (h₁ : n < 2 ^ 63) : IntKind.i64.wrap n = n := by rw [IntKind.wrap_i64]; omega

theorem i64_and_nat (a b : Nat) (ha : a < 2 ^ 63) (hb : b < 2 ^ 63) : bits .and .i64 (a : Int) (b : Int) = ((a &&& b : Nat) : Int) :=
  (bits_nat .i64 63 (by decide) wraps_i64 a b ha hb).1
theorem i64_xor_nat (a b : Nat) (ha : a < 2 ^ 63) (hb : b < 2 ^ 63) : bits .xor .i64 (a : Int) (b : Int) = ((a ^^^ b : Nat) : Int) := by
  have hx : a ^^^ b < 2 ^ 63 := Nat.xor_lt_two_pow ha hb
  show IntKind.i64.wrap ((BitVec.ofInt 64 (a : Int) ^^^ BitVec.ofInt 64 (b : Int)).toNat : Int) = _
  rw [BitVec.toNat_xor, ofInt_u64 a (by omega), ofInt_u64 b (by omega), IntKind.wrap_i64]
  omega

/-- 'x >> k & 1 == 1' of an int. -/
theorem bit_spell (x k : Nat) (hx : x < 2 ^ 63) : bits .and .i64 ((x : Int) / 2 ^ k) 1 = ((Gf.bt x k : Nat) : Int) := by
  have e : (x : Int) / 2 ^ k = ((x / 2 ^ k : Nat) : Int) := by simp
  have hd : x / 2 ^ k ≤ x := Nat.div_le_self _ _
  rw [e, show (1 : Int) = ((1 : Nat) : Int) from rfl, i64_and_nat _ _ (by omega) (by omega), nat_mask1]
  unfold Gf.bt
  rw [Nat.shiftRight_eq_div_pow]

theorem shl_spell (a k : Nat) (h : a * 2 ^ k < 2 ^ 62) : wrap64 ((a : Int) * 2 ^ k) = ((a <<< k : Nat) : Int) := by
  have e : (a : Int) * 2 ^ k = ((a * 2 ^ k : Nat) : Int) := by simp
  rw [e, Nat.shiftLeft_eq]
  exact IntWalk.wrap64_in _ ⟨by omega, by omega⟩

end Go.Proofs.YtgelingkifafeaaGreatDoor

/- The program's product and inverse. -/
namespace Go.Proofs.YtgelingkifafeaaGreatDoor
open Go.RowKit Go.Proofs
set_option maxRecDepth 100000

def MulInv (x y u v q : UInt8) : Prop := q ^^^ Gf.mul u v = Gf.mul x y

theorem mulInv_yes {x y u v q : UInt8} (h : MulInv x y u v q) (hb : v.toNat % 2 = 1) : MulInv x y (xt8 u) (half v) (q ^^^ u) := by
  unfold MulInv at *
  rw [mul_step u v, if_pos hb] at h
  rw [← h, UInt8.xor_assoc]
theorem mulInv_no {x y u v q : UInt8} (h : MulInv x y u v q) (hb : ¬ v.toNat % 2 = 1) : MulInv x y (xt8 u) (half v) q := by
  unfold MulInv at *
  rw [mul_step u v, if_neg hb] at h
  rw [← h]; simp

set_option maxHeartbeats 400000 in
theorem mul_any (x y : UInt8) (w : World) :
    Calls Tryz.prog 64 #[B x, B y] w fun e w' => e = .returned (B (Gf.mul x y)) ∧ w = w' := by
  go_enter Tryz.func64, Tryz.ntmps64
  go_wp2
  go_loop [0, 1, 5] (fun a b p => ∃ u v q : UInt8, a = B u ∧ b = B v ∧ p = B q ∧ MulInv x y u v q) (fun _ b _ => (intOf b).toNat)
  case atStart => exact ⟨x, y, 0, rfl, rfl, rfl, by simp [MulInv]⟩
  case round =>
    obtain ⟨u, v, q, rfl, rfl, rfl, hI⟩ := hrel
    have H := Lib.hid hI
    clear hI
    have hu := u.toNat_lt
    have hv := v.toNat_lt
    go_wp2
    · go_round
      case rel =>
        have hb : v.toNat % 2 = 1 := by
          rename_i h
          rw [and8_one] at h
          have := eq_of_beq h
          omega
        exact ⟨xt8 u, half v, q ^^^ u, by rw [xt_spell], by rw [half_spell], by rw [xor8], mulInv_yes H.out hb⟩
      case measure => simp [intOf]; omega
    · go_round
      case rel =>
        have hb : ¬ v.toNat % 2 = 1 := by
          rename_i h
          rw [and8_one] at h
          intro e
          rw [e] at h
          exact absurd h (by decide)
        exact ⟨xt8 u, half v, q, by rw [xt_spell], by rw [half_spell], rfl, mulInv_no H.out hb⟩
      case measure => simp [intOf]; omega
    · have hz : ¬ 0 < v.toNat := by assumption
      have := H.out
      unfold MulInv at this
      rw [mul_done u hz] at this
      go_ret
      exact ⟨by rw [← this]; simp, rfl⟩

/-- The k-th state of Inv. -/
def invSt (a : UInt8) : Nat → UInt8 × UInt8
  | 0 => (a, 1)
  | k + 1 => let s := invSt a k; (Gf.mul s.1 s.1, Gf.mul s.2 (Gf.mul s.1 s.1))

theorem invSt_seven (a : UInt8) : (invSt a 7).2 = Gf.inv a := rfl

set_option maxHeartbeats 400000 in
theorem inv_any (x : UInt8) (w : World) :
    Calls Tryz.prog 45 #[B x] w fun e w' => e = .returned (B (Gf.inv x)) ∧ w = w' := by
  go_enter Tryz.func45, Tryz.ntmps45
  go_wp2_with fail
  go_loop [0, 3, 4] (fun a p i => ∃ k : Nat, k ≤ 7 ∧ i = I k ∧ a = B (invSt x k).1 ∧ p = B (invSt x k).2) (fun _ _ i => 7 - (intOf i).toNat)
  case atStart => exact ⟨0, by omega, rfl, rfl, rfl⟩
  case round =>
    obtain ⟨k, hk, rfl, rfl, rfl⟩ := hrel
    have E := Lib.hid (show invSt x (k + 1) = (Gf.mul (invSt x k).1 (invSt x k).1, Gf.mul (invSt x k).2 (Gf.mul (invSt x k).1 (invSt x k).1)) from rfl)
    have E7 := Lib.hid (show k = 7 → (invSt x k).2 = Gf.inv x from fun e => by rw [e]; rfl)
    generalize invSt x k = s at *
    go_wp2_with (go_at_call 64; refine (mul_any _ _ _).mono ?_; rintro e w' ⟨rfl, rfl⟩)
    · go_round
      case rel => exact ⟨k + 1, by omega, by go_num, by rw [E.out], by rw [E.out]⟩
      case measure => simp [intOf]; omega
    · go_ret
      exact ⟨ret_int (by rw [E7.out (by omega)]), rfl⟩

/-! ### The reference -/

/-- The reference's product ahead of the reduction, after i bits. -/
def rawN (a b : Nat) : Nat → Nat
  | 0 => 0
  | i + 1 => if Gf.bt b i = 1 then rawN a b i ^^^ (a <<< i) else rawN a b i

/-- The reduction: bits 14 down to 8 taken away; k of them are done. -/
def cutN (p : Nat) : Nat → Nat
  | 0 => p
  | k + 1 => if Gf.bt (cutN p k) (14 - k) = 1 then cutN p k ^^^ (0x11d <<< (6 - k)) else cutN p k

def refMulN (a b : Nat) : Nat := cutN (rawN a b 8) 7

theorem rawN_lt (a b k : Nat) (ha : a < 256) (hk : k ≤ 8) : rawN a b k < 65536 := by
  induction k with
  | zero => simp [rawN]
  | succ k ih =>
    have ih := ih (by omega)
    simp only [rawN]
    split
    · refine Nat.xor_lt_two_pow (n := 16) ih ?_
      rw [Nat.shiftLeft_eq]
      have : 2 ^ k ≤ 2 ^ 7 := Nat.pow_le_pow_right (by decide) (by omega)
      calc a * 2 ^ k ≤ 255 * 2 ^ 7 := Nat.mul_le_mul (by omega) this
        _ < 65536 := by decide
    · exact ih

theorem cutN_lt (p k : Nat) (hp : p < 65536) (hk : k ≤ 7) : cutN p k < 65536 := by
  induction k with
  | zero => exact hp
  | succ k ih =>
    have ih := ih (by omega)
    simp only [cutN]
    split
    · refine Nat.xor_lt_two_pow (n := 16) ih ?_
      rw [Nat.shiftLeft_eq]
      have : 2 ^ (6 - k) ≤ 2 ^ 6 := Nat.pow_le_pow_right (by decide) (by omega)
      calc 285 * 2 ^ (6 - k) ≤ 285 * 2 ^ 6 := Nat.mul_le_mul (by omega) this
        _ < 65536 := by decide
    · exact ih

theorem rawN_xor (a b c k : Nat) : rawN a (b ^^^ c) k = rawN a b k ^^^ rawN a c k := by
  induction k with
  | zero => simp [rawN]
  | succ k ih =>
    simp only [rawN, ih, Gf.bt_xor]
    rcases Gf.bt_lt b k with h | h <;> rcases Gf.bt_lt c k with h' | h' <;> rw [h, h'] <;> simp
    · ac_rfl
    · ac_rfl
    · rw [show ∀ p q r : Nat, p ^^^ r ^^^ (q ^^^ r) = p ^^^ q ^^^ (r ^^^ r) from fun p q r => by ac_rfl]; simp

theorem cutN_xor (p q k : Nat) : cutN (p ^^^ q) k = cutN p k ^^^ cutN q k := by
  induction k with
  | zero => rfl
  | succ k ih =>
    simp only [cutN, ih, Gf.bt_xor]
    rcases Gf.bt_lt (cutN p k) (14 - k) with h | h <;> rcases Gf.bt_lt (cutN q k) (14 - k) with h' | h' <;> rw [h, h'] <;> simp
    · ac_rfl
    · ac_rfl
    · rw [show ∀ p q r : Nat, p ^^^ r ^^^ (q ^^^ r) = p ^^^ q ^^^ (r ^^^ r) from fun p q r => by ac_rfl]; simp

theorem refMul_pw : ∀ a < 256, ∀ i < 8, (refMulN a (2 ^ i) % 256 == Gf.mulN a (2 ^ i)) = true := by decide +kernel

theorem ofNat_xor8 (m n : Nat) : UInt8.ofNat (m ^^^ n) = UInt8.ofNat m ^^^ UInt8.ofNat n := by
  apply UInt8.toNat.inj
  rw [UInt8.toNat_xor, UInt8.toNat_ofNat', UInt8.toNat_ofNat', UInt8.toNat_ofNat']
  exact Nat.xor_mod_two_pow

/-- The reference's product is the product. -/
theorem refMulN_eq (x y : UInt8) : UInt8.ofNat (refMulN x.toNat y.toNat) = Gf.mul x y := by
  refine Gf.Adds.ext (f := fun y => UInt8.ofNat (refMulN x.toNat y.toNat)) (g := fun y => Gf.mul x y) (fun b c => ?_) (Gf.adds_right x) (fun i hi => ?_) y
  · show UInt8.ofNat (cutN (rawN x.toNat (b ^^^ c).toNat 8) 7) = _
    rw [UInt8.toNat_xor, rawN_xor, cutN_xor, ofNat_xor8]; rfl
  · have h := refMul_pw x.toNat x.toNat_lt i hi
    have e : (Gf.pw i).toNat = 2 ^ i := by
      unfold Gf.pw; rw [UInt8.toNat_ofNat']
      exact Nat.mod_eq_of_lt (Nat.pow_lt_pow_right (by decide) hi)
    apply UInt8.toNat.inj
    show (UInt8.ofNat (refMulN x.toNat (Gf.pw i).toNat)).toNat = _
    rw [Gf.toNat_mul, e, UInt8.toNat_ofNat']
    simpa using h

theorem cut_yes {r k : Nat} (hr : r < 65536) (hk : k < 7) (h : (bits BinOp.and IntKind.i64 ((cutN r k : Int) / 2 ^ (14 - k)) 1 == 1) = true) :
    bits BinOp.xor IntKind.i64 (cutN r k : Int) (wrap64 (285 * 2 ^ (14 - k - 8))) = (cutN r (k + 1) : Int) := by
  have hc := cutN_lt r k hr (by omega)
  rw [bit_spell _ _ (by omega)] at h
  have h' := eq_of_beq h
  have hlt : 285 * 2 ^ (14 - k - 8) < 65536 := by
    have : 2 ^ (14 - k - 8) ≤ 2 ^ 6 := Nat.pow_le_pow_right (by decide) (by omega)
    calc 285 * 2 ^ (14 - k - 8) ≤ 285 * 2 ^ 6 := Nat.mul_le_mul (by omega) this
      _ < 65536 := by decide
  have := shl_spell 285 (14 - k - 8) (by omega)
  rw [show ((285 : Nat) : Int) = 285 from rfl] at this
  rw [this, i64_xor_nat _ _ (by omega) (by rw [Nat.shiftLeft_eq]; omega)]
  simp only [cutN]
  rw [if_pos (by omega), show 14 - k - 8 = 6 - k by omega]

theorem cut_no {r k : Nat} (hr : r < 65536) (hk : k < 7) (h : (bits BinOp.and IntKind.i64 ((cutN r k : Int) / 2 ^ (14 - k)) 1 == 1) = false) : cutN r k = cutN r (k + 1) := by
  have hc := cutN_lt r k hr (by omega)
  rw [bit_spell _ _ (by omega)] at h
  simp only [cutN]
  rw [if_neg (fun e => by rw [e] at h; exact absurd h (by decide))]

theorem raw_yes {x y k : Nat} (hx : x < 256) (hk : k < 8) (h : (bits BinOp.and IntKind.i64 ((y : Int) / 2 ^ k) 1 == 1) = true) (hy : y < 256) :
    bits BinOp.xor IntKind.i64 (rawN x y k : Int) (wrap64 ((x : Int) * 2 ^ k)) = (rawN x y (k + 1) : Int) := by
  rw [bit_spell _ _ (by omega)] at h
  have h' := eq_of_beq h
  have hlt : x * 2 ^ k < 65536 := by
    have : 2 ^ k ≤ 2 ^ 7 := Nat.pow_le_pow_right (by decide) (by omega)
    calc x * 2 ^ k ≤ 255 * 2 ^ 7 := Nat.mul_le_mul (by omega) this
      _ < 65536 := by decide
  have := rawN_lt x y k hx (by omega)
  rw [shl_spell _ _ (by omega), i64_xor_nat _ _ (by omega) (by rw [Nat.shiftLeft_eq]; omega)]
  simp only [rawN]
  rw [if_pos (by omega)]

theorem raw_no {x y k : Nat} (h : (bits BinOp.and IntKind.i64 ((y : Int) / 2 ^ k) 1 == 1) = false) (hy : y < 256) : rawN x y k = rawN x y (k + 1) := by
  rw [bit_spell _ _ (by omega)] at h
  simp only [rawN]
  rw [if_neg (fun e => by rw [e] at h; exact absurd h (by decide))]

set_option maxHeartbeats 400000 in
theorem refMul_any (x y : UInt8) (w : World) :
    Calls Tryz.prog 43 #[B x, B y] w fun e w' => e = .returned (B (Gf.mul x y)) ∧ w = w' := by
  have hx : x.toNat < 256 := x.toNat_lt
  have hy : y.toNat < 256 := y.toNat_lt
  have E := Lib.hid (show (refMulN x.toNat y.toNat : Int) % 256 = ((Gf.mul x y).toNat : Int) by
    rw [← refMulN_eq, UInt8.toNat_ofNat']; omega)
  go_enter Tryz.func43, Tryz.ntmps43
  go_wp2_with fail
  go_loop [5, 7] (fun p i => ∃ k : Nat, k ≤ 8 ∧ i = I k ∧ p = I (rawN x.toNat y.toNat k)) (fun _ i => 8 - (intOf i).toNat)
  case atStart => exact ⟨0, by omega, rfl, rfl⟩
  case round =>
    obtain ⟨k, hk, rfl, rfl⟩ := hrel
    go_wp2_with fail
    · go_round
      case rel => exact ⟨k + 1, by omega, by go_num, by rw [raw_yes hx (by omega) ‹_› hy]⟩
      case measure => simp [intOf]; omega
    · go_round
      case rel => exact ⟨k + 1, by omega, by go_num, by rw [raw_no ‹_› hy]⟩
      case measure => simp [intOf]; omega
    · obtain rfl : k = 8 := by omega
      have hr := rawN_lt x.toNat y.toNat 8 hx (by omega)
      have E2 := Lib.hid E.out
      clear E
      unfold refMulN at E2
      generalize rawN x.toNat y.toNat 8 = r at *
      go_loop [5, 8] (fun p i => ∃ k : Nat, k ≤ 7 ∧ i = I (14 - (k : Int)) ∧ p = I (cutN r k)) (fun _ i => (intOf i).toNat)
      case atStart => exact ⟨0, by omega, rfl, rfl⟩
      case round =>
        obtain ⟨k, hk, rfl, rfl⟩ := hrel
        go_wp2_with fail
        · go_round
          case rel => exact ⟨k + 1, by omega, by go_num, by rw [cut_yes hr (by omega) ‹_›]⟩
          case measure => simp [intOf]; omega
        · go_round
          case rel => exact ⟨k + 1, by omega, by go_num, by rw [cut_no hr (by omega) ‹_›]⟩
          case measure => simp [intOf]; omega
        · obtain rfl : k = 7 := by omega
          go_ret
          exact ⟨ret_int E2.out, rfl⟩

theorem refMul_int (x : UInt8) (n : Int) (w : World) (h0 : 0 ≤ n) (h1 : n < 256) :
    Calls Tryz.prog 43 #[B x, .int .u8 n] w fun e w' => e = .returned (B (Gf.mul x (b8 n))) ∧ w = w' := by
  rw [← B_b8 h0 h1]; exact refMul_any x (b8 n) w

def NoInv (x : UInt8) (k : Nat) : Prop := ∀ c : Nat, 1 ≤ c → c < k → Gf.mul x (b8 c) ≠ 1
theorem noInv_next {x : UInt8} {k : Nat} (h : NoInv x k) (hn : Gf.mul x (b8 k) ≠ 1) : NoInv x (k + 1) := by
  intro c h1 h2
  by_cases e : c = k
  · subst e; exact hn
  · exact h c h1 (by omega)
theorem noInv_all {x : UInt8} (h : NoInv x 256) : Gf.inv x = 0 := by
  by_cases hx : x = 0
  · rw [hx]; exact Gf.inv_zero
  · exfalso
    have hi := Gf.inv_ne hx
    have hlt := (Gf.inv x).toNat_lt
    refine h (Gf.inv x).toNat ?_ hlt ?_
    · rcases Nat.eq_zero_or_pos (Gf.inv x).toNat with h0 | h0
      · exact absurd (UInt8.toNat.inj (by simpa using h0)) hi
      · exact h0
    · rw [b8_nat]; exact Gf.mul_inv hx
theorem beq_one_yes {u : UInt8} (h : ((u.toNat : Int) == 1) = true) : u = 1 := by
  have := eq_of_beq h
  exact UInt8.toNat.inj (by rw [show (1 : UInt8).toNat = 1 from rfl]; omega)
theorem beq_one_no {u : UInt8} (h : ((u.toNat : Int) == 1) = false) : u ≠ 1 := by
  rintro rfl; exact absurd h (by decide)

set_option maxHeartbeats 400000 in
theorem refInv_any (x : UInt8) (w : World) :
    Calls Tryz.prog 42 #[B x] w fun e w' => e = .returned (B (Gf.inv x)) ∧ w = w' := by
  go_enter Tryz.func42, Tryz.ntmps42
  go_wp2_with fail
  go_loop [3] (fun i => ∃ k : Nat, 1 ≤ k ∧ k ≤ 256 ∧ i = I k ∧ NoInv x k) (fun i => 256 - (intOf i).toNat)
  case atStart => exact ⟨1, by omega, by omega, rfl, fun c h1 h2 => by omega⟩
  case round =>
    obtain ⟨k, hk1, hk2, rfl, hn⟩ := hrel
    have H := Lib.hid hn
    clear hn
    go_wp2_with (go_at_call 43; refine (refMul_int _ _ _ (by omega) (by omega)).mono ?_; rintro e w' ⟨rfl, rfl⟩)
    · go_ret
      have e1 : Gf.mul x (b8 k) = 1 := beq_one_yes ‹_›
      exact ⟨ret_int (by rw [← Gf.inv_unique e1, toNat_b8 (by omega) (by omega)]), rfl⟩
    · go_round
      case rel => exact ⟨k + 1, by omega, by omega, by go_num, noInv_next H.out (beq_one_no ‹_›)⟩
      case measure => simp [intOf]; omega
    · obtain rfl : k = 256 := by omega
      go_ret
      exact ⟨ret_int (by rw [noInv_all H.out]; rfl), rfl⟩

end Go.Proofs.YtgelingkifafeaaGreatDoor
