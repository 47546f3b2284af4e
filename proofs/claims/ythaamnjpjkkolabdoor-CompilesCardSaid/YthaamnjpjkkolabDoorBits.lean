import Derived.Test.YthaamnjpjkkolabDoorMaMat
import Derived.Test.YthaamnjpjkkolabDoorCompP
import Derived.Shelf.Spec.TrailingZeros
/- math/bits: how many bits of a set, and which is the first. -/
namespace Go.Proofs.YthaamnjpjkkolabDoor
open Go.RowKit Go.Proofs
set_option maxRecDepth 100000
set_option linter.unusedVariables false

theorem ctz_core (x k idx : Nat) (w : World) (hx0 : ((x : Int) == 0) = false)
    (key : IntKind.u64.wrap (bits BinOp.and IntKind.u64 (x : Int) (IntKind.u64.wrap (-(x : Int))) * 285870213051353865) / 288230376151711744 = (idx : Int))
    (hi : idx < 64) (hk : k < 64) (hcell : w.cell? ⟨1, idx, none⟩ = some (.int .u8 k)) :
    Calls Tryd.prog 77 #[U x] w fun e w' => e = .returned (I k) ∧ w = w' := by
  go_enter Tryd.func77, Tryd.ntmps77
  go_wp2_with (simp only [key])
  go_ret
  exact ⟨rfl, rfl⟩
theorem ctz_zero (w : World) : Calls Tryd.prog 77 #[U 0] w fun e w' => e = .returned (I (64 : Nat)) ∧ w = w' := by
  go_enter Tryd.func77, Tryd.ntmps77
  go_wp2
  go_ret
  exact ⟨rfl, rfl⟩
/-- The first bit, where there is one. -/
theorem ctz_any (x : Nat) (hx0 : x ≠ 0) (hx : x < 18446744073709551616) (w : World) (hT : TabAt 1 Lib.deBruijn64tab w) :
    Calls Tryd.prog 77 #[U x] w fun e w' => e = .returned (I (Lib.ctz 64 x : Nat)) ∧ w = w' := by
  obtain ⟨hlow, hk⟩ := Lib.lowest_bit 64 x hx0 hx
  obtain ⟨hi, htab⟩ := Lib.deBruijn64_at _ hk
  have hcell := hT _ hi
  rw [htab] at hcell
  exact ctz_core x _ _ w (by simp; omega) (tz64_key x _ hx hx0 hlow) hi hk hcell

/-- How many bits a set has. -/
def pop (x : Nat) : Nat := (sel 16 x.testBit).length
def o1 (x : Nat) : Nat := (Nat.land (x / 2) 6148914691236517205 + Nat.land x 6148914691236517205) % 18446744073709551616
def o2 (x : Nat) : Nat := (Nat.land (x / 4) 3689348814741910323 + Nat.land x 3689348814741910323) % 18446744073709551616
def o3 (x : Nat) : Nat := Nat.land ((x / 16 + x) % 18446744073709551616) 1085102592571150095
def o4 (x : Nat) : Nat := (x + x / 256) % 18446744073709551616
def o5 (x : Nat) : Nat := (x + x / 65536) % 18446744073709551616
def o6 (x : Nat) : Nat := (x + x / 4294967296) % 18446744073709551616
def o7 (x : Nat) : Nat := Nat.land (o6 (o5 (o4 (o3 (o2 (o1 x)))))) 127
def c8 (x : Nat) : Nat := x % 2 + x / 2 % 2 + x / 4 % 2 + x / 8 % 2 + x / 16 % 2 + x / 32 % 2 + x / 64 % 2 + x / 128 % 2
theorem o7_all : ∀ h < 256, ∀ l < 256, o7 (h * 256 + l) = c8 h + c8 l := by decide +kernel
theorem pop_sum (x : Nat) : ∀ n, (sel n x.testBit).length = ((List.range n).map fun i => x / 2 ^ i % 2).sum := by
  intro n
  induction n with
  | zero => simp [sel]
  | succ n ih =>
    rw [sel_succ, List.range_succ, List.map_append, List.sum_append, ← ih]
    by_cases hb : x.testBit n = true
    · rw [if_pos hb, List.length_append]
      have : x / 2 ^ n % 2 = 1 := by rw [Nat.testBit_eq_decide_div_mod_eq] at hb; simpa using hb
      simp [this]
    · rw [if_neg hb]
      have : x / 2 ^ n % 2 = 0 := by rw [Nat.testBit_eq_decide_div_mod_eq] at hb; simp at hb; omega
      simp [this]
set_option maxHeartbeats 4000000 in
theorem pop_c8 (h l : Nat) (hl : l < 256) : pop (h * 256 + l) = c8 h + c8 l := by
  unfold pop
  rw [pop_sum]
  have e : List.range 16 = [0, 1, 2, 3, 4, 5, 6, 7, 8, 9, 10, 11, 12, 13, 14, 15] := by decide
  rw [e]
  have f0 : (h * 256 + l) % 2 = l % 2 := by omega
  have f1 : (h * 256 + l) / 2 % 2 = l / 2 % 2 := by omega
  have f2 : (h * 256 + l) / 4 % 2 = l / 4 % 2 := by omega
  have f3 : (h * 256 + l) / 8 % 2 = l / 8 % 2 := by omega
  have f4 : (h * 256 + l) / 16 % 2 = l / 16 % 2 := by omega
  have f5 : (h * 256 + l) / 32 % 2 = l / 32 % 2 := by omega
  have f6 : (h * 256 + l) / 64 % 2 = l / 64 % 2 := by omega
  have f7 : (h * 256 + l) / 128 % 2 = l / 128 % 2 := by omega
  have f8 : (h * 256 + l) / 256 % 2 = h % 2 := by omega
  have f9 : (h * 256 + l) / 512 % 2 = h / 2 % 2 := by omega
  have f10 : (h * 256 + l) / 1024 % 2 = h / 4 % 2 := by omega
  have f11 : (h * 256 + l) / 2048 % 2 = h / 8 % 2 := by omega
  have f12 : (h * 256 + l) / 4096 % 2 = h / 16 % 2 := by omega
  have f13 : (h * 256 + l) / 8192 % 2 = h / 32 % 2 := by omega
  have f14 : (h * 256 + l) / 16384 % 2 = h / 64 % 2 := by omega
  have f15 : (h * 256 + l) / 32768 % 2 = h / 128 % 2 := by omega
  simp only [List.map_cons, List.map_nil, List.sum_cons, List.sum_nil, c8, Nat.reducePow, f0, f1, f2, f3, f4, f5, f6, f7, f8, f9, f10, f11, f12, f13, f14, f15, Nat.div_one]
  ac_rfl
theorem o7_pop (x : Nat) (hx : x < 65536) : o7 x = pop x := by
  obtain ⟨h, l, hh, hl, rfl⟩ : ∃ h l, h < 256 ∧ l < 256 ∧ x = h * 256 + l := ⟨x / 256, x % 256, by omega, by omega, by omega⟩
  exact (o7_all h hh l hl).trans (pop_c8 h l hl).symm

theorem ones_key {a b m s : Nat} (h : s = (Nat.land a m + Nat.land b m) % 18446744073709551616) (ha : a < 2 ^ 64) (hb : b < 2 ^ 64) (hm : m < 2 ^ 64) : IntKind.u64.wrap (bits BinOp.and IntKind.u64 (a : Int) (m : Int) + bits BinOp.and IntKind.u64 (b : Int) (m : Int)) = (s : Int) := by
  rw [u64_and_nat a m ha hm, u64_and_nat b m hb hm, IntKind.wrap_u64, h]
  show (((a &&& m : Nat) : Int) + ((b &&& m : Nat) : Int)) % 18446744073709551616 = (((a &&& m) + (b &&& m)) % 18446744073709551616 : Nat)
  omega
theorem i64_and (a b : Nat) (ha : a < 2 ^ 62) (hb : b < 2 ^ 62) : bits BinOp.and IntKind.i64 (a : Int) (b : Int) = ((a &&& b : Nat) : Int) := by
  have h1 : (BitVec.ofInt 64 (a : Int)).toNat = a := by rw [BitVec.ofInt_natCast, BitVec.toNat_ofNat]; exact Nat.mod_eq_of_lt (by omega)
  have h2 : (BitVec.ofInt 64 (b : Int)).toNat = b := by rw [BitVec.ofInt_natCast, BitVec.toNat_ofNat]; exact Nat.mod_eq_of_lt (by omega)
  have h3 : a &&& b ≤ a := Nat.and_le_left
  show IntKind.i64.wrap ((BitVec.ofInt 64 (a : Int) &&& BitVec.ofInt 64 (b : Int)).toNat : Int) = _
  rw [BitVec.toNat_and, h1, h2]
  exact wraps_i64 _ (by omega) (by omega)
set_option maxHeartbeats 1000000 in
theorem ones_any (x : Nat) (hx : x < 65536) (w : World) :
    Calls Tryd.prog 78 #[U x] w fun e w' => e = .returned (I (pop x : Nat)) ∧ w = w' := by
  have HP := Lib.hid (o7_pop x hx)
  obtain ⟨a, ha⟩ : ∃ a, a = o1 x := ⟨_, rfl⟩
  obtain ⟨b, hb⟩ : ∃ b, b = o2 a := ⟨_, rfl⟩
  obtain ⟨c, hc⟩ : ∃ c, c = o3 b := ⟨_, rfl⟩
  obtain ⟨d, hd⟩ : ∃ d, d = o4 c := ⟨_, rfl⟩
  obtain ⟨f, hf⟩ : ∃ f, f = o5 d := ⟨_, rfl⟩
  obtain ⟨g, hg⟩ : ∃ g, g = o6 f := ⟨_, rfl⟩
  have HE := Lib.hid (show o7 x = Nat.land g 127 by rw [hg, hf, hd, hc, hb, ha]; rfl)
  have la : a < 2 ^ 64 := by rw [ha]; exact Nat.mod_lt _ (by omega)
  have lb : b < 2 ^ 64 := by rw [hb]; exact Nat.mod_lt _ (by omega)
  have lc : c ≤ 1085102592571150095 := by rw [hc]; exact Nat.and_le_right
  have ld : d ≤ c + c / 256 := by rw [hd]; exact Nat.mod_le _ _
  have lf : f ≤ d + d / 65536 := by rw [hf]; exact Nat.mod_le _ _
  have lg : g ≤ f + f / 4294967296 := by rw [hg]; exact Nat.mod_le _ _
  have HF := Lib.hid (i64_and g 127 (by omega) (by omega))
  have HW := Lib.hid (show wrap64 (g : Int) = (g : Int) by rw [show wrap64 (g : Int) = IntKind.i64.wrap (g : Int) by rw [IntKind.wrap_i64]; unfold wrap64; rfl]; exact wraps_i64 _ (by omega) (by omega))
  have k1 : IntKind.u64.wrap (bits BinOp.and IntKind.u64 ((x : Int) / 2) 6148914691236517205 + bits BinOp.and IntKind.u64 (x : Int) 6148914691236517205) = (a : Int) := ones_key (a := x / 2) (b := x) (m := 6148914691236517205) ha (by omega) (by omega) (by omega)
  have k2 : IntKind.u64.wrap (bits BinOp.and IntKind.u64 ((a : Int) / 4) 3689348814741910323 + bits BinOp.and IntKind.u64 (a : Int) 3689348814741910323) = (b : Int) := ones_key (a := a / 4) (b := a) (m := 3689348814741910323) hb (by omega) (by omega) (by omega)
  have k3 : bits BinOp.and IntKind.u64 (IntKind.u64.wrap ((b : Int) / 16 + (b : Int))) 1085102592571150095 = (c : Int) := by
    have e : IntKind.u64.wrap ((b : Int) / 16 + (b : Int)) = (((b / 16 + b) % 18446744073709551616 : Nat) : Int) := by rw [IntKind.wrap_u64]; omega
    rw [e]
    exact (u64_and_nat _ 1085102592571150095 (Nat.mod_lt _ (by omega)) (by omega)).trans (congrArg (Nat.cast (R := Int)) hc.symm)
  have k4 : IntKind.u64.wrap ((c : Int) + (c : Int) / 256) = (d : Int) := by rw [IntKind.wrap_u64, hd]; unfold o4; omega
  have k5 : IntKind.u64.wrap ((d : Int) + (d : Int) / 65536) = (f : Int) := by rw [IntKind.wrap_u64, hf]; unfold o5; omega
  have k6 : IntKind.u64.wrap ((f : Int) + (f : Int) / 4294967296) = (g : Int) := by rw [IntKind.wrap_u64, hg]; unfold o6; omega
  clear ha hb hc hd hf hg la lb lc ld lf lg
  go_enter Tryd.func78, Tryd.ntmps78
  go_wp2
  go_ret
  refine ⟨?_, rfl⟩
  show Ending.returned (.int .i64 (bits BinOp.and IntKind.i64 (wrap64 (g : Int)) 127)) = _
  rw [HW.out, ← HP.out, HE.out]
  exact congrArg (fun t => Ending.returned (.int .i64 t)) HF.out
end Go.Proofs.YthaamnjpjkkolabDoor
