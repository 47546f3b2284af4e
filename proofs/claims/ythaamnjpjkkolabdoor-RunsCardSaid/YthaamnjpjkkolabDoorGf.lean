/- The field of 256 numbers: its product, by bits, and its laws. -/
namespace Gf

def xt (a : Nat) : Nat := (2 * a) ^^^ ((a / 128) * 0x11d)

def bt (b i : Nat) : Nat := (b >>> i) % 2

def mulN (a b : Nat) : Nat :=
  let a1 := xt a
  let a2 := xt a1
  let a3 := xt a2
  let a4 := xt a3
  let a5 := xt a4
  let a6 := xt a5
  let a7 := xt a6
  (bt b 0 * a) ^^^ (bt b 1 * a1) ^^^ (bt b 2 * a2) ^^^ (bt b 3 * a3) ^^^ (bt b 4 * a4) ^^^ (bt b 5 * a5) ^^^ (bt b 6 * a6) ^^^ (bt b 7 * a7)

theorem bt_lt (b i : Nat) : bt b i = 0 ∨ bt b i = 1 := by unfold bt; omega

theorem bt_xor (a b i : Nat) : bt (a ^^^ b) i = bt a i ^^^ bt b i := by
  unfold bt
  rw [Nat.shiftRight_xor_distrib]
  generalize a >>> i = x
  generalize b >>> i = y
  have h1 : ∀ z, z % 2 = z &&& 1 := fun z => (Nat.and_one_is_mod z).symm
  rw [h1, h1, h1, Nat.and_xor_distrib_right]

theorem bt_mul_xor (a b i c : Nat) : bt (a ^^^ b) i * c = (bt a i * c) ^^^ (bt b i * c) := by
  rw [bt_xor]
  rcases bt_lt a i with h | h <;> rcases bt_lt b i with h' | h' <;> rw [h, h'] <;> simp

theorem mul_bt_xor (a b c i : Nat) : bt c i * (a ^^^ b) = (bt c i * a) ^^^ (bt c i * b) := by
  rcases bt_lt c i with h | h <;> rw [h] <;> simp

theorem xt_xor (a b : Nat) (ha : a < 256) (hb : b < 256) : xt (a ^^^ b) = xt a ^^^ xt b := by
  have h2 : ∀ z, 2 * z = z <<< 1 := fun z => by rw [Nat.shiftLeft_eq]; omega
  have h7 : ∀ z, z / 128 = z >>> 7 := fun z => by rw [Nat.shiftRight_eq_div_pow]
  have hx : a ^^^ b < 2 ^ 8 := Nat.xor_lt_two_pow (by omega) (by omega)
  have hxa : a / 128 = 0 ∨ a / 128 = 1 := by omega
  have hxb : b / 128 = 0 ∨ b / 128 = 1 := by omega
  have e1 : 2 * (a ^^^ b) = (2 * a) ^^^ (2 * b) := by rw [h2, h2, h2, Nat.shiftLeft_xor_distrib]
  have e2 : (a ^^^ b) / 128 = (a / 128) ^^^ (b / 128) := by rw [h7, h7, h7, Nat.shiftRight_xor_distrib]
  unfold xt
  rw [e1, e2]
  rcases hxa with h | h <;> rcases hxb with h' | h' <;> rw [h, h'] <;> simp
  · rw [Nat.xor_assoc]
  · rw [Nat.xor_assoc, Nat.xor_assoc]; congr 1; rw [Nat.xor_comm]
  · rw [show ∀ p q r : Nat, p ^^^ r ^^^ (q ^^^ r) = p ^^^ q ^^^ (r ^^^ r) from fun p q r => by ac_rfl]; simp

theorem xt_lt (a : Nat) (ha : a < 256) : xt a < 256 := by
  have : (∀ a < 256, (decide (xt a < 256)) = true) := by decide +kernel
  simpa using this a ha

theorem xor_lt {a b : Nat} (ha : a < 256) (hb : b < 256) : a ^^^ b < 256 := Nat.xor_lt_two_pow (n := 8) ha hb

theorem bt_mul_lt (b i c : Nat) (hc : c < 256) : bt b i * c < 256 := by
  rcases bt_lt b i with h | h <;> rw [h] <;> omega

theorem mulN_lt (a b : Nat) (ha : a < 256) : mulN a b < 256 := by
  unfold mulN
  have h1 := xt_lt a ha
  have h2 := xt_lt _ h1
  have h3 := xt_lt _ h2
  have h4 := xt_lt _ h3
  have h5 := xt_lt _ h4
  have h6 := xt_lt _ h5
  have h7 := xt_lt _ h6
  simp only []
  repeat' apply xor_lt
  all_goals (apply bt_mul_lt; assumption)

theorem mulN_xor_right (a b c : Nat) : mulN a (b ^^^ c) = mulN a b ^^^ mulN a c := by
  unfold mulN
  simp only [bt_mul_xor]
  ac_rfl

theorem mulN_xor_left (a b c : Nat) (ha : a < 256) (hb : b < 256) : mulN (a ^^^ b) c = mulN a c ^^^ mulN b c := by
  unfold mulN
  have h1 := xt_lt a ha
  have h2 := xt_lt _ h1
  have h3 := xt_lt _ h2
  have h4 := xt_lt _ h3
  have h5 := xt_lt _ h4
  have h6 := xt_lt _ h5
  have g1 := xt_lt b hb
  have g2 := xt_lt _ g1
  have g3 := xt_lt _ g2
  have g4 := xt_lt _ g3
  have g5 := xt_lt _ g4
  have g6 := xt_lt _ g5
  simp only [xt_xor _ _ ha hb, xt_xor _ _ h1 g1, xt_xor _ _ h2 g2, xt_xor _ _ h3 g3, xt_xor _ _ h4 g4, xt_xor _ _ h5 g5, xt_xor _ _ h6 g6, mul_bt_xor]
  ac_rfl

/-- The product. -/
def mul (a b : UInt8) : UInt8 := UInt8.ofNat (mulN a.toNat b.toNat)

theorem toNat_mul (a b : UInt8) : (mul a b).toNat = mulN a.toNat b.toNat := by
  unfold mul
  rw [UInt8.toNat_ofNat']
  exact Nat.mod_eq_of_lt (mulN_lt _ _ a.toNat_lt)

theorem mul_xor (a b c : UInt8) : mul a (b ^^^ c) = mul a b ^^^ mul a c := by
  apply UInt8.toNat.inj
  rw [toNat_mul, UInt8.toNat_xor, UInt8.toNat_xor, toNat_mul, toNat_mul, mulN_xor_right]

theorem xor_mul (a b c : UInt8) : mul (a ^^^ b) c = mul a c ^^^ mul b c := by
  apply UInt8.toNat.inj
  rw [toNat_mul, UInt8.toNat_xor, UInt8.toNat_xor, toNat_mul, toNat_mul, mulN_xor_left _ _ _ a.toNat_lt b.toNat_lt]

/-- Two maps that go with sums and are the same at the powers of two are the same. -/
def Adds (f : UInt8 → UInt8) : Prop := ∀ a b, f (a ^^^ b) = f a ^^^ f b

theorem Adds.zero {f : UInt8 → UInt8} (h : Adds f) : f 0 = 0 := by
  have := h 0 0
  simpa using this

def pw (i : Nat) : UInt8 := UInt8.ofNat (2 ^ i)
def part (a : Nat) (i : Nat) : UInt8 := UInt8.ofNat (bt a i * 2 ^ i)

theorem parts_all : ∀ a < 256, (UInt8.ofNat a == (part a 0 ^^^ part a 1 ^^^ part a 2 ^^^ part a 3 ^^^ part a 4 ^^^ part a 5 ^^^ part a 6 ^^^ part a 7)) = true := by decide +kernel

theorem parts (a : UInt8) : a = part a.toNat 0 ^^^ part a.toNat 1 ^^^ part a.toNat 2 ^^^ part a.toNat 3 ^^^ part a.toNat 4 ^^^ part a.toNat 5 ^^^ part a.toNat 6 ^^^ part a.toNat 7 := by
  have := parts_all a.toNat a.toNat_lt
  simpa using this

theorem Adds.part {f g : UInt8 → UInt8} (hf : Adds f) (hg : Adds g) {i : Nat} (h : f (pw i) = g (pw i)) (a : Nat) : f (Gf.part a i) = g (Gf.part a i) := by
  unfold Gf.part
  rcases bt_lt a i with e | e <;> rw [e]
  · simp [hf.zero, hg.zero]
  · simpa [pw] using h

theorem Adds.ext {f g : UInt8 → UInt8} (hf : Adds f) (hg : Adds g) (h : ∀ i < 8, f (pw i) = g (pw i)) (a : UInt8) : f a = g a := by
  rw [parts a]
  simp only [hf _ _, hg _ _]
  rw [hf.part hg (h 0 (by omega)), hf.part hg (h 1 (by omega)), hf.part hg (h 2 (by omega)), hf.part hg (h 3 (by omega)),
    hf.part hg (h 4 (by omega)), hf.part hg (h 5 (by omega)), hf.part hg (h 6 (by omega)), hf.part hg (h 7 (by omega))]

theorem adds_left (c : UInt8) : Adds (fun a => mul a c) := fun a b => xor_mul a b c
theorem adds_right (c : UInt8) : Adds (fun a => mul c a) := fun a b => mul_xor c a b

theorem comm_pw : ∀ i < 8, ∀ j < 8, (mul (pw i) (pw j) == mul (pw j) (pw i)) = true := by decide +kernel

theorem mul_comm (a b : UInt8) : mul a b = mul b a := by
  refine Adds.ext (adds_left b) (adds_right b) (fun i hi => ?_) a
  refine Adds.ext (adds_right (pw i)) (adds_left (pw i)) (fun j hj => ?_) b
  simpa using comm_pw i hi j hj

theorem assoc_pw : ∀ i < 8, ∀ j < 8, ∀ k < 8, (mul (mul (pw i) (pw j)) (pw k) == mul (pw i) (mul (pw j) (pw k))) = true := by decide +kernel

theorem mul_assoc (a b c : UInt8) : mul (mul a b) c = mul a (mul b c) := by
  refine Adds.ext (f := fun a => mul (mul a b) c) (g := fun a => mul a (mul b c)) (fun x y => by simp only [xor_mul]) (adds_left _) (fun i hi => ?_) a
  refine Adds.ext (f := fun b => mul (mul (pw i) b) c) (g := fun b => mul (pw i) (mul b c)) (fun x y => by simp only [mul_xor, xor_mul]) (fun x y => by simp only [mul_xor, xor_mul]) (fun j hj => ?_) b
  refine Adds.ext (f := fun c => mul (mul (pw i) (pw j)) c) (g := fun c => mul (pw i) (mul (pw j) c)) (adds_right _) (fun x y => by simp only [mul_xor]) (fun k hk => ?_) c
  simpa using assoc_pw i hi j hj k hk

theorem mul_zero (a : UInt8) : mul a 0 = 0 := (adds_right a).zero
theorem zero_mul (a : UInt8) : mul 0 a = 0 := (adds_left a).zero

theorem mul_one (a : UInt8) : mul a 1 = a := by
  refine Adds.ext (f := fun a => mul a 1) (g := fun a => a) (adds_left 1) (fun _ _ => rfl) (fun i hi => ?_) a
  have : ∀ i < 8, (mul (pw i) 1 == pw i) = true := by decide +kernel
  simpa using this i hi
theorem one_mul (a : UInt8) : mul 1 a = a := by rw [mul_comm, mul_one]

/-- What makes 1 with a number: its power of 254, by seven squares. -/
def inv (a : UInt8) : UInt8 :=
  let a1 := mul a a
  let p1 := mul 1 a1
  let a2 := mul a1 a1
  let p2 := mul p1 a2
  let a3 := mul a2 a2
  let p3 := mul p2 a3
  let a4 := mul a3 a3
  let p4 := mul p3 a4
  let a5 := mul a4 a4
  let p5 := mul p4 a5
  let a6 := mul a5 a5
  let p6 := mul p5 a6
  let a7 := mul a6 a6
  mul p6 a7

theorem inv_all : ∀ a < 256, (a == 0 || mul (UInt8.ofNat a) (inv (UInt8.ofNat a)) == 1) = true := by decide +kernel

theorem mul_inv {a : UInt8} (h : a ≠ 0) : mul a (inv a) = 1 := by
  have := inv_all a.toNat a.toNat_lt
  simp only [UInt8.ofNat_toNat, Bool.or_eq_true, beq_iff_eq] at this
  rcases this with h0 | h1
  · exact absurd (UInt8.toNat.inj (by simpa using h0)) h
  · exact h1

theorem inv_zero : inv 0 = 0 := by decide +kernel

theorem inv_mul {a : UInt8} (h : a ≠ 0) : mul (inv a) a = 1 := by rw [mul_comm, mul_inv h]

theorem mul_eq_zero {a b : UInt8} (h : mul a b = 0) : a = 0 ∨ b = 0 := by
  by_cases ha : a = 0
  · exact .inl ha
  · right
    have : mul (inv a) (mul a b) = b := by rw [← mul_assoc, inv_mul ha, one_mul]
    rw [← this, h, mul_zero]

theorem inv_ne {a : UInt8} (h : a ≠ 0) : inv a ≠ 0 := fun e => by
  have := mul_inv h
  rw [e, mul_zero] at this
  exact absurd this (by decide)

theorem mul_cancel {a b c : UInt8} (h : a ≠ 0) (e : mul a b = mul a c) : b = c := by
  have h1 : mul (inv a) (mul a b) = b := by rw [← mul_assoc, inv_mul h, one_mul]
  have h2 : mul (inv a) (mul a c) = c := by rw [← mul_assoc, inv_mul h, one_mul]
  rw [← h1, e, h2]

theorem inv_unique {a b : UInt8} (h : mul a b = 1) : b = inv a := by
  have ha : a ≠ 0 := fun e => by rw [e, zero_mul] at h; exact absurd h (by decide)
  exact mul_cancel ha (by rw [h, mul_inv ha])

end Gf
