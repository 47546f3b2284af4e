/- The field of 256 numbers: its product, by bits, and its laws. -/
namespace Gf

def xt (a : Nat) : Nat := (2 * a) ^^^ ((a / 128) * 0x11d)

def bt (b i : Nat) : Nat := (b >>> i) % 2

def mulN (a b : Nat) : Nat :=
  let a1 := xt a
  let a2 := xt a1
  let a3 := xt a2
  let a4 := xt a3
  let a5 := xt a4
  let a6 := xt a5
  let a7 := xt a6
  (bt b 0 * a) ^^^ (bt b 1 * a1) ^^^ (bt b 2 * a2) ^^^ (bt b 3 * a3) ^^^ (bt b 4 * a4) ^^^ (bt b 5 * a5) ^^^ (bt b 6 * a6) ^^^ (bt b 7 * a7)

theorem bt_lt (b i : Nat) : bt b i = 0 ∨ bt b i = 1 := by unfold bt; omega

theorem bt_xor (a b i : Nat) : bt (a ^^^ b) i = bt a i ^^^ bt b i := by
  unfold bt
  rw [Nat.shiftRight_xor_distrib]
  generalize a >>> i = x
  generalize b >>> i = y
  have h1 : ∀ z, z % 2 = z &&& 1 := fun z => (Nat.and_one_is_mod z).symm
  rw [h1, h1, h1, Nat.and_xor_distrib_right]

theorem bt_mul_xor (a b i c : Nat) : bt (a ^^^ b) i * c = (bt a i * c) ^^^ (bt b i * c) := by
  rw [bt_xor]
  rcases bt_lt a i with h | h <;> rcases bt_lt b i with h' | h' <;> rw [h, h'] <;> simp

theorem mul_bt_xor (a b c i : Nat) : bt c i * (a ^^^ b) = (bt c i * a) ^^^ (bt c i * b) := by
  rcases bt_lt c i with h | h <;> rw [h] <;> simp

theorem xt_xor (a b : Nat) (ha : a < 256) (hb : b < 256) : xt (a ^^^ b) = xt a ^^^ xt b := by
  have h2 : ∀ z, 2 * z = z <<< 1 := fun z => by rw [Nat.shiftLeft_eq]; omega
  have h7 : ∀ z, z / 128 = z >>> 7 := fun z => by rw [Nat.shiftRight_eq_div_pow]
  have hx : a ^^^ b < 2 ^ 8 := Nat.xor_lt_two_pow (by omega) (by omega)
  have hxa : a / 128 = 0 ∨ a / 128 = 1 := by omega
  have hxb : b / 128 = 0 ∨ b / 128 = 1 := by omega
  have e1 : 2 * (a ^^^ b) = (2 * a) ^^^ (2 * b) := by rw [h2, h2, h2, Nat.shiftLeft_xor_distrib]
  have e2 : (a ^^^ b) / 128 = (a / 128) ^^^ (b / 128) := by rw [h7, h7, h7, Nat.shiftRight_xor_distrib]
  unfold xt
  rw [e1, e2]
  rcases hxa with h | h <;> rcases hxb with h' | h' <;> rw [h, h'] <;> simp
  · rw [Nat.xor_assoc]
  · rw [Nat.xor_assoc, Nat.xor_assoc]; congr 1; rw [Nat.xor_comm]
  · rw [show ∀ p q r : Nat, p ^^^ r ^^^ (q ^^^ r) = p ^^^ q ^^^ (r ^^^ r) from fun p q r => by ac_rfl]; simp

theorem xt_lt (a : Nat) (ha : a < 256) : xt a < 256 := by
  have : (∀ a < 256, (decide (xt a < 256)) = true) := by decide +kernel
  simpa using this a ha

theorem xor_lt {a b : Nat} (ha : a < 256) (hb : b < 256) : a ^^^ b < 256 := Nat.xor_lt_two_pow (n := 8) ha hb

theorem bt_mul_lt (b i c : Nat) (hc : c < 256) : bt b i * c < 256 := by
  rcases bt_lt b i with h | h <;> rw [h] <;> omega

theorem mulN_lt (a b : Nat) (ha : a < 256) : mulN a b < 256 := by
  unfold mulN
  have h1 := xt_lt a ha
  have h2 := xt_lt _ h1
  have h3 := xt_lt _ h2
  have h4 := xt_lt _ h3
  have h5 := xt_lt _ h4
  have h6 := xt_lt _ h5
  have h7 := xt_lt _ h6
  simp only []
  repeat' apply xor_lt
  all_goals (apply bt_mul_lt; assumption)

theorem mulN_xor_right (a b c : Nat) : mulN a (b ^^^ c) = mulN a b ^^^ mulN a c := by
  unfold mulN
  simp only [bt_mul_xor]
  ac_rfl

theorem mulN_xor_left (a b c : Nat) (ha : a < 256) (hb : b < 256) : mulN (a ^^^ b) c = mulN a c ^^^ mulN b c := by
  unfold mulN
  have h1 := xt_lt a ha
  have h2 := xt_lt _ h1
  have h3 := xt_lt _ h2
  have h4 := xt_lt _ h3
  have h5 := xt_lt _ h4
  have h6 := xt_lt _ h5
  have g1 := xt_lt b hb
  have g2 := xt_lt _ g1
  have g3 := xt_lt _ g2
  have g4 := xt_lt _ g3
  have g5 := xt_lt _ g4
  have g6 := xt_lt _ g5
  simp only [xt_xor _ _ ha hb, xt_xor _ _ h1 g1, xt_xor _ _ h2 g2, xt_xor _ _ h3 g3, xt_xor _ _ h4 g4, xt_xor _ _ h5 g5, xt_xor _ _ h6 g6, mul_bt_xor]
  ac_rfl

/-- The product. -/
def mul (a b : UInt8) : UInt8 := UInt8.ofNat (mulN a.toNat b.toNat)

theorem toNat_mul (a b : UInt8) : (mul a b).toNat = mulN a.toNat b.toNat := by
  unfold mul
  rw [UInt8.toNat_ofNat']
  exact Nat.mod_eq_of_lt (mulN_lt _ _ a.toNat_lt)

theorem mul_xor (a b c : UInt8) : mul a (b ^^^ c) = mul a b ^^^ mul a c := by
  apply UInt8.toNat.inj
  rw [toNat_mul, UInt8.toNat_xor, UInt8.toNat_xor, toNat_mul, toNat_mul, mulN_xor_right]

theorem xor_mul (a b c : UInt8) : mul (a ^^^ b) c = mul a c ^^^ mul b c := by
  apply UInt8.toNat.inj
  rw [toNat_mul, UInt8.toNat_xor, UInt8.toNat_xor, toNat_mul, toNat_mul, mulN_xor_left _ _ _ a.toNat_lt b.toNat_lt]

/-- Two maps that go with sums and are the same at the powers of two are the same. -/
def Adds (f : UInt8 → UInt8) : Prop := ∀ a b, f (a ^^^ b) = f a ^^^ f b

theorem Adds.zero {f : UInt8 → UInt8} (h : Adds f) : f 0 = 0 := by
  have := h 0 0
  simpa using this

def pw (i : Nat) : UInt8 := UInt8.ofNat (2 ^ i)
def part (a : Nat) (i : Nat) : UInt8 := UInt8.ofNat (bt a i * 2 ^ i)

theorem parts_all : ∀ a < 256, (UInt8.ofNat a == (part a 0 ^^^ part a 1 ^^^ part a 2 ^^^ part a 3 ^^^ part a 4 ^^^ part a 5 ^^^ part a 6 ^^^ part a 7)) = true := by decide +kernel

theorem parts (a : UInt8) : a = part a.toNat 0 ^^^ part a.toNat 1 ^^^ part a.toNat 2 ^^^ part a.toNat 3 ^^^ part a.toNat 4 ^^^ part a.toNat 5 ^^^ part a.toNat 6 ^^^ part a.toNat 7 := by
  have := parts_all a.toNat a.toNat_lt
  simpa using this

theorem Adds.part {f g : UInt8 → UInt8} (hf : Adds f) (hg : Adds g) {i : Nat} (h : f (pw i) = g (pw i)) (a : Nat) : f (Gf.part a i) = g (Gf.part a i) := by
  unfold Gf.part
  rcases bt_lt a i with e | e <;> rw [e]
  · simp [hf.zero, hg.zero]
  · simpa [pw] using h

theorem Adds.ext {f g : UInt8 → UInt8} (hf : Adds f) (hg : Adds g) (h : ∀ i < 8, f (pw i) = g (pw i)) (a : UInt8) : f a = g a := by
  rw [parts a]
  simp only [hf _ _, hg _ _]
  rw [hf.part hg (h 0 (by omega)), hf.part hg (h 1 (by omega)), hf.part hg (h 2 (by omega)), hf.part hg (h 3 (by omega)),
    hf.part hg (h 4 (by omega)), hf.part hg (h 5 (by omega)), hf.part hg (h 6 (by omega)), hf.part hg (h 7 (by omega))]

theorem adds_left (c : UInt8) : Adds (fun a => mul a c) := fun a b => xor_mul a b c
theorem adds_right (c : UInt8) : Adds (fun a => mul c a) := fun a b => mul_xor c a b

theorem comm_pw : ∀ i < 8, ∀ j < 8, (mul (pw i) (pw j) == mul (pw j) (pw i)) = true := by decide +kernel

theorem mul_comm (a b : UInt8) : mul a b = mul b a := by
  refine Adds.ext (adds_left b) (adds_right b) (fun i hi => ?_) a
  refine Adds.ext (adds_right (pw i)) (adds_left (pw i)) (fun j hj => ?_) b
  simpa using comm_pw i hi j hj

theorem assoc_pw : ∀ i < 8, ∀ j < 8, ∀ k < 8, (mul (mul (pw i) (pw j)) (pw k) == mul (pw i) (mul (pw j) (pw k))) = true := by decide +kernel

theorem mul_assoc (a b c : UInt8) : mul (mul a b) c = mul a (mul b c) := by
  refine Adds.ext (f := fun a => mul (mul a b) c) (g := fun a => mul a (mul b c)) (fun x y => by simp only [xor_mul]) (adds_left _) (fun i hi => ?_) a
  refine Adds.ext (f := fun b => mul (mul (pw i) b) c) (g := fun b => mul (pw i) (mul b c)) (fun x y => by simp only [mul_xor, xor_mul]) (fun x y => by simp only [mul_xor, xor_mul]) (fun j hj => ?_) b
  refine Adds.ext (f := fun c => mul (mul (pw i) (pw j)) c) (g := fun c => mul (pw i) (mul (pw j) c)) (adds_right _) (fun x y => by simp only [mul_xor]) (fun k hk => ?_) c
  simpa using assoc_pw i hi j hj k hk

theorem mul_zero (a : UInt8) : mul a 0 = 0 := (adds_right a).zero
theorem zero_mul (a : UInt8) : mul 0 a = 0 := (adds_left a).zero

theorem mul_one (a : UInt8) : mul a 1 = a := by
  refine Adds.ext (f := fun a => mul a 1) (g := fun a => a) (adds_left 1) (fun _ _ => rfl) (fun i hi => ?_) a
  have : ∀ i < 8, (mul (pw i) 1 == pw i) = true := by decide +kernel
  simpa using this i hi
theorem one_mul (a : UInt8) : mul 1 a = a := by rw [mul_comm, mul_one]

/-- What makes 1 with a number: its power of 254, by seven squares. -/
def inv (a : UInt8) : UInt8 :=
  let a1 := mul a a
  let p1 := mul 1 a1
  let a2 := mul a1 a1
  let p2 := mul p1 a2
  let a3 := mul a2 a2
  let p3 := mul p2 a3
  let a4 := mul a3 a3
  let p4 := mul p3 a4
  let a5 := mul a4 a4
  let p5 := mul p4 a5
  let a6 := mul a5 a5
  let p6 := mul p5 a6
  let a7 := mul a6 a6
  mul p6 a7

theorem inv_all : ∀ a < 256, (a == 0 || mul (UInt8.ofNat a) (inv (UInt8.ofNat a)) == 1) = true := by decide +kernel

theorem mul_inv {a : UInt8} (h : a ≠ 0) : mul a (inv a) = 1 := by
  have := inv_all a.toNat a.toNat_lt
  simp only [UInt8.ofNat_toNat, Bool.or_eq_true, beq_iff_eq] at this
  rcases this with h0 | h1
  · exact absurd (UInt8.toNat.inj (by simpa using h0)) h
  · exact h1

theorem inv_zero : inv 0 = 0 := by decide +kernel

theorem inv_mul {a : UInt8} (h : a ≠ 0) : mul (inv a) a = 1 := by rw [mul_comm, mul_inv h]

theorem mul_eq_zero {a b : UInt8} (h : mul a b = 0) : a = 0 ∨ b = 0 := by
  by_cases ha : a = 0
  · exact .inl ha
  · right
    have : mul (inv a) (mul a b) = b := by rw [← mul_assoc, inv_mul ha, one_mul]
    rw [← this, h, mul_zero]

theorem inv_ne {a : UInt8} (h : a ≠ 0) : inv a ≠ 0 := fun e => by
  have := mul_inv h
  rw [e, mul_zero] at this
  exact absurd this (by decide)

theorem mul_cancel {a b c : UInt8} (h : a ≠ 0) (e : mul a b = mul a c) : b = c := by
  have h1 : mul (inv a) (mul a b) = b := by rw [← mul_assoc, inv_mul h, one_mul]
  have h2 : mul (inv a) (mul a c) = c := by rw [← mul_assoc, inv_mul h, one_mul]
  rw [← h1, e, h2]

theorem inv_unique {a b : UInt8} (h : mul a b = 1) : b = inv a := by
  have ha : a ≠ 0 := fun e => by rw [e, zero_mul] at h; exact absurd h (by decide)
  exact mul_cancel ha (by rw [h, mul_inv ha])

end Gf

/- Rows of numbers of the field: what they span, the columns at which something of the span begins, and the count of these: the rank. -/
namespace Lin
open Gf

abbrev F := UInt8
/-- A row: its numbers by their places. -/
abbrev Vec := Nat → F

theorem x_self (a : F) : a ^^^ a = 0 := by simp
theorem x_cancel (a b : F) : a ^^^ (a ^^^ b) = b := by rw [← UInt8.xor_assoc]; simp

/-- What rows span: sums of multiples. (`S i` for the rows i that count.) -/
inductive Sp (S : Vec → Prop) : Vec → Prop
  | zero : Sp S (fun _ => 0)
  | step {v r : Vec} (c : F) (hr : S r) (hv : Sp S v) : Sp S (fun j => mul c (r j) ^^^ v j)

theorem Sp.row {S : Vec → Prop} {r : Vec} (h : S r) : Sp S r := by
  have := Sp.step (1 : F) h Sp.zero
  simpa [one_mul] using this

theorem Sp.add {S : Vec → Prop} {u v : Vec} (hu : Sp S u) (hv : Sp S v) : Sp S (fun j => u j ^^^ v j) := by
  induction hu with
  | zero => simpa using hv
  | step c hr _ ih =>
    have := Sp.step c hr ih
    refine cast (congrArg (Sp S) (funext fun j => ?_)) this
    rw [UInt8.xor_assoc]

theorem Sp.smul {S : Vec → Prop} {v : Vec} (c : F) (hv : Sp S v) : Sp S (fun j => mul c (v j)) := by
  induction hv with
  | zero => simpa [mul_zero] using Sp.zero
  | step d hr _ ih =>
    have := Sp.step (mul c d) hr ih
    refine cast (congrArg (Sp S) (funext fun j => ?_)) this
    rw [mul_xor, mul_assoc]

theorem Sp.mono {S T : Vec → Prop} (h : ∀ r, S r → Sp T r) {v : Vec} (hv : Sp S v) : Sp T v := by
  induction hv with
  | zero => exact .zero
  | step c hr _ ih => exact Sp.add ((h _ hr).smul c) ih

theorem Sp.sub {S T : Vec → Prop} (h : ∀ r, S r → T r) {v : Vec} (hv : Sp S v) : Sp T v := hv.mono fun r hr => .row (h r hr)

/-- A row begins at c: 0 ahead of it, not 0 there. -/
def Lead (v : Vec) (c : Nat) : Prop := (∀ j < c, v j = 0) ∧ v c ≠ 0

theorem Lead.inj {v : Vec} {c d : Nat} (h : Lead v c) (h' : Lead v d) : c = d := by
  rcases Nat.lt_trichotomy c d with h1 | h1 | h1
  · exact absurd (h'.1 c h1) h.2
  · exact h1
  · exact absurd (h.1 d h1) h'.2

/-- Something of the span begins at c. -/
def Led (S : Vec → Prop) (c : Nat) : Prop := ∃ v, Sp S v ∧ Lead v c

open Classical in
/-- The rank, over the first w places. -/
noncomputable def rk (S : Vec → Prop) (w : Nat) : Nat := ((List.range w).filter fun c => decide (Led S c)).length

theorem rk_le (S : Vec → Prop) (w : Nat) : rk S w ≤ w := by
  unfold rk
  have := List.length_filter_le (fun c => @decide (Led S c) (Classical.propDecidable _)) (List.range w)
  simpa using this

theorem filter_length_mono {α : Type} {p q : α → Bool} (h : ∀ a, p a = true → q a = true) (l : List α) : (l.filter p).length ≤ (l.filter q).length := by
  induction l with
  | nil => simp
  | cons a l ih =>
    simp only [List.filter_cons]
    by_cases hp : p a = true
    · simp [hp, h a hp, ih]
    · simp only [hp]
      by_cases hq : q a = true
      · simp [hq]; omega
      · simp [hq]; exact ih

theorem filter_length_lt {α : Type} {p q : α → Bool} (h : ∀ a, p a = true → q a = true) (l : List α) {a : α} (ha : a ∈ l) (hq : q a = true) (hp : p a = false) :
    (l.filter p).length < (l.filter q).length := by
  induction l with
  | nil => simp at ha
  | cons b l ih =>
    simp only [List.filter_cons]
    have hm := filter_length_mono h l
    rcases List.mem_cons.1 ha with rfl | hin
    · simp [hp, hq]; omega
    · have := ih hin
      by_cases hb : p b = true
      · simp [hb, h b hb]; exact this
      · simp only [hb]
        by_cases hq' : q b = true
        · simp [hq']; omega
        · simp [hq']; exact this

theorem Led.mono {S T : Vec → Prop} (h : ∀ r, S r → Sp T r) {c : Nat} (hc : Led S c) : Led T c :=
  let ⟨v, hv, hl⟩ := hc; ⟨v, hv.mono h, hl⟩

theorem rk_mono {S T : Vec → Prop} (h : ∀ r, S r → Sp T r) (w : Nat) : rk S w ≤ rk T w := by
  unfold rk
  exact filter_length_mono (fun c hc => by simpa using Led.mono h (by simpa using hc)) _

theorem rk_eq {S T : Vec → Prop} (h : ∀ r, S r → Sp T r) (h' : ∀ r, T r → Sp S r) (w : Nat) : rk S w = rk T w :=
  Nat.le_antisymm (rk_mono h w) (rk_mono h' w)

/-- A row with nothing in the first w places and beyond is none; the others begin somewhere. -/
theorem lead_or_zero (v : Vec) (w : Nat) : (∀ j < w, v j = 0) ∨ ∃ c < w, Lead v c := by
  induction w with
  | zero => left; intro j hj; omega
  | succ w ih =>
    rcases ih with h | ⟨c, hc, hl⟩
    · by_cases hw : v w = 0
      · left; intro j hj
        rcases Nat.lt_succ_iff_lt_or_eq.1 hj with h1 | h1
        · exact h j h1
        · rw [h1, hw]
      · right; exact ⟨w, by omega, h, hw⟩
    · right; exact ⟨c, by omega, hl⟩

/-- If T's span begins nowhere but where S's does, and S lies within it, then each of T's span is one of S's, in the first w places. -/
theorem span_of_leads {S T : Vec → Prop} (h : ∀ r, S r → Sp T r) (w : Nat) (hl : ∀ c < w, Led T c → Led S c) :
    ∀ (n : Nat) (v : Vec), Sp T v → (∀ j, j + n < w → v j = 0) → ∃ u, Sp S u ∧ ∀ j < w, u j = v j := by
  intro n
  induction n with
  | zero => intro v _ hv; exact ⟨fun _ => 0, .zero, fun j hj => (hv j (by omega)).symm⟩
  | succ n ih =>
    intro v hv hz
    by_cases hw : w ≤ n
    · exact ih v hv (fun j hj => by omega)
    · have hlt : w - (n + 1) < w := by omega
      by_cases h0 : v (w - (n + 1)) = 0
      · refine ih v hv (fun j hj => ?_)
        by_cases hj' : j + (n + 1) < w
        · exact hz j hj'
        · have : j = w - (n + 1) := by omega
          rw [this, h0]
      · obtain ⟨u, hu, hul⟩ := hl _ hlt ⟨v, hv, fun j hj => hz j (by omega), h0⟩
        have hc : mul (mul (v (w - (n + 1))) (inv (u (w - (n + 1))))) (u (w - (n + 1))) = v (w - (n + 1)) := by
          rw [mul_assoc, inv_mul hul.2, mul_one]
        generalize hk : mul (v (w - (n + 1))) (inv (u (w - (n + 1)))) = k at hc
        obtain ⟨x, hx, hxe⟩ := ih (fun j => mul k (u j) ^^^ v j) ((hu.mono h).smul k |>.add hv) (fun j hj => by
          by_cases hj' : j + (n + 1) < w
          · show mul k (u j) ^^^ v j = 0
            rw [hul.1 j (by omega), hz j hj', mul_zero]; rfl
          · have : j = w - (n + 1) := by omega
            subst this
            show mul k _ ^^^ _ = 0
            rw [hc]; simp)
        refine ⟨fun j => mul k (u j) ^^^ x j, (hu.smul k).add hx, fun j hj => ?_⟩
        show mul k (u j) ^^^ x j = v j
        rw [hxe j hj, x_cancel]

theorem filter_eq_of_length {α : Type} {p q : α → Bool} (h : ∀ a, p a = true → q a = true) (l : List α) (hlen : (l.filter p).length = (l.filter q).length) {a : α} (ha : a ∈ l) (hq : q a = true) : p a = true := by
  by_cases hp : p a = true
  · exact hp
  · have := filter_length_lt h l ha hq (by simpa using hp)
    omega

/-- Of the same rank, one within the other: they span the same in the first w places. -/
theorem span_of_rk {S T : Vec → Prop} (h : ∀ r, S r → Sp T r) (w : Nat) (hr : rk S w = rk T w) {v : Vec} (hv : Sp T v) : ∃ u, Sp S u ∧ ∀ j < w, u j = v j := by
  refine span_of_leads h w (fun c hc hT => ?_) w v hv (fun j hj => by omega)
  unfold rk at hr
  have := @filter_eq_of_length Nat (fun c => @decide (Led S c) (Classical.propDecidable _)) (fun c => @decide (Led T c) (Classical.propDecidable _))
    (fun c hc => by simpa using Led.mono h (by simpa using hc)) (List.range w) hr c (by simpa using hc) (by simpa using hT)
  simpa using this

end Lin

/- Rows in the form of steps, and how many there are: the rank. -/
namespace Lin
open Gf

abbrev Mat := Nat → Nat → F

/-- The rows k to n - 1. -/
def RowsFrom (k n : Nat) (M : Mat) : Vec → Prop := fun r => ∃ i, k ≤ i ∧ i < n ∧ r = M i
abbrev Rows (n : Nat) (M : Mat) : Vec → Prop := RowsFrom 0 n M

theorem Rows.mk {n : Nat} {M : Mat} {i : Nat} (h : i < n) : Rows n M (M i) := ⟨i, Nat.zero_le _, h, rfl⟩

theorem sp_rowsFrom {k n : Nat} {M : Mat} {v : Vec} (h : Sp (RowsFrom k n M) v) :
    ∃ (x : F) (u : Vec), Sp (RowsFrom (k + 1) n M) u ∧ v = fun j => mul x (M k j) ^^^ u j := by
  induction h with
  | zero => exact ⟨0, fun _ => 0, .zero, by funext j; simp [zero_mul]⟩
  | step c hr _ ih =>
    obtain ⟨x, u, hu, rfl⟩ := ih
    obtain ⟨i, hi, hin, rfl⟩ := hr
    by_cases hk : i = k
    · subst hk
      refine ⟨c ^^^ x, u, hu, funext fun j => ?_⟩
      show mul c (M i j) ^^^ (mul x (M i j) ^^^ u j) = mul (c ^^^ x) (M i j) ^^^ u j
      rw [xor_mul, UInt8.xor_assoc]
    · refine ⟨x, _, Sp.step c ⟨i, by omega, hin, rfl⟩ hu, funext fun j => ?_⟩
      show mul c (M i j) ^^^ (mul x (M k j) ^^^ u j) = mul x (M k j) ^^^ (mul c (M i j) ^^^ u j)
      ac_rfl

structure Ech (n : Nat) (M : Mat) (c : Nat) (piv : List Nat) : Prop where
  le : piv.length ≤ n
  lead : ∀ i (h : i < piv.length), Lead (M i) piv[i] ∧ piv[i] < c
  mono : piv.Pairwise (· < ·)
  rest : ∀ i, piv.length ≤ i → i < n → ∀ j < c, M i j = 0

theorem Ech.start (n : Nat) (M : Mat) : Ech n M 0 [] :=
  ⟨Nat.zero_le _, fun i h => absurd h (by simp), List.Pairwise.nil, fun i _ _ j hj => absurd hj (by omega)⟩

theorem zero_of_rows {k n : Nat} {M : Mat} {c : Nat} (h : ∀ i, k ≤ i → i < n → ∀ j < c, M i j = 0) {v : Vec} (hv : Sp (RowsFrom k n M) v) : ∀ j < c, v j = 0 := by
  induction hv with
  | zero => intro j _; rfl
  | step x hr _ ih =>
    intro j hj
    obtain ⟨i, hi, hin, rfl⟩ := hr
    show mul x (M i j) ^^^ _ = 0
    rw [h i hi hin j hj, ih j hj, mul_zero]; rfl

theorem Ech.leads {n : Nat} {M : Mat} {c : Nat} {piv : List Nat} (h : Ech n M c piv) :
    ∀ (m k : Nat), k + m = piv.length → ∀ v, Sp (RowsFrom k n M) v → (∀ j < c, v j = 0) ∨ ∃ i, ∃ hi : i < piv.length, k ≤ i ∧ Lead v piv[i] := by
  intro m
  induction m with
  | zero =>
    intro k hk v hv
    exact .inl (zero_of_rows (fun i hi hin j hj => h.rest i (by omega) hin j hj) hv)
  | succ m ih =>
    intro k hk v hv
    obtain ⟨x, u, hu, rfl⟩ := sp_rowsFrom hv
    have hkl : k < piv.length := by omega
    obtain ⟨hl, hc⟩ := h.lead k hkl
    have hz : ∀ j ≤ piv[k], u j = 0 := by
      intro j hj
      refine zero_of_rows (k := k + 1) (n := n) (M := M) (c := piv[k] + 1) (fun i hi hin j hj => ?_) hu j (by omega)
      by_cases hip : i < piv.length
      · have hlt := List.pairwise_iff_getElem.1 h.mono k i hkl hip (by omega)
        exact (h.lead i hip).1.1 j (by omega)
      · exact h.rest i (by omega) hin j (by omega)
    by_cases hx : x = 0
    · subst hx
      have e : (fun j => mul 0 (M k j) ^^^ u j) = u := by funext j; simp [zero_mul]
      rw [e]
      rcases ih (k + 1) (by omega) u hu with h1 | ⟨i, hi, hki, hl'⟩
      · exact .inl h1
      · exact .inr ⟨i, hi, by omega, hl'⟩
    · right
      refine ⟨k, hkl, Nat.le_refl _, fun j hj => ?_, fun e => ?_⟩
      · show mul x (M k j) ^^^ u j = 0
        rw [hl.1 j hj, hz j (by omega), mul_zero]; rfl
      · have e' : mul x (M k piv[k]) ^^^ u piv[k] = 0 := e
        rw [hz _ (Nat.le_refl _)] at e'
        rcases mul_eq_zero (show mul x (M k piv[k]) = 0 by simpa using e') with h0 | h0
        · exact hx h0
        · exact hl.2 h0

theorem Ech.lead_lt {n : Nat} {M : Mat} {c : Nat} {piv : List Nat} (h : Ech n M c piv) {v : Vec} (hv : Sp (Rows n M) v) : (∀ j < c, v j = 0) ∨ ∃ d < c, Lead v d := by
  rcases h.leads piv.length 0 (by omega) v hv with h1 | ⟨i, hi, _, hl⟩
  · exact .inl h1
  · exact .inr ⟨_, (h.lead i hi).2, hl⟩

/-- No row left has anything at c: nothing begins there. -/
theorem Ech.none {n : Nat} {M : Mat} {c : Nat} {piv : List Nat} (h : Ech n M c piv) (hz : ∀ i, piv.length ≤ i → i < n → M i c = 0) :
    Ech n M (c + 1) piv ∧ ¬ Led (Rows n M) c := by
  have h' : Ech n M (c + 1) piv := by
    refine ⟨h.le, fun i hi => ⟨(h.lead i hi).1, by have := (h.lead i hi).2; omega⟩, h.mono, fun i hi hin j hj => ?_⟩
    rcases Nat.lt_succ_iff_lt_or_eq.1 hj with h1 | h1
    · exact h.rest i hi hin j h1
    · rw [h1]; exact hz i hi hin
  refine ⟨h', fun ⟨v, hv, hl⟩ => ?_⟩
  rcases h'.leads piv.length 0 (by omega) v hv with h1 | ⟨i, hi, _, hl'⟩
  · exact hl.2 (h1 c (by omega))
  · have := (h.lead i hi).2
    have := hl.inj hl'
    omega

/-- A pivot was found at c, and taken away below. -/
theorem Ech.some {n : Nat} {M M' : Mat} {c : Nat} {piv : List Nat} (h : Ech n M c piv) (hp : piv.length < n)
    (hup : ∀ i < piv.length, ∀ j < c, M' i j = M i j) (hl : Lead (M' piv.length) c)
    (hlow : ∀ i, piv.length < i → i < n → ∀ j ≤ c, M' i j = 0) : Ech n M' (c + 1) (piv ++ [c]) := by
  have hlen : (piv ++ [c]).length = piv.length + 1 := by simp
  refine ⟨by omega, fun i hi => ?_, ?_, fun i hi hin j hj => hlow i (by omega) hin j (by omega)⟩
  · by_cases hip : i < piv.length
    · have he : (piv ++ [c])[i] = piv[i] := List.getElem_append_left hip
      rw [he]
      obtain ⟨⟨h1, h2⟩, h3⟩ := h.lead i hip
      refine ⟨⟨fun j hj => by rw [hup i hip j (by omega)]; exact h1 j hj, by rw [hup i hip _ h3]; exact h2⟩, by omega⟩
    · have hi' : i = piv.length := by omega
      subst hi'
      have he : (piv ++ [c])[piv.length] = c := by simp
      rw [he]
      exact ⟨hl, by omega⟩
  · rw [List.pairwise_append]
    refine ⟨h.mono, List.pairwise_singleton _ _, fun a ha b hb => ?_⟩
    obtain ⟨i, hi, rfl⟩ := List.getElem_of_mem ha
    rw [List.mem_singleton.1 hb]
    exact (h.lead i hi).2

open Classical in
theorem rk_succ (S : Vec → Prop) (w : Nat) : rk S (w + 1) = rk S w + if Led S w then 1 else 0 := by
  unfold rk
  rw [List.range_succ, List.filter_append]
  by_cases h : Led S w <;> simp [h]

theorem rk_succ_of {S : Vec → Prop} {w : Nat} (h : Led S w) : rk S (w + 1) = rk S w + 1 := by rw [rk_succ, if_pos h]
theorem rk_succ_not {S : Vec → Prop} {w : Nat} (h : ¬ Led S w) : rk S (w + 1) = rk S w := by rw [rk_succ, if_neg h]; omega

theorem rk_zero (S : Vec → Prop) : rk S 0 = 0 := by simp [rk]

/-- Two matrices of n rows that span the same. -/
def Same (n : Nat) (M N : Mat) : Prop := (∀ i < n, Sp (Rows n N) (M i)) ∧ (∀ i < n, Sp (Rows n M) (N i))

theorem Same.refl (n : Nat) (M : Mat) : Same n M M := ⟨fun _ h => .row (Rows.mk h), fun _ h => .row (Rows.mk h)⟩
theorem Same.fwd {n : Nat} {M N : Mat} (h : Same n M N) {v : Vec} (hv : Sp (Rows n M) v) : Sp (Rows n N) v :=
  hv.mono fun _ ⟨i, _, hi, e⟩ => e ▸ h.1 i hi
theorem Same.bwd {n : Nat} {M N : Mat} (h : Same n M N) {v : Vec} (hv : Sp (Rows n N) v) : Sp (Rows n M) v :=
  hv.mono fun _ ⟨i, _, hi, e⟩ => e ▸ h.2 i hi
theorem Same.trans {n : Nat} {M N K : Mat} (h : Same n M N) (h' : Same n N K) : Same n M K :=
  ⟨fun i hi => h'.fwd (h.1 i hi), fun i hi => h.bwd (h'.2 i hi)⟩
theorem Same.symm {n : Nat} {M N : Mat} (h : Same n M N) : Same n N M := ⟨h.2, h.1⟩
theorem Same.led {n : Nat} {M N : Mat} (h : Same n M N) (c : Nat) : Led (Rows n M) c ↔ Led (Rows n N) c :=
  ⟨fun ⟨v, hv, hl⟩ => ⟨v, h.fwd hv, hl⟩, fun ⟨v, hv, hl⟩ => ⟨v, h.bwd hv, hl⟩⟩

/-! ### The operations on rows -/

def swap (M : Mat) (i p : Nat) : Mat := fun r => if r = i then M p else if r = p then M i else M r
def scale (M : Mat) (p : Nat) (c : F) : Mat := fun r => if r = p then fun j => mul c (M p j) else M r
/-- To each row r below n, but p, k r times row p is added. -/
def elim (M : Mat) (n p : Nat) (k : Nat → F) : Mat := fun r => if r ≠ p ∧ r < n then fun j => M r j ^^^ mul (k r) (M p j) else M r

theorem same_swap {n : Nat} (M : Mat) {i p : Nat} (hi : i < n) (hp : p < n) : Same n M (swap M i p) := by
  constructor
  · intro r hr
    by_cases h1 : r = i
    · subst h1
      refine .row ⟨p, Nat.zero_le _, hp, ?_⟩
      unfold swap
      by_cases h2 : p = r
      · simp [h2]
      · simp [h2]
    · by_cases h2 : r = p
      · subst h2
        refine .row ⟨i, Nat.zero_le _, hi, ?_⟩
        simp [swap]
      · refine .row ⟨r, Nat.zero_le _, hr, ?_⟩
        simp [swap, h1, h2]
  · intro r hr
    unfold swap
    split
    · exact .row (Rows.mk hp)
    · split
      · exact .row (Rows.mk hi)
      · exact .row (Rows.mk hr)

theorem same_scale {n : Nat} (M : Mat) {p : Nat} {c : F} (hp : p < n) (hc : c ≠ 0) : Same n M (scale M p c) := by
  constructor
  · intro r hr
    by_cases h : r = p
    · subst h
      have hrow : Sp (Rows n (scale M r c)) (scale M r c r) := .row (Rows.mk hr)
      have := hrow.smul (inv c)
      refine cast (congrArg (Sp _) (funext fun j => ?_)) this
      show mul (inv c) (scale M r c r j) = M r j
      simp only [scale, if_true]
      rw [← mul_assoc, inv_mul hc, one_mul]
    · refine .row ⟨r, Nat.zero_le _, hr, ?_⟩
      simp [scale, h]
  · intro r hr
    unfold scale
    split
    · exact (Sp.row (Rows.mk hp)).smul c
    · exact .row (Rows.mk hr)

theorem same_elim {n : Nat} (M : Mat) {p : Nat} (k : Nat → F) (hp : p < n) : Same n M (elim M n p k) := by
  have hpp : elim M n p k p = M p := by simp [elim]
  constructor
  · intro r hr
    have hrow : Sp (Rows n (elim M n p k)) (elim M n p k r) := .row (Rows.mk hr)
    have hprow : Sp (Rows n (elim M n p k)) (M p) := hpp ▸ .row (Rows.mk hp)
    by_cases h : r = p
    · subst h; rw [hpp] at hrow; exact hrow
    · have := hrow.add (hprow.smul (k r))
      refine cast (congrArg (Sp _) (funext fun j => ?_)) this
      simp only [elim, if_pos (show r ≠ p ∧ r < n from ⟨h, hr⟩)]
      rw [UInt8.xor_assoc]; simp
  · intro r hr
    unfold elim
    split
    · exact (Sp.row (Rows.mk hr)).add ((Sp.row (Rows.mk hp)).smul (k r))
    · exact .row (Rows.mk hr)

end Lin

/- The program's way to the rank (each pivot alone in its column), and the reference's (away below alone): both come to the rank. -/
namespace Lin
open Gf

/-- The first i from p on, below n, at which q holds. -/
def firstFrom (q : Nat → Bool) (p : Nat) : Nat → Option Nat
  | 0 => none
  | m + 1 => if q p then some p else firstFrom q (p + 1) m

theorem firstFrom_some {q : Nat → Bool} {p m i : Nat} (h : firstFrom q p m = some i) : p ≤ i ∧ i < p + m ∧ q i = true ∧ ∀ k, p ≤ k → k < i → q k = false := by
  induction m generalizing p with
  | zero => simp [firstFrom] at h
  | succ m ih =>
    simp only [firstFrom] at h
    by_cases hq : q p = true
    · simp [hq] at h; subst h
      exact ⟨Nat.le_refl _, by omega, hq, fun k h1 h2 => by omega⟩
    · simp only [hq] at h
      obtain ⟨h1, h2, h3, h4⟩ := ih (by simpa using h)
      refine ⟨by omega, by omega, h3, fun k hk hk' => ?_⟩
      by_cases e : k = p
      · subst e; simpa using hq
      · exact h4 k (by omega) hk'

theorem firstFrom_none {q : Nat → Bool} {p m : Nat} (h : firstFrom q p m = none) : ∀ k, p ≤ k → k < p + m → q k = false := by
  induction m generalizing p with
  | zero => intro k h1 h2; omega
  | succ m ih =>
    simp only [firstFrom] at h
    by_cases hq : q p = true
    · simp [hq] at h
    · simp only [hq] at h
      intro k h1 h2
      by_cases e : k = p
      · subst e; simpa using hq
      · exact ih (by simpa using h) k (by omega) (by omega)

/-- One column of the program's way. -/
def redStep (n c : Nat) (s : Mat × List Nat) : Mat × List Nat :=
  match firstFrom (fun i => s.1 i c != 0) s.2.length (n - s.2.length) with
  | none => s
  | some i =>
    let p := s.2.length
    let M1 := swap s.1 i p
    let M2 := scale M1 p (inv (M1 p c))
    (elim M2 n p (fun r => M2 r c), s.2 ++ [c])

def reduce (n : Nat) (M : Mat) : Nat → Mat × List Nat
  | 0 => (M, [])
  | c + 1 => redStep n c (reduce n M c)

/-- What the program's way comes to. -/
structure Reduced (n : Nat) (M0 : Mat) (c : Nat) (s : Mat × List Nat) : Prop where
  ech : Ech n s.1 c s.2
  same : Same n M0 s.1
  rank : s.2.length = rk (Rows n M0) c
  alone : ∀ i (h : i < s.2.length), ∀ r < n, s.1 r s.2[i] = if r = i then 1 else 0

theorem Reduced.step {n : Nat} {M0 : Mat} {c : Nat} {s : Mat × List Nat} (h : Reduced n M0 c s) : Reduced n M0 (c + 1) (redStep n c s) := by
  obtain ⟨M, piv⟩ := s
  obtain ⟨hech, hsame, hrank, halone⟩ := h
  simp only at hech hsame hrank halone
  unfold redStep
  simp only
  generalize hf : firstFrom (fun i => M i c != 0) piv.length (n - piv.length) = f
  have hle := hech.le
  cases f with
  | none =>
    have hz := firstFrom_none hf
    obtain ⟨h1, h2⟩ := hech.none (fun i h1 h2 => by simpa using hz i h1 (by omega))
    refine ⟨h1, hsame, ?_, halone⟩
    show piv.length = _
    rw [rk_succ_not (fun hl => h2 ((hsame.led c).1 hl)), hrank]
  | some i =>
    obtain ⟨h1, h2, h3, _⟩ := firstFrom_some hf
    have hin : i < n := by omega
    have hpn : piv.length < n := by omega
    have hic : M i c ≠ 0 := by simpa using h3
    simp only
    generalize hM1 : swap M i piv.length = M1
    have e1p : M1 piv.length = M i := by
      subst hM1; unfold swap
      by_cases e : piv.length = i
      · simp [e]
      · simp [e]
    have e1up : ∀ r < piv.length, M1 r = M r := by
      intro r hr; subst hM1; unfold swap
      simp [show r ≠ i by omega, show r ≠ piv.length by omega]
    have e1low : ∀ r, piv.length < r → r < n → ∀ j < c, M1 r j = 0 := by
      intro r hr hrn j hj; subst hM1; unfold swap
      by_cases e : r = i
      · simp [e]; exact hech.rest _ (Nat.le_refl _) hpn j hj
      · simp [e, show r ≠ piv.length by omega]; exact hech.rest _ (by omega) hrn j hj
    have hs1 : Same n M0 M1 := hsame.trans (hM1 ▸ same_swap M hin hpn)
    generalize hk : inv (M1 piv.length c) = k
    have hkc : mul k (M i c) = 1 := by rw [← hk, e1p]; exact inv_mul hic
    have hk0 : k ≠ 0 := fun e => by rw [e, zero_mul] at hkc; exact absurd hkc (by decide)
    generalize hM2 : scale M1 piv.length k = M2
    have e2p : ∀ j, M2 piv.length j = mul k (M i j) := by intro j; subst hM2; simp [scale, e1p]
    have e2o : ∀ r, r ≠ piv.length → M2 r = M1 r := by intro r hr; subst hM2; simp [scale, hr]
    have hs2 : Same n M0 M2 := hs1.trans (hM2 ▸ same_scale M1 hpn hk0)
    generalize hM3 : elim M2 n piv.length (fun r => M2 r c) = M3
    have e3p : M3 piv.length = M2 piv.length := by subst hM3; simp [elim]
    have e3o : ∀ r, r ≠ piv.length → r < n → ∀ j, M3 r j = M2 r j ^^^ mul (M2 r c) (M2 piv.length j) := by
      intro r hr hrn j; subst hM3; simp [elim, hr, hrn]
    have hs3 : Same n M0 M3 := hs2.trans (hM3 ▸ same_elim M2 _ hpn)
    have hp0 : ∀ j < c, M2 piv.length j = 0 := by
      intro j hj; rw [e2p, hech.rest i h1 hin j hj, mul_zero]
    have hpc : M2 piv.length c = 1 := by rw [e2p, hkc]
    have hech3 : Ech n M3 (c + 1) (piv ++ [c]) := by
      refine hech.some hpn (fun r hr j hj => ?_) ⟨fun j hj => ?_, ?_⟩ (fun r hr hrn j hj => ?_)
      · rw [e3o r (by omega) (by omega), hp0 j hj, mul_zero, e2o r (by omega), e1up r hr]; simp
      · rw [e3p, hp0 j hj]
      · rw [e3p, hpc]; decide
      · rw [e3o r (by omega) hrn]
        by_cases e : j = c
        · subst e; rw [hpc, mul_one]; simp
        · rw [hp0 j (by omega), mul_zero, e2o r (by omega), e1low r hr hrn j (by omega)]; rfl
    have hled : Led (Rows n M0) c := ⟨M3 piv.length, hs3.bwd (.row (Rows.mk hpn)), fun j hj => by rw [e3p, hp0 j hj], by rw [e3p, hpc]; decide⟩
    refine ⟨hech3, hs3, ?_, fun x hx r hr => ?_⟩
    · show (piv ++ [c]).length = _
      rw [rk_succ_of hled, List.length_append, ← hrank]; rfl
    · show M3 r (piv ++ [c])[x] = _
      by_cases hxp : x < piv.length
      · have he : (piv ++ [c])[x] = piv[x] := List.getElem_append_left hxp
        rw [he]
        have hlt := (hech.lead x hxp).2
        by_cases e : r = piv.length
        · subst e
          rw [e3p, hp0 _ hlt, if_neg (by omega)]
        · rw [e3o r e hr, hp0 _ hlt, mul_zero, e2o r e]
          have : M1 r piv[x] = if r = x then 1 else 0 := by
            subst hM1; unfold swap
            by_cases e' : r = i
            · subst e'
              simp only [if_true]
              rw [halone x hxp _ hpn, if_neg (by omega), if_neg (by omega)]
            · simp only [e', e, if_false]
              exact halone x hxp r hr
          rw [this]; simp
      · have hx' : x = piv.length := by
          have : x < (piv ++ [c]).length := hx
          simp at this; omega
        subst hx'
        have he : (piv ++ [c])[piv.length] = c := by simp
        rw [he]
        by_cases e : r = piv.length
        · subst e; rw [e3p, hpc, if_pos rfl]
        · rw [e3o r e hr, hpc, mul_one, if_neg e]; simp

theorem reduced (n : Nat) (M : Mat) (c : Nat) : Reduced n M c (reduce n M c) := by
  induction c with
  | zero => exact ⟨Ech.start n M, Same.refl n M, by simp [reduce, rk_zero], fun i h => absurd h (by simp [reduce])⟩
  | succ c ih => exact ih.step

/-- THE PROGRAM's RANK. -/
theorem reduce_rank (n : Nat) (M : Mat) (w : Nat) : (reduce n M w).2.length = rk (Rows n M) w := (reduced n M w).rank

/-! ### The reference -/

/-- The last i from p on, below n, at which q holds. -/
def lastFrom (q : Nat → Bool) (p : Nat) : Nat → Option Nat
  | 0 => none
  | m + 1 => if q (p + m) then some (p + m) else lastFrom q p m

theorem lastFrom_some {q : Nat → Bool} {p m i : Nat} (h : lastFrom q p m = some i) : p ≤ i ∧ i < p + m ∧ q i = true := by
  induction m with
  | zero => simp [lastFrom] at h
  | succ m ih =>
    simp only [lastFrom] at h
    by_cases hq : q (p + m) = true
    · simp [hq] at h; subst h; exact ⟨by omega, by omega, hq⟩
    · simp only [hq] at h
      obtain ⟨h1, h2, h3⟩ := ih (by simpa using h)
      exact ⟨h1, by omega, h3⟩

theorem lastFrom_none {q : Nat → Bool} {p m : Nat} (h : lastFrom q p m = none) : ∀ k, p ≤ k → k < p + m → q k = false := by
  induction m with
  | zero => intro k h1 h2; omega
  | succ m ih =>
    simp only [lastFrom] at h
    by_cases hq : q (p + m) = true
    · simp [hq] at h
    · simp only [hq] at h
      intro k h1 h2
      by_cases e : k = p + m
      · subst e; simpa using hq
      · exact ih (by simpa using h) k h1 (by omega)

/-- To each row r from p + 1 on, below n, its k times row p. -/
def below (M : Mat) (n p : Nat) (k : Nat → F) : Mat := fun r => if p < r ∧ r < n then fun j => M r j ^^^ mul (k r) (M p j) else M r

theorem below_eq (M : Mat) (n p : Nat) (k : Nat → F) : below M n p k = elim M n p (fun r => if p < r then k r else 0) := by
  funext r j
  unfold below elim
  by_cases h1 : p < r ∧ r < n
  · rw [if_pos h1, if_pos ⟨by omega, h1.2⟩]
    simp only [if_pos h1.1]
  · rw [if_neg h1]
    by_cases h2 : r ≠ p ∧ r < n
    · rw [if_pos h2]
      simp only [if_neg (show ¬ p < r by omega), zero_mul]; simp
    · rw [if_neg h2]

def refStep (n c : Nat) (s : Mat × Nat) : Mat × Nat :=
  match lastFrom (fun i => s.1 i c != 0) s.2 (n - s.2) with
  | none => s
  | some i =>
    let M1 := swap s.1 i s.2
    (below M1 n s.2 (fun r => mul (M1 r c) (inv (M1 s.2 c))), s.2 + 1)

def refReduce (n : Nat) (M : Mat) : Nat → Mat × Nat
  | 0 => (M, 0)
  | c + 1 => refStep n c (refReduce n M c)

structure RefReduced (n : Nat) (M0 : Mat) (c : Nat) (s : Mat × Nat) : Prop where
  ech : ∃ piv : List Nat, piv.length = s.2 ∧ Ech n s.1 c piv
  same : Same n M0 s.1
  rank : s.2 = rk (Rows n M0) c

theorem RefReduced.step {n : Nat} {M0 : Mat} {c : Nat} {s : Mat × Nat} (h : RefReduced n M0 c s) : RefReduced n M0 (c + 1) (refStep n c s) := by
  obtain ⟨M, p⟩ := s
  obtain ⟨⟨piv, hpl, hech⟩, hsame, hrank⟩ := h
  simp only at hech hsame hrank hpl
  subst hpl
  unfold refStep
  simp only
  generalize hf : lastFrom (fun i => M i c != 0) piv.length (n - piv.length) = f
  have hle := hech.le
  cases f with
  | none =>
    have hz := lastFrom_none hf
    obtain ⟨h1, h2⟩ := hech.none (fun i h1 h2 => by simpa using hz i h1 (by omega))
    refine ⟨⟨piv, rfl, h1⟩, hsame, ?_⟩
    show piv.length = _
    rw [rk_succ_not (fun hl => h2 ((hsame.led c).1 hl)), hrank]
  | some i =>
    obtain ⟨h1, h2, h3⟩ := lastFrom_some hf
    have hin : i < n := by omega
    have hpn : piv.length < n := by omega
    have hic : M i c ≠ 0 := by simpa using h3
    simp only
    generalize hM1 : swap M i piv.length = M1
    have e1p : M1 piv.length = M i := by
      subst hM1; unfold swap
      by_cases e : piv.length = i
      · simp [e]
      · simp [e]
    have e1up : ∀ r < piv.length, M1 r = M r := by
      intro r hr; subst hM1; unfold swap
      simp [show r ≠ i by omega, show r ≠ piv.length by omega]
    have e1low : ∀ r, piv.length < r → r < n → ∀ j < c, M1 r j = 0 := by
      intro r hr hrn j hj; subst hM1; unfold swap
      by_cases e : r = i
      · simp [e]; exact hech.rest _ (Nat.le_refl _) hpn j hj
      · simp [e, show r ≠ piv.length by omega]; exact hech.rest _ (by omega) hrn j hj
    have hs1 : Same n M0 M1 := hsame.trans (hM1 ▸ same_swap M hin hpn)
    rw [below_eq]
    generalize hM3 : elim M1 n piv.length _ = M3
    have e3p : M3 piv.length = M1 piv.length := by subst hM3; simp [elim]
    have e3up : ∀ r, r < piv.length → r < n → ∀ j, M3 r j = M1 r j := by
      intro r hr hrn j; subst hM3
      simp [elim, show r ≠ piv.length by omega, hrn, show ¬ piv.length < r by omega, zero_mul]
    have e3low : ∀ r, piv.length < r → r < n → ∀ j, M3 r j = M1 r j ^^^ mul (mul (M1 r c) (inv (M1 piv.length c))) (M1 piv.length j) := by
      intro r hr hrn j; subst hM3
      simp [elim, show r ≠ piv.length by omega, hrn, hr]
    have hs3 : Same n M0 M3 := hs1.trans (hM3 ▸ same_elim M1 _ hpn)
    have hp0 : ∀ j < c, M1 piv.length j = 0 := by
      intro j hj; rw [e1p]; exact hech.rest i h1 hin j hj
    have hpc : M1 piv.length c ≠ 0 := by rw [e1p]; exact hic
    have hech3 : Ech n M3 (c + 1) (piv ++ [c]) := by
      refine hech.some hpn (fun r hr j hj => ?_) ⟨fun j hj => ?_, ?_⟩ (fun r hr hrn j hj => ?_)
      · rw [e3up r hr (by omega), e1up r hr]
      · rw [e3p, hp0 j hj]
      · rw [e3p]; exact hpc
      · rw [e3low r hr hrn]
        by_cases e : j = c
        · subst e; rw [mul_assoc, inv_mul hpc, mul_one]; simp
        · rw [hp0 j (by omega), mul_zero, e1low r hr hrn j (by omega)]; rfl
    have hled : Led (Rows n M0) c := ⟨M3 piv.length, hs3.bwd (.row (Rows.mk hpn)), fun j hj => by rw [e3p, hp0 j hj], by rw [e3p]; exact hpc⟩
    refine ⟨⟨piv ++ [c], by simp, hech3⟩, hs3, ?_⟩
    show piv.length + 1 = _
    rw [rk_succ_of hled, ← hrank]

theorem refReduced (n : Nat) (M : Mat) (c : Nat) : RefReduced n M c (refReduce n M c) := by
  induction c with
  | zero => exact ⟨⟨[], rfl, Ech.start n M⟩, Same.refl n M, by simp [refReduce, rk_zero]⟩
  | succ c ih => exact ih.step

/-- THE REFERENCE's RANK. -/
theorem refReduce_rank (n : Nat) (M : Mat) (w : Nat) : (refReduce n M w).2 = rk (Rows n M) w := (refReduced n M w).rank

end Lin

/- Sums of x / (a + y): nought at as many points as there are poles only if all the x are nought. And: of too small a rank, all rows are orthogonal to something. -/
namespace Lin
open Gf

def cs (P : List F) (x : F → F) (y : F) : F := P.foldr (fun a s => mul (x a) (inv (a ^^^ y)) ^^^ s) 0
def sm (P : List F) (x : F → F) : F := P.foldr (fun a s => x a ^^^ s) 0

theorem xne {a b : F} (h : a ≠ b) : a ^^^ b ≠ 0 := fun e => h (by
  have : a ^^^ (a ^^^ b) = a := by rw [e]; simp
  rw [x_cancel] at this
  exact this.symm)

theorem inv_sub {a y z : F} (hy : a ≠ y) (hz : a ≠ z) : inv (a ^^^ y) ^^^ inv (a ^^^ z) = mul (z ^^^ y) (mul (inv (a ^^^ z)) (inv (a ^^^ y))) := by
  have e : z ^^^ y = (a ^^^ y) ^^^ (a ^^^ z) := by
    rw [show (a ^^^ y) ^^^ (a ^^^ z) = (a ^^^ a) ^^^ (z ^^^ y) by ac_rfl]; simp
  rw [e, xor_mul]
  rw [show mul (a ^^^ y) (mul (inv (a ^^^ z)) (inv (a ^^^ y))) = mul (mul (a ^^^ y) (inv (a ^^^ y))) (inv (a ^^^ z)) by rw [mul_assoc, mul_comm (inv (a ^^^ z))]]
  rw [mul_inv (xne hy), one_mul, ← mul_assoc (a ^^^ z), mul_inv (xne hz), one_mul]
  ac_rfl

theorem cs_diff (P : List F) (x : F → F) {y z : F} (hy : ∀ a ∈ P, a ≠ y) (hz : ∀ a ∈ P, a ≠ z) :
    cs P x y ^^^ cs P x z = mul (z ^^^ y) (cs P (fun a => mul (x a) (inv (a ^^^ z))) y) := by
  induction P with
  | nil => simp [cs, mul_zero]
  | cons a P ih =>
    have ih := ih (fun b hb => hy b (List.mem_cons_of_mem _ hb)) (fun b hb => hz b (List.mem_cons_of_mem _ hb))
    simp only [cs, List.foldr_cons] at ih ⊢
    rw [mul_xor, ← ih]
    rw [show ∀ p q r s : F, (p ^^^ q) ^^^ (r ^^^ s) = (p ^^^ r) ^^^ (q ^^^ s) from fun p q r s => by ac_rfl]
    congr 1
    rw [← mul_xor, inv_sub (hy a (List.mem_cons_self ..)) (hz a (List.mem_cons_self ..)), ← mul_assoc, mul_comm (x a), mul_assoc, mul_assoc]

theorem cs_shift (P : List F) (x : F → F) (a0 : F) {y : F} (hy : ∀ a ∈ P, a ≠ y) :
    mul (a0 ^^^ y) (cs P x y) = sm P x ^^^ cs P (fun a => mul (x a) (a0 ^^^ a)) y := by
  induction P with
  | nil => simp [cs, sm, mul_zero]
  | cons a P ih =>
    have ih := ih (fun b hb => hy b (List.mem_cons_of_mem _ hb))
    simp only [cs, sm, List.foldr_cons] at ih ⊢
    rw [mul_xor, ih]
    rw [show ∀ p q r s : F, (p ^^^ q) ^^^ (r ^^^ s) = (p ^^^ r) ^^^ (q ^^^ s) from fun p q r s => by ac_rfl]
    congr 1
    have e : a0 ^^^ y = (a ^^^ y) ^^^ (a0 ^^^ a) := by
      rw [show (a ^^^ y) ^^^ (a0 ^^^ a) = (a ^^^ a) ^^^ (a0 ^^^ y) by ac_rfl]; simp
    rw [e, xor_mul, mul_comm (a ^^^ y), mul_assoc, mul_comm (inv _) (a ^^^ y), mul_inv (xne (hy a (List.mem_cons_self ..))), mul_one]
    congr 1
    rw [← mul_assoc, mul_comm (a0 ^^^ a)]

theorem cs_zero (P : List F) (x : F → F) (y : F) (h : ∀ a ∈ P, x a = 0) : cs P x y = 0 := by
  induction P with
  | nil => rfl
  | cons b P ih =>
    show mul (x b) _ ^^^ cs P x y = 0
    rw [h b (List.mem_cons_self ..), zero_mul, ih (fun a ha => h a (List.mem_cons_of_mem _ ha))]; rfl

/-- Nought at as many points as poles, or a constant at one more. -/
theorem cauchy (n : Nat) : ∀ (P : List F), P.length = n → P.Nodup → ∀ (Y : List F), Y.Nodup → (∀ a ∈ P, ∀ y ∈ Y, a ≠ y) → ∀ (x : F → F) (b : F),
    (b = 0 ∧ n ≤ Y.length ∨ n < Y.length) → (∀ y ∈ Y, cs P x y = b) → ∀ a ∈ P, x a = 0 := by
  induction n with
  | zero => intro P hP _ _ _ _ _ _ _ _ a ha; rw [List.length_eq_zero_iff.1 hP] at ha; simp at ha
  | succ n ih =>
    -- nought at n + 1 points
    have key : ∀ (P : List F), P.length = n + 1 → P.Nodup → ∀ (Y : List F), Y.Nodup → (∀ a ∈ P, ∀ y ∈ Y, a ≠ y) → ∀ (x : F → F),
        n + 1 ≤ Y.length → (∀ y ∈ Y, cs P x y = 0) → ∀ a ∈ P, x a = 0 := by
      intro P hP hPn Y hYn hPY x hlen hz
      match P, hP with
      | a0 :: P', hP =>
        have hP' : P'.length = n := by simpa using hP
        have hn' := List.nodup_cons.1 hPn
        have h1 : ∀ a ∈ P', (fun a => mul (x a) (a0 ^^^ a)) a = 0 := by
          refine ih P' hP' hn'.2 Y hYn (fun a ha => hPY a (List.mem_cons_of_mem _ ha)) _ (x a0 ^^^ sm P' x) (.inr (by omega)) (fun y hy => ?_)
          have h0 := hz y hy
          have hsh := cs_shift P' x a0 (y := y) (fun a ha => hPY a (List.mem_cons_of_mem _ ha) y hy)
          have h0' : mul (x a0) (inv (a0 ^^^ y)) ^^^ cs P' x y = 0 := h0
          have h2 : cs P' x y = mul (x a0) (inv (a0 ^^^ y)) := by
            have := congrArg (fun t => mul (x a0) (inv (a0 ^^^ y)) ^^^ t) h0'
            simp only [x_cancel] at this
            simpa using this
          rw [h2, ← mul_assoc, mul_comm (a0 ^^^ y), mul_assoc, mul_inv (xne (hPY a0 (List.mem_cons_self ..) y hy)), mul_one] at hsh
          rw [hsh]
          show _ = sm P' x ^^^ _ ^^^ sm P' x
          rw [show ∀ p q : F, p ^^^ q ^^^ p = p ^^^ (p ^^^ q) from fun p q => by ac_rfl, x_cancel]
        have h2 : ∀ a ∈ P', x a = 0 := by
          intro a ha
          rcases mul_eq_zero (h1 a ha) with h | h
          · exact h
          · exact absurd h (xne (fun e => hn'.1 (e ▸ ha)))
        intro a ha
        rcases List.mem_cons.1 ha with rfl | ha'
        · match Y, hlen with
          | y :: Y', _ =>
            have h0 := hz y (List.mem_cons_self ..)
            have hc : cs P' x y = 0 := cs_zero P' x y h2
            have h0' : mul (x a) (inv (a ^^^ y)) ^^^ cs P' x y = 0 := h0
            rw [hc] at h0'
            rcases mul_eq_zero (show mul (x a) (inv (a ^^^ y)) = 0 by simpa using h0') with h | h
            · exact h
            · exact absurd h (inv_ne (xne (hPY a (List.mem_cons_self ..) y (List.mem_cons_self ..))))
        · exact h2 a ha'
    intro P hP hPn Y hYn hPY x b hb hz
    rcases hb with ⟨hb0, hl⟩ | hl
    · subst hb0
      exact key P hP hPn Y hYn hPY x hl hz
    · match Y, hl with
      | y0 :: Y', hl =>
        have hn' := List.nodup_cons.1 hYn
        have hx : ∀ a ∈ P, (fun a => mul (x a) (inv (a ^^^ y0))) a = 0 := by
          refine key P hP hPn Y' hn'.2 (fun a ha y hy => hPY a ha y (List.mem_cons_of_mem _ hy)) _ (by simp at hl; omega) (fun y hy => ?_)
          have hd := cs_diff P x (y := y) (z := y0) (fun a ha => hPY a ha y (List.mem_cons_of_mem _ hy)) (fun a ha => hPY a ha y0 (List.mem_cons_self ..))
          rw [hz y (List.mem_cons_of_mem _ hy), hz y0 (List.mem_cons_self ..), x_self] at hd
          rcases mul_eq_zero hd.symm with h | h
          · exact absurd h (xne (fun e => hn'.1 (e ▸ hy)))
          · exact h
        intro a ha
        rcases mul_eq_zero (hx a ha) with h | h
        · exact h
        · exact absurd h (inv_ne (xne (hPY a ha y0 (List.mem_cons_self ..))))

/-! ### What is orthogonal to all rows -/

def dot (w : Nat) (v x : Vec) : F := (List.range w).foldr (fun j s => mul (v j) (x j) ^^^ s) 0

theorem foldr_add (l : List Nat) (f g : Nat → F) : l.foldr (fun j s => (f j ^^^ g j) ^^^ s) 0 = l.foldr (fun j s => f j ^^^ s) 0 ^^^ l.foldr (fun j s => g j ^^^ s) 0 := by
  induction l with
  | nil => simp
  | cons a l ih => simp only [List.foldr_cons, ih]; ac_rfl

theorem foldr_smul (l : List Nat) (c : F) (f : Nat → F) : l.foldr (fun j s => mul c (f j) ^^^ s) 0 = mul c (l.foldr (fun j s => f j ^^^ s) 0) := by
  induction l with
  | nil => simp [mul_zero]
  | cons a l ih => simp only [List.foldr_cons, ih, mul_xor]

theorem foldr_zero (l : List Nat) (f : Nat → F) (h : ∀ j ∈ l, f j = 0) : l.foldr (fun j s => f j ^^^ s) 0 = 0 := by
  induction l with
  | nil => rfl
  | cons a l ih => simp only [List.foldr_cons]; rw [h a (List.mem_cons_self ..), ih (fun j hj => h j (List.mem_cons_of_mem _ hj))]; rfl

theorem dot_add (w : Nat) (u v x : Vec) : dot w (fun j => u j ^^^ v j) x = dot w u x ^^^ dot w v x := by
  unfold dot; rw [← foldr_add]; simp only [xor_mul]

theorem dot_smul (w : Nat) (c : F) (v x : Vec) : dot w (fun j => mul c (v j)) x = mul c (dot w v x) := by
  unfold dot; rw [← foldr_smul]; simp only [mul_assoc]

theorem dot_zero (w : Nat) (x : Vec) : dot w (fun _ => 0) x = 0 := by
  unfold dot; exact foldr_zero _ _ fun j _ => zero_mul _

theorem dot_span {S : Vec → Prop} {w : Nat} {x : Vec} (h : ∀ r, S r → dot w r x = 0) {v : Vec} (hv : Sp S v) : dot w v x = 0 := by
  induction hv with
  | zero => exact dot_zero w x
  | step c hr _ ih =>
    rw [dot_add w (fun j => mul c _) _ x, dot_smul, h _ hr, ih, mul_zero]; rfl

/-- One place alone counts. -/
theorem foldr_one (l : List Nat) (hn : l.Nodup) (f : Nat → F) (k : Nat) (hk : k ∈ l) (h : ∀ j ∈ l, j ≠ k → f j = 0) : l.foldr (fun j s => f j ^^^ s) 0 = f k := by
  induction l with
  | nil => simp at hk
  | cons a l ih =>
    have hn' := List.nodup_cons.1 hn
    simp only [List.foldr_cons]
    rcases List.mem_cons.1 hk with rfl | hk'
    · rw [foldr_zero l f (fun j hj => h j (List.mem_cons_of_mem _ hj) (fun e => hn'.1 (e ▸ hj)))]; simp
    · rw [h a (List.mem_cons_self ..) (fun e => hn'.1 (e ▸ hk')), ih hn'.2 hk' (fun j hj hne => h j (List.mem_cons_of_mem _ hj) hne)]; simp

theorem exists_not_led {S : Vec → Prop} {w : Nat} (h : rk S w < w) : ∃ c < w, ¬ Led S c := by
  induction w with
  | zero => omega
  | succ w ih =>
    by_cases hl : Led S w
    · rw [rk_succ_of hl] at h
      obtain ⟨c, hc, hn⟩ := ih (by omega)
      exact ⟨c, by omega, hn⟩
    · exact ⟨w, by omega, hl⟩

/-- OF TOO SMALL A RANK: all rows are orthogonal to something that is not nought. -/
theorem kernel_of_rk {n : Nat} {M : Mat} {w : Nat} (h : rk (Rows n M) w < w) : ∃ x : Vec, (∃ c < w, x c ≠ 0) ∧ ∀ i < n, dot w (M i) x = 0 := by
  obtain ⟨f, hf, hnl⟩ := exists_not_led h
  have hr := reduced n M w
  generalize reduce n M w = s at hr
  obtain ⟨R, piv⟩ := s
  obtain ⟨hech, hsame, hrank, halone⟩ := hr
  simp only at hech hsame hrank halone
  have hfp : ∀ i (hi : i < piv.length), piv[i] ≠ f := by
    intro i hi e
    refine hnl ((hsame.led f).2 ⟨R i, .row (Rows.mk (by have := hech.le; omega)), ?_⟩)
    rw [← e]; exact (hech.lead i hi).1
  -- 1 at f; at the pivot of row i what row i has at f
  refine ⟨fun j => if j = f then 1 else match piv.idxOf? j with | some i => R i f | none => 0, ⟨f, hf, by simp⟩, fun i hi => ?_⟩
  refine dot_span (S := Rows n R) ?_ (hsame.1 i hi)
  rintro r ⟨k, _, hk, rfl⟩
  generalize hx : (fun j => if j = f then (1 : F) else match piv.idxOf? j with | some i => R i f | none => 0) = x
  have hxf : x f = 1 := by subst hx; simp
  have hxp : ∀ i (hi : i < piv.length), x piv[i] = R i f := by
    intro i hi; subst hx
    simp only [if_neg (hfp i hi)]
    have hnd : piv.Nodup := hech.mono.imp (fun h => Nat.ne_of_lt h)
    have : piv.idxOf? piv[i] = some i := by
      rw [List.idxOf?_eq_some_iff]
      exact ⟨hi, by simp, fun j hj => by
        have := List.pairwise_iff_getElem.1 hech.mono j i (by omega) hi hj
        simp; omega⟩
    rw [this]
  have hxo : ∀ j, j ≠ f → (∀ i (hi : i < piv.length), piv[i] ≠ j) → x j = 0 := by
    intro j hj hp; subst hx
    simp only [if_neg hj]
    have : piv.idxOf? j = none := by
      rw [List.idxOf?_eq_none_iff]
      intro hm
      obtain ⟨i, hi, e⟩ := List.getElem_of_mem hm
      exact hp i hi e
    rw [this]
  -- row k of the reduced matrix
  have hsplit : dot w (R k) x = R k f ^^^ (if hk : k < piv.length then R k f else 0) := by
    by_cases hkp : k < piv.length
    · rw [dif_pos hkp]
      have hpw : piv[k] < w := (hech.lead k hkp).2
      -- the two places
      have e : dot w (R k) x = dot w (fun j => if j = f then R k j else 0) x ^^^ dot w (fun j => if j = f then 0 else R k j) x := by
        rw [← dot_add]
        congr 1
        funext j
        by_cases ej : j = f <;> simp [ej]
      rw [e]
      congr 1
      · unfold dot
        rw [foldr_one _ List.nodup_range _ f (by simpa using hf) (fun j _ hj => by simp [hj, zero_mul])]
        simp [hxf, mul_one]
      · unfold dot
        rw [foldr_one _ List.nodup_range _ piv[k] (by simpa using hpw) (fun j hj hne => ?_)]
        · simp only [if_neg (hfp k hkp)]
          rw [halone k hkp k hk, if_pos rfl, one_mul, hxp k hkp]
        · by_cases ej : j = f
          · simp [ej, zero_mul]
          · simp only [if_neg ej]
            by_cases hpj : ∃ i, ∃ hi : i < piv.length, piv[i] = j
            · obtain ⟨i, hi, rfl⟩ := hpj
              rw [halone i hi k hk, if_neg (fun e => hne (by subst e; rfl)), zero_mul]
            · rw [hxo j ej (fun i hi e => hpj ⟨i, hi, e⟩), mul_zero]
    · rw [dif_neg hkp]
      have hz : ∀ j < w, R k j = 0 := hech.rest k (by omega) hk
      rw [hz f hf]
      unfold dot
      rw [foldr_zero _ _ (fun j hj => by rw [hz j (by simpa using hj), zero_mul])]; rfl
  rw [hsplit]
  by_cases hkp : k < piv.length
  · rw [dif_pos hkp, x_self]
  · rw [dif_neg hkp, hech.rest k (by omega) hk f hf]; rfl

end Lin
