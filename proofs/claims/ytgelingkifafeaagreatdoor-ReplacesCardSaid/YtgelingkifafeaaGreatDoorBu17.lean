/- The sum of a block: a block of which one bit is turned has another one. -/
namespace Crc

/-- One bit's step. -/
def step (c : UInt32) : UInt32 := (c >>> 1) ^^^ ((c &&& 1) * 0xedb88320)
def steps (c : UInt32) : UInt32 := step (step (step (step (step (step (step (step c)))))))
/-- One byte. -/
def byte (c : UInt32) (x : UInt8) : UInt32 := steps (c ^^^ x.toUInt32)
/-- So many bytes. -/
def run (c : UInt32) (x : Nat → UInt8) : Nat → UInt32
  | 0 => c
  | k + 1 => byte (run c x k) (x k)

theorem low (c : UInt32) : c &&& 1 = 0 ∨ c &&& 1 = 1 := by
  have h : (c &&& 1).toNat = c.toNat % 2 := by rw [UInt32.toNat_and]; exact Nat.and_one_is_mod _
  rcases Nat.mod_two_eq_zero_or_one c.toNat with e | e
  · exact .inl (UInt32.toNat_inj.1 (by rw [h, e]; rfl))
  · exact .inr (UInt32.toNat_inj.1 (by rw [h, e]; rfl))

theorem step_xor (a b : UInt32) : step (a ^^^ b) = step a ^^^ step b := by
  have e1 : (a ^^^ b) >>> 1 = (a >>> 1) ^^^ (b >>> 1) := UInt32.shiftRight_xor ..
  have e2 : (a ^^^ b) &&& 1 = (a &&& 1) ^^^ (b &&& 1) := UInt32.toNat_inj.1 (by simp only [UInt32.toNat_and, UInt32.toNat_xor, Nat.and_xor_distrib_right])
  unfold step
  rw [e1, e2]
  rcases low a with ha | ha <;> rcases low b with hb | hb <;> rw [ha, hb]
  · simp
  · rw [show ((0 : UInt32) ^^^ 1) * 3988292384 = 3988292384 from rfl, show (1 : UInt32) * 3988292384 = 3988292384 from rfl, show (0 : UInt32) * 3988292384 = 0 from rfl]; simp [UInt32.xor_assoc]
  · rw [show ((1 : UInt32) ^^^ 0) * 3988292384 = 3988292384 from rfl, show (1 : UInt32) * 3988292384 = 3988292384 from rfl, show (0 : UInt32) * 3988292384 = 0 from rfl]; simp only [UInt32.xor_zero]; ac_rfl
  · rw [show ((1 : UInt32) ^^^ 1) * 3988292384 = 0 from rfl, show (1 : UInt32) * 3988292384 = 3988292384 from rfl]
    rw [show ∀ p q r : UInt32, p ^^^ r ^^^ (q ^^^ r) = p ^^^ q ^^^ (r ^^^ r) from fun p q r => by ac_rfl]; simp

theorem step_ne {c : UInt32} (h : c ≠ 0) : step c ≠ 0 := by
  intro e
  apply h
  unfold step at e
  rcases low c with hc | hc
  · rw [hc, show (0 : UInt32) * 3988292384 = 0 from rfl, UInt32.xor_zero] at e
    have h1 := congrArg UInt32.toNat hc
    have h2 := congrArg UInt32.toNat e
    rw [UInt32.toNat_and, show (1 : UInt32).toNat = 1 from rfl, Nat.and_one_is_mod] at h1
    rw [UInt32.toNat_shiftRight] at h2
    simp [Nat.shiftRight_eq_div_pow] at h1 h2
    exact UInt32.toNat_inj.1 (by simp; omega)
  · exfalso
    rw [hc, show (1 : UInt32) * 3988292384 = 3988292384 from rfl] at e
    have h1 : c >>> 1 = 3988292384 := by
      have := congrArg (fun t => t ^^^ (3988292384 : UInt32)) e
      simp only [UInt32.xor_assoc, UInt32.xor_self, UInt32.xor_zero, UInt32.zero_xor] at this
      exact this
    have h2 := congrArg UInt32.toNat h1
    rw [UInt32.toNat_shiftRight] at h2
    simp [Nat.shiftRight_eq_div_pow] at h2
    have := c.toNat_lt
    omega

theorem steps_xor (a b : UInt32) : steps (a ^^^ b) = steps a ^^^ steps b := by unfold steps; simp only [step_xor]
theorem steps_ne {c : UInt32} (h : c ≠ 0) : steps c ≠ 0 := by unfold steps; exact step_ne (step_ne (step_ne (step_ne (step_ne (step_ne (step_ne (step_ne h)))))))

theorem xor_eq {a b : UInt32} (h : a ^^^ b = 0) : a = b := by
  have := congrArg (fun t => t ^^^ b) h
  simpa [UInt32.xor_assoc] using this

/-- States that differ go on to differ, where the bytes behind are the same. -/
theorem byte_inj {a b : UInt32} {x : UInt8} (h : byte a x = byte b x) : a = b := by
  refine Classical.byContradiction fun hne => steps_ne (c := a ^^^ b) (fun e => hne (xor_eq e)) ?_
  unfold byte at h
  rw [show a ^^^ b = (a ^^^ x.toUInt32) ^^^ (b ^^^ x.toUInt32) by
    rw [show ∀ p q r : UInt32, p ^^^ r ^^^ (q ^^^ r) = p ^^^ q ^^^ (r ^^^ r) from fun p q r => by ac_rfl]; simp, steps_xor, h]
  simp
/-- Another byte leads elsewhere. -/
theorem byte_ne {a : UInt32} {x y : UInt8} (h : byte a x = byte a y) : x = y := by
  have h1 : a ^^^ x.toUInt32 = a ^^^ y.toUInt32 := by
    refine Classical.byContradiction fun hne => steps_ne (c := (a ^^^ x.toUInt32) ^^^ (a ^^^ y.toUInt32)) (fun e => hne (xor_eq e)) ?_
    rw [steps_xor]; unfold byte at h; rw [h]; simp
  have h2 : x.toUInt32 = y.toUInt32 := by
    have := congrArg (fun t => a ^^^ t) h1
    simpa [← UInt32.xor_assoc] using this
  have := congrArg UInt32.toNat h2
  exact UInt8.toNat_inj.1 (by simpa using this)

theorem run_congr {c : UInt32} {x y : Nat → UInt8} : ∀ {n : Nat}, (∀ i, i < n → x i = y i) → run c x n = run c y n
  | 0, _ => rfl
  | n + 1, h => by unfold run; rw [run_congr fun i hi => h i (by omega), h n (by omega)]

/-- ONE BYTE THAT DIFFERS: the sums differ. -/
theorem run_one {c : UInt32} {x y : Nat → UInt8} {k : Nat} : ∀ {n : Nat}, k < n → (∀ i, i < n → i ≠ k → x i = y i) → x k ≠ y k → run c x n ≠ run c y n
  | 0, h, _, _ => absurd h (by omega)
  | n + 1, h, he, hk => by
    unfold run
    by_cases e : k = n
    · subst e
      rw [run_congr fun i hi => he i (by omega) (by omega)]
      exact fun h' => hk (byte_ne h')
    · rw [he n (by omega) (by omega)]
      exact fun h' => run_one (n := n) (by omega) (fun i hi => he i (by omega)) hk (byte_inj h')

/-- A block's bytes, those of the sum left out. -/
def bare (x : Nat → UInt8) : Nat → UInt8 := fun i => if 10 ≤ i ∧ i < 14 then 0 else x i
/-- The sum. -/
def sum (x : Nat → UInt8) : UInt32 := ~~~ (run 4294967295 (bare x) 64)
/-- Its bytes. -/
def sumB (x : Nat → UInt8) (i : Nat) : UInt8 := if i = 0 then ((sum x) >>> 24).toUInt8 else if i = 1 then ((sum x) >>> 16).toUInt8 else if i = 2 then ((sum x) >>> 8).toUInt8 else (sum x).toUInt8

/-- Does a block bear its own sum? -/
def Fits (x : Nat → UInt8) : Prop := ∀ i, i < 4 → x (10 + i) = sumB x i

theorem sumB_inj {x y : Nat → UInt8} (h : ∀ i, i < 4 → sumB x i = sumB y i) : sum x = sum y := by
  have e : ∀ (z : Nat → UInt8) (i : Nat), i < 4 → (sumB z i).toNat = (sum z).toNat / 2 ^ (8 * (3 - i)) % 256 := by
    intro z i hi
    rcases (show i = 0 ∨ i = 1 ∨ i = 2 ∨ i = 3 by omega) with rfl | rfl | rfl | rfl <;> simp [sumB, Nat.shiftRight_eq_div_pow]
  have h0 := congrArg UInt8.toNat (h 0 (by omega))
  have h1 := congrArg UInt8.toNat (h 1 (by omega))
  have h2 := congrArg UInt8.toNat (h 2 (by omega))
  have h3 := congrArg UInt8.toNat (h 3 (by omega))
  rw [e x _ (by omega), e y _ (by omega)] at h0 h1 h2 h3
  have := (sum x).toNat_lt
  have := (sum y).toNat_lt
  simp at h0 h1 h2 h3
  exact UInt32.toNat_inj.1 (by omega)

theorem sum_congr {x y : Nat → UInt8} (h : ∀ i, i < 64 → (i < 10 ∨ 14 ≤ i) → x i = y i) : sum x = sum y := by
  unfold sum
  rw [run_congr fun i hi => ?_]
  unfold bare
  by_cases e : 10 ≤ i ∧ i < 14
  · rw [if_pos e, if_pos e]
  · rw [if_neg e, if_neg e]; exact h i hi (by omega)

theorem sumB_congr {x y : Nat → UInt8} (h : sum x = sum y) (i : Nat) : sumB x i = sumB y i := by unfold sumB; rw [h]

/-- ONE BYTE OF A BLOCK TURNED: it bears its sum no more. -/
theorem not_fits {x y : Nat → UInt8} {k : Nat} (hk : k < 64) (he : ∀ i, i < 64 → i ≠ k → y i = x i) (hne : y k ≠ x k) (h : Fits x) : ¬ Fits y := by
  intro h'
  by_cases e : 10 ≤ k ∧ k < 14
  · have hs : sum y = sum x := sum_congr fun i hi ho => he i hi (by omega)
    have h1 := h' (k - 10) (by omega)
    have h2 := h (k - 10) (by omega)
    rw [show 10 + (k - 10) = k by omega] at h1 h2
    rw [sumB_congr hs, ← h2] at h1
    exact hne h1
  · have hs : sum y ≠ sum x := by
      have h0 : run 4294967295 (bare y) 64 ≠ run 4294967295 (bare x) 64 := run_one hk (fun i hi hi' => by
        unfold bare
        by_cases e' : 10 ≤ i ∧ i < 14
        · rw [if_pos e', if_pos e']
        · rw [if_neg e', if_neg e']; exact he i hi hi') (by unfold bare; rw [if_neg e, if_neg e]; exact hne)
      intro h1
      apply h0
      unfold sum at h1
      have := congrArg (fun t => ~~~ t) h1
      simpa using this
    exact hs (sumB_inj fun i hi => by rw [← h' i hi, ← h i hi, he _ (by omega) (by omega)])
end Crc

/- A block of a drive, and what it tells: plain. -/
namespace Frm

/-- What a block tells. -/
structure Frm where
  kind : UInt8
  shard : Nat
  seq : Nat
  data : Nat → UInt8

/-- A block's bytes, its sum left out. -/
def bare (f : Frm) : Nat → UInt8 := fun i =>
  if i = 0 then f.kind else if i = 1 then UInt8.ofNat f.shard else if i < 10 then UInt8.ofNat (f.seq / 2 ^ (56 - 8 * (i - 2))) else if i < 20 then 0 else f.data (i - 20)
/-- A block's bytes. -/
def blk (f : Frm) : Nat → UInt8 := fun i => if 10 ≤ i ∧ i < 14 then Crc.sumB (bare f) (i - 10) else bare f i
/-- The number in a block. -/
def seqOf (x : Nat → UInt8) : Nat → Nat
  | 0 => 0
  | i + 1 => (seqOf x i * 256 + (x (2 + i)).toNat) % 2 ^ 64
/-- What a block tells. -/
def read (x : Nat → UInt8) : Frm := ⟨x 0, (x 1).toNat, seqOf x 8, fun i => x (i + 20)⟩
/-- Is it a frame? -/
def okB (x : Nat → UInt8) : Bool := (List.range 4).all (fun j => x (10 + j) == Crc.sumB x j) && decide (x 0 ≠ 0)

end Frm

/- A frame that is written is read again. -/
namespace Frm
theorem seq_blk (f : Frm) (hq : f.seq < 2 ^ 64) : seqOf (blk f) 8 = f.seq := by
  simp [seqOf, blk, bare]
  omega
theorem read_blk (f : Frm) (hs : f.shard < 256) (hq : f.seq < 2 ^ 64) : read (blk f) = f := by
  have h1 := seq_blk f hq
  unfold read
  rw [h1]
  cases f with
  | mk k s q d =>
    simp only [Frm.mk.injEq]
    refine ⟨by simp [blk, bare], ?_, trivial, ?_⟩
    · simp [blk, bare]; exact hs
    · funext i
      simp only [blk, bare]
      rw [if_neg (by omega), if_neg (by omega), if_neg (by omega), if_neg (by omega), if_neg (by omega)]
      simp
theorem sum_blk (f : Frm) (i : Nat) : Crc.sumB (blk f) i = Crc.sumB (bare f) i := by
  have e : Crc.bare (blk f) = Crc.bare (bare f) := by
    funext j
    unfold Crc.bare
    by_cases h : 10 ≤ j ∧ j < 14
    · rw [if_pos h, if_pos h]
    · rw [if_neg h, if_neg h]; unfold blk; rw [if_neg h]
  unfold Crc.sumB Crc.sum
  rw [e]
theorem okB_blk (f : Frm) (hk : f.kind ≠ 0) : okB (blk f) = true := by
  unfold okB
  rw [Bool.and_eq_true, List.all_eq_true]
  refine ⟨fun j hj => ?_, by simp [blk, bare, hk]⟩
  have hj' : j < 4 := List.mem_range.1 hj
  rw [sum_blk, beq_iff_eq]
  show (if 10 ≤ 10 + j ∧ 10 + j < 14 then _ else _) = _
  rw [if_pos (by omega), Nat.add_sub_cancel_left]
end Frm
