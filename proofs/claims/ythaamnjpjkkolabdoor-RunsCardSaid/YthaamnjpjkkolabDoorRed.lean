import Derived.Test.YthaamnjpjkkolabDoorEch
/- The program's way to the rank (each pivot alone in its column), and the reference's (away below alone): both come to the rank. -/
namespace Lin
open Gf

/-- The first i from p on, below n, at which q holds. -/
def firstFrom (q : Nat → Bool) (p : Nat) : Nat → Option Nat
  | 0 => none
  | m + 1 => if q p then some p else firstFrom q (p + 1) m

theorem firstFrom_some {q : Nat → Bool} {p m i : Nat} (h : firstFrom q p m = some i) : p ≤ i ∧ i < p + m ∧ q i = true ∧ ∀ k, p ≤ k → k < i → q k = false := by
  induction m generalizing p with
  | zero => simp [firstFrom] at h
  | succ m ih =>
    simp only [firstFrom] at h
    by_cases hq : q p = true
    · simp [hq] at h; subst h
      exact ⟨Nat.le_refl _, by omega, hq, fun k h1 h2 => by omega⟩
    · simp only [hq] at h
      obtain ⟨h1, h2, h3, h4⟩ := ih (by simpa using h)
      refine ⟨by omega, by omega, h3, fun k hk hk' => ?_⟩
      by_cases e : k = p
      · subst e; simpa using hq
      · exact h4 k (by omega) hk'

theorem firstFrom_none {q : Nat → Bool} {p m : Nat} (h : firstFrom q p m = none) : ∀ k, p ≤ k → k < p + m → q k = false := by
  induction m generalizing p with
  | zero => intro k h1 h2; omega
  | succ m ih =>
    simp only [firstFrom] at h
    by_cases hq : q p = true
    · simp [hq] at h
    · simp only [hq] at h
      intro k h1 h2
      by_cases e : k = p
      · subst e; simpa using hq
      · exact ih (by simpa using h) k (by omega) (by omega)

/-- One column of the program's way. -/
def redStep (n c : Nat) (s : Mat × List Nat) : Mat × List Nat :=
  match firstFrom (fun i => s.1 i c != 0) s.2.length (n - s.2.length) with
  | none => s
  | some i =>
    let p := s.2.length
    let M1 := swap s.1 i p
    let M2 := scale M1 p (inv (M1 p c))
    (elim M2 n p (fun r => M2 r c), s.2 ++ [c])

def reduce (n : Nat) (M : Mat) : Nat → Mat × List Nat
  | 0 => (M, [])
  | c + 1 => redStep n c (reduce n M c)

/-- What the program's way comes to. -/
structure Reduced (n : Nat) (M0 : Mat) (c : Nat) (s : Mat × List Nat) : Prop where
  ech : Ech n s.1 c s.2
  same : Same n M0 s.1
  rank : s.2.length = rk (Rows n M0) c
  alone : ∀ i (h : i < s.2.length), ∀ r < n, s.1 r s.2[i] = if r = i then 1 else 0

theorem Reduced.step {n : Nat} {M0 : Mat} {c : Nat} {s : Mat × List Nat} (h : Reduced n M0 c s) : Reduced n M0 (c + 1) (redStep n c s) := by
  obtain ⟨M, piv⟩ := s
  obtain ⟨hech, hsame, hrank, halone⟩ := h
  simp only at hech hsame hrank halone
  unfold redStep
  simp only
  generalize hf : firstFrom (fun i => M i c != 0) piv.length (n - piv.length) = f
  have hle := hech.le
  cases f with
  | none =>
    have hz := firstFrom_none hf
    obtain ⟨h1, h2⟩ := hech.none (fun i h1 h2 => by simpa using hz i h1 (by omega))
    refine ⟨h1, hsame, ?_, halone⟩
    show piv.length = _
    rw [rk_succ_not (fun hl => h2 ((hsame.led c).1 hl)), hrank]
  | some i =>
    obtain ⟨h1, h2, h3, _⟩ := firstFrom_some hf
    have hin : i < n := by omega
    have hpn : piv.length < n := by omega
    have hic : M i c ≠ 0 := by simpa using h3
    simp only
    generalize hM1 : swap M i piv.length = M1
    have e1p : M1 piv.length = M i := by
      subst hM1; unfold swap
      by_cases e : piv.length = i
      · simp [e]
      · simp [e]
    have e1up : ∀ r < piv.length, M1 r = M r := by
      intro r hr; subst hM1; unfold swap
      simp [show r ≠ i by omega, show r ≠ piv.length by omega]
    have e1low : ∀ r, piv.length < r → r < n → ∀ j < c, M1 r j = 0 := by
      intro r hr hrn j hj; subst hM1; unfold swap
      by_cases e : r = i
      · simp [e]; exact hech.rest _ (Nat.le_refl _) hpn j hj
      · simp [e, show r ≠ piv.length by omega]; exact hech.rest _ (by omega) hrn j hj
    have hs1 : Same n M0 M1 := hsame.trans (hM1 ▸ same_swap M hin hpn)
    generalize hk : inv (M1 piv.length c) = k
    have hkc : mul k (M i c) = 1 := by rw [← hk, e1p]; exact inv_mul hic
    have hk0 : k ≠ 0 := fun e => by rw [e, zero_mul] at hkc; exact absurd hkc (by decide)
    generalize hM2 : scale M1 piv.length k = M2
    have e2p : ∀ j, M2 piv.length j = mul k (M i j) := by intro j; subst hM2; simp [scale, e1p]
    have e2o : ∀ r, r ≠ piv.length → M2 r = M1 r := by intro r hr; subst hM2; simp [scale, hr]
    have hs2 : Same n M0 M2 := hs1.trans (hM2 ▸ same_scale M1 hpn hk0)
    generalize hM3 : elim M2 n piv.length (fun r => M2 r c) = M3
    have e3p : M3 piv.length = M2 piv.length := by subst hM3; simp [elim]
    have e3o : ∀ r, r ≠ piv.length → r < n → ∀ j, M3 r j = M2 r j ^^^ mul (M2 r c) (M2 piv.length j) := by
      intro r hr hrn j; subst hM3; simp [elim, hr, hrn]
    have hs3 : Same n M0 M3 := hs2.trans (hM3 ▸ same_elim M2 _ hpn)
    have hp0 : ∀ j < c, M2 piv.length j = 0 := by
      intro j hj; rw [e2p, hech.rest i h1 hin j hj, mul_zero]
    have hpc : M2 piv.length c = 1 := by rw [e2p, hkc]
    have hech3 : Ech n M3 (c + 1) (piv ++ [c]) := by
      refine hech.some hpn (fun r hr j hj => ?_) ⟨fun j hj => ?_, ?_⟩ (fun r hr hrn j hj => ?_)
      · rw [e3o r (by omega) (by omega), hp0 j hj, mul_zero, e2o r (by omega), e1up r hr]; simp
      · rw [e3p, hp0 j hj]
      · rw [e3p, hpc]; decide
      · rw [e3o r (by omega) hrn]
        by_cases e : j = c
        · subst e; rw [hpc, mul_one]; simp
        · rw [hp0 j (by omega), mul_zero, e2o r (by omega), e1low r hr hrn j (by omega)]; rfl
    have hled : Led (Rows n M0) c := ⟨M3 piv.length, hs3.bwd (.row (Rows.mk hpn)), fun j hj => by rw [e3p, hp0 j hj], by rw [e3p, hpc]; decide⟩
    refine ⟨hech3, hs3, ?_, fun x hx r hr => ?_⟩
    · show (piv ++ [c]).length = _
      rw [rk_succ_of hled, List.length_append, ← hrank]; rfl
    · show M3 r (piv ++ [c])[x] = _
      by_cases hxp : x < piv.length
      · have he : (piv ++ [c])[x] = piv[x] := List.getElem_append_left hxp
        rw [he]
        have hlt := (hech.lead x hxp).2
        by_cases e : r = piv.length
        · subst e
          rw [e3p, hp0 _ hlt, if_neg (by omega)]
        · rw [e3o r e hr, hp0 _ hlt, mul_zero, e2o r e]
          have : M1 r piv[x] = if r = x then 1 else 0 := by
            subst hM1; unfold swap
            by_cases e' : r = i
            · subst e'
              simp only [if_true]
              rw [halone x hxp _ hpn, if_neg (by omega), if_neg (by omega)]
            · simp only [e', e, if_false]
              exact halone x hxp r hr
          rw [this]; simp
      · have hx' : x = piv.length := by
          have : x < (piv ++ [c]).length := hx
          simp at this; omega
        subst hx'
        have he : (piv ++ [c])[piv.length] = c := by simp
        rw [he]
        by_cases e : r = piv.length
        · subst e; rw [e3p, hpc, if_pos rfl]
        · rw [e3o r e hr, hpc, mul_one, if_neg e]; simp

theorem reduced (n : Nat) (M : Mat) (c : Nat) : Reduced n M c (reduce n M c) := by
  induction c with
  | zero => exact ⟨Ech.start n M, Same.refl n M, by simp [reduce, rk_zero], fun i h => absurd h (by simp [reduce])⟩
  | succ c ih => exact ih.step

/-- THE PROGRAM's RANK. -/
theorem reduce_rank (n : Nat) (M : Mat) (w : Nat) : (reduce n M w).2.length = rk (Rows n M) w := (reduced n M w).rank

/-! ### The reference -/

/-- The last i from p on, below n, at which q holds. -/
def lastFrom (q : Nat → Bool) (p : Nat) : Nat → Option Nat
  | 0 => none
  | m + 1 => if q (p + m) then some (p + m) else lastFrom q p m

theorem lastFrom_some {q : Nat → Bool} {p m i : Nat} (h : lastFrom q p m = some i) : p ≤ i ∧ i < p + m ∧ q i = true := by
  induction m with
  | zero => simp [lastFrom] at h
  | succ m ih =>
    simp only [lastFrom] at h
    by_cases hq : q (p + m) = true
    · simp [hq] at h; subst h; exact ⟨by omega, by omega, hq⟩
    · simp only [hq] at h
      obtain ⟨h1, h2, h3⟩ := ih (by simpa using h)
      exact ⟨h1, by omega, h3⟩

theorem lastFrom_none {q : Nat → Bool} {p m : Nat} (h : lastFrom q p m = none) : ∀ k, p ≤ k → k < p + m → q k = false := by
  induction m with
  | zero => intro k h1 h2; omega
  | succ m ih =>
    simp only [lastFrom] at h
    by_cases hq : q (p + m) = true
    · simp [hq] at h
    · simp only [hq] at h
      intro k h1 h2
      by_cases e : k = p + m
      · subst e; simpa using hq
      · exact ih (by simpa using h) k h1 (by omega)

/-- To each row r from p + 1 on, below n, its k times row p. -/
def below (M : Mat) (n p : Nat) (k : Nat → F) : Mat := fun r => if p < r ∧ r < n then fun j => M r j ^^^ mul (k r) (M p j) else M r

theorem below_eq (M : Mat) (n p : Nat) (k : Nat → F) : below M n p k = elim M n p (fun r => if p < r then k r else 0) := by
  funext r j
  unfold below elim
  by_cases h1 : p < r ∧ r < n
  · rw [if_pos h1, if_pos ⟨by omega, h1.2⟩]
    simp only [if_pos h1.1]
  · rw [if_neg h1]
    by_cases h2 : r ≠ p ∧ r < n
    · rw [if_pos h2]
      simp only [if_neg (show ¬ p < r by omega), zero_mul]; simp
    · rw [if_neg h2]

def refStep (n c : Nat) (s : Mat × Nat) : Mat × Nat :=
  match lastFrom (fun i => s.1 i c != 0) s.2 (n - s.2) with
  | none => s
  | some i =>
    let M1 := swap s.1 i s.2
    (below M1 n s.2 (fun r => mul (M1 r c) (inv (M1 s.2 c))), s.2 + 1)

def refReduce (n : Nat) (M : Mat) : Nat → Mat × Nat
  | 0 => (M, 0)
  | c + 1 => refStep n c (refReduce n M c)

structure RefReduced (n : Nat) (M0 : Mat) (c : Nat) (s : Mat × Nat) : Prop where
  ech : ∃ piv : List Nat, piv.length = s.2 ∧ Ech n s.1 c piv
  same : Same n M0 s.1
  rank : s.2 = rk (Rows n M0) c

theorem RefReduced.step {n : Nat} {M0 : Mat} {c : Nat} {s : Mat × Nat} (h : RefReduced n M0 c s) : RefReduced n M0 (c + 1) (refStep n c s) := by
  obtain ⟨M, p⟩ := s
  obtain ⟨⟨piv, hpl, hech⟩, hsame, hrank⟩ := h
  simp only at hech hsame hrank hpl
  subst hpl
  unfold refStep
  simp only
  generalize hf : lastFrom (fun i => M i c != 0) piv.length (n - piv.length) = f
  have hle := hech.le
  cases f with
  | none =>
    have hz := lastFrom_none hf
    obtain ⟨h1, h2⟩ := hech.none (fun i h1 h2 => by simpa using hz i h1 (by omega))
    refine ⟨⟨piv, rfl, h1⟩, hsame, ?_⟩
    show piv.length = _
    rw [rk_succ_not (fun hl => h2 ((hsame.led c).1 hl)), hrank]
  | some i =>
    obtain ⟨h1, h2, h3⟩ := lastFrom_some hf
    have hin : i < n := by omega
    have hpn : piv.length < n := by omega
    have hic : M i c ≠ 0 := by simpa using h3
    simp only
    generalize hM1 : swap M i piv.length = M1
    have e1p : M1 piv.length = M i := by
      subst hM1; unfold swap
      by_cases e : piv.length = i
      · simp [e]
      · simp [e]
    have e1up : ∀ r < piv.length, M1 r = M r := by
      intro r hr; subst hM1; unfold swap
      simp [show r ≠ i by omega, show r ≠ piv.length by omega]
    have e1low : ∀ r, piv.length < r → r < n → ∀ j < c, M1 r j = 0 := by
      intro r hr hrn j hj; subst hM1; unfold swap
      by_cases e : r = i
      · simp [e]; exact hech.rest _ (Nat.le_refl _) hpn j hj
      · simp [e, show r ≠ piv.length by omega]; exact hech.rest _ (by omega) hrn j hj
    have hs1 : Same n M0 M1 := hsame.trans (hM1 ▸ same_swap M hin hpn)
    rw [below_eq]
    generalize hM3 : elim M1 n piv.length _ = M3
    have e3p : M3 piv.length = M1 piv.length := by subst hM3; simp [elim]
    have e3up : ∀ r, r < piv.length → r < n → ∀ j, M3 r j = M1 r j := by
      intro r hr hrn j; subst hM3
      simp [elim, show r ≠ piv.length by omega, hrn, show ¬ piv.length < r by omega, zero_mul]
    have e3low : ∀ r, piv.length < r → r < n → ∀ j, M3 r j = M1 r j ^^^ mul (mul (M1 r c) (inv (M1 piv.length c))) (M1 piv.length j) := by
      intro r hr hrn j; subst hM3
      simp [elim, show r ≠ piv.length by omega, hrn, hr]
    have hs3 : Same n M0 M3 := hs1.trans (hM3 ▸ same_elim M1 _ hpn)
    have hp0 : ∀ j < c, M1 piv.length j = 0 := by
      intro j hj; rw [e1p]; exact hech.rest i h1 hin j hj
    have hpc : M1 piv.length c ≠ 0 := by rw [e1p]; exact hic
    have hech3 : Ech n M3 (c + 1) (piv ++ [c]) := by
      refine hech.some hpn (fun r hr j hj => ?_) ⟨fun j hj => ?_, ?_⟩ (fun r hr hrn j hj => ?_)
      · rw [e3up r hr (by omega), e1up r hr]
      · rw [e3p, hp0 j hj]
      · rw [e3p]; exact hpc
      · rw [e3low r hr hrn]
        by_cases e : j = c
        · subst e; rw [mul_assoc, inv_mul hpc, mul_one]; simp
        · rw [hp0 j (by omega), mul_zero, e1low r hr hrn j (by omega)]; rfl
    have hled : Led (Rows n M0) c := ⟨M3 piv.length, hs3.bwd (.row (Rows.mk hpn)), fun j hj => by rw [e3p, hp0 j hj], by rw [e3p]; exact hpc⟩
    refine ⟨⟨piv ++ [c], by simp, hech3⟩, hs3, ?_⟩
    show piv.length + 1 = _
    rw [rk_succ_of hled, ← hrank]

theorem refReduced (n : Nat) (M : Mat) (c : Nat) : RefReduced n M c (refReduce n M c) := by
  induction c with
  | zero => exact ⟨⟨[], rfl, Ech.start n M⟩, Same.refl n M, by simp [refReduce, rk_zero]⟩
  | succ c ih => exact ih.step

/-- THE REFERENCE's RANK. -/
theorem refReduce_rank (n : Nat) (M : Mat) (w : Nat) : (refReduce n M w).2 = rk (Rows n M) w := (refReduced n M w).rank

end Lin
