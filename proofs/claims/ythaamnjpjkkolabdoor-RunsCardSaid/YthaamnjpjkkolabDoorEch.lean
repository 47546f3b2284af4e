import Derived.Test.YthaamnjpjkkolabDoorLin
/- Rows in the form of steps, and how many there are: the rank. -/
namespace Lin
open Gf

abbrev Mat := Nat → Nat → F

/-- The rows k to n - 1. -/
def RowsFrom (k n : Nat) (M : Mat) : Vec → Prop := fun r => ∃ i, k ≤ i ∧ i < n ∧ r = M i
abbrev Rows (n : Nat) (M : Mat) : Vec → Prop := RowsFrom 0 n M

theorem Rows.mk {n : Nat} {M : Mat} {i : Nat} (h : i < n) : Rows n M (M i) := ⟨i, Nat.zero_le _, h, rfl⟩

theorem sp_rowsFrom {k n : Nat} {M : Mat} {v : Vec} (h : Sp (RowsFrom k n M) v) :
    ∃ (x : F) (u : Vec), Sp (RowsFrom (k + 1) n M) u ∧ v = fun j => mul x (M k j) ^^^ u j := by
  induction h with
  | zero => exact ⟨0, fun _ => 0, .zero, by funext j; simp [zero_mul]⟩
  | step c hr _ ih =>
    obtain ⟨x, u, hu, rfl⟩ := ih
    obtain ⟨i, hi, hin, rfl⟩ := hr
    by_cases hk : i = k
    · subst hk
      refine ⟨c ^^^ x, u, hu, funext fun j => ?_⟩
      show mul c (M i j) ^^^ (mul x (M i j) ^^^ u j) = mul (c ^^^ x) (M i j) ^^^ u j
      rw [xor_mul, UInt8.xor_assoc]
    · refine ⟨x, _, Sp.step c ⟨i, by omega, hin, rfl⟩ hu, funext fun j => ?_⟩
      show mul c (M i j) ^^^ (mul x (M k j) ^^^ u j) = mul x (M k j) ^^^ (mul c (M i j) ^^^ u j)
      ac_rfl

structure Ech (n : Nat) (M : Mat) (c : Nat) (piv : List Nat) : Prop where
  le : piv.length ≤ n
  lead : ∀ i (h : i < piv.length), Lead (M i) piv[i] ∧ piv[i] < c
  mono : piv.Pairwise (· < ·)
  rest : ∀ i, piv.length ≤ i → i < n → ∀ j < c, M i j = 0

theorem Ech.start (n : Nat) (M : Mat) : Ech n M 0 [] :=
  ⟨Nat.zero_le _, fun i h => absurd h (by simp), List.Pairwise.nil, fun i _ _ j hj => absurd hj (by omega)⟩

theorem zero_of_rows {k n : Nat} {M : Mat} {c : Nat} (h : ∀ i, k ≤ i → i < n → ∀ j < c, M i j = 0) {v : Vec} (hv : Sp (RowsFrom k n M) v) : ∀ j < c, v j = 0 := by
  induction hv with
  | zero => intro j _; rfl
  | step x hr _ ih =>
    intro j hj
    obtain ⟨i, hi, hin, rfl⟩ := hr
    show mul x (M i j) ^^^ _ = 0
    rw [h i hi hin j hj, ih j hj, mul_zero]; rfl

theorem Ech.leads {n : Nat} {M : Mat} {c : Nat} {piv : List Nat} (h : Ech n M c piv) :
    ∀ (m k : Nat), k + m = piv.length → ∀ v, Sp (RowsFrom k n M) v → (∀ j < c, v j = 0) ∨ ∃ i, ∃ hi : i < piv.length, k ≤ i ∧ Lead v piv[i] := by
  intro m
  induction m with
  | zero =>
    intro k hk v hv
    exact .inl (zero_of_rows (fun i hi hin j hj => h.rest i (by omega) hin j hj) hv)
  | succ m ih =>
    intro k hk v hv
    obtain ⟨x, u, hu, rfl⟩ := sp_rowsFrom hv
    have hkl : k < piv.length := by omega
    obtain ⟨hl, hc⟩ := h.lead k hkl
    have hz : ∀ j ≤ piv[k], u j = 0 := by
      intro j hj
      refine zero_of_rows (k := k + 1) (n := n) (M := M) (c := piv[k] + 1) (fun i hi hin j hj => ?_) hu j (by omega)
      by_cases hip : i < piv.length
      · have hlt := List.pairwise_iff_getElem.1 h.mono k i hkl hip (by omega)
        exact (h.lead i hip).1.1 j (by omega)
      · exact h.rest i (by omega) hin j (by omega)
    by_cases hx : x = 0
    · subst hx
      have e : (fun j => mul 0 (M k j) ^^^ u j) = u := by funext j; simp [zero_mul]
      rw [e]
      rcases ih (k + 1) (by omega) u hu with h1 | ⟨i, hi, hki, hl'⟩
      · exact .inl h1
      · exact .inr ⟨i, hi, by omega, hl'⟩
    · right
      refine ⟨k, hkl, Nat.le_refl _, fun j hj => ?_, fun e => ?_⟩
      · show mul x (M k j) ^^^ u j = 0
        rw [hl.1 j hj, hz j (by omega), mul_zero]; rfl
      · have e' : mul x (M k piv[k]) ^^^ u piv[k] = 0 := e
        rw [hz _ (Nat.le_refl _)] at e'
        rcases mul_eq_zero (show mul x (M k piv[k]) = 0 by simpa using e') with h0 | h0
        · exact hx h0
        · exact hl.2 h0

theorem Ech.lead_lt {n : Nat} {M : Mat} {c : Nat} {piv : List Nat} (h : Ech n M c piv) {v : Vec} (hv : Sp (Rows n M) v) : (∀ j < c, v j = 0) ∨ ∃ d < c, Lead v d := by
  rcases h.leads piv.length 0 (by omega) v hv with h1 | ⟨i, hi, _, hl⟩
  · exact .inl h1
  · exact .inr ⟨_, (h.lead i hi).2, hl⟩

/-- No row left has anything at c: nothing begins there. -/
theorem Ech.none {n : Nat} {M : Mat} {c : Nat} {piv : List Nat} (h : Ech n M c piv) (hz : ∀ i, piv.length ≤ i → i < n → M i c = 0) :
    Ech n M (c + 1) piv ∧ ¬ Led (Rows n M) c := by
  have h' : Ech n M (c + 1) piv := by
    refine ⟨h.le, fun i hi => ⟨(h.lead i hi).1, by have := (h.lead i hi).2; omega⟩, h.mono, fun i hi hin j hj => ?_⟩
    rcases Nat.lt_succ_iff_lt_or_eq.1 hj with h1 | h1
    · exact h.rest i hi hin j h1
    · rw [h1]; exact hz i hi hin
  refine ⟨h', fun ⟨v, hv, hl⟩ => ?_⟩
  rcases h'.leads piv.length 0 (by omega) v hv with h1 | ⟨i, hi, _, hl'⟩
  · exact hl.2 (h1 c (by omega))
  · have := (h.lead i hi).2
    have := hl.inj hl'
    omega

/-- A pivot was found at c, and taken away below. -/
theorem Ech.some {n : Nat} {M M' : Mat} {c : Nat} {piv : List Nat} (h : Ech n M c piv) (hp : piv.length < n)
    (hup : ∀ i < piv.length, ∀ j < c, M' i j = M i j) (hl : Lead (M' piv.length) c)
    (hlow : ∀ i, piv.length < i → i < n → ∀ j ≤ c, M' i j = 0) : Ech n M' (c + 1) (piv ++ [c]) := by
  have hlen : (piv ++ [c]).length = piv.length + 1 := by simp
  refine ⟨by omega, fun i hi => ?_, ?_, fun i hi hin j hj => hlow i (by omega) hin j (by omega)⟩
  · by_cases hip : i < piv.length
    · have he : (piv ++ [c])[i] = piv[i] := List.getElem_append_left hip
      rw [he]
      obtain ⟨⟨h1, h2⟩, h3⟩ := h.lead i hip
      refine ⟨⟨fun j hj => by rw [hup i hip j (by omega)]; exact h1 j hj, by rw [hup i hip _ h3]; exact h2⟩, by omega⟩
    · have hi' : i = piv.length := by omega
      subst hi'
      have he : (piv ++ [c])[piv.length] = c := by simp
      rw [he]
      exact ⟨hl, by omega⟩
  · rw [List.pairwise_append]
    refine ⟨h.mono, List.pairwise_singleton _ _, fun a ha b hb => ?_⟩
    obtain ⟨i, hi, rfl⟩ := List.getElem_of_mem ha
    rw [List.mem_singleton.1 hb]
    exact (h.lead i hi).2

open Classical in
theorem rk_succ (S : Vec → Prop) (w : Nat) : rk S (w + 1) = rk S w + if Led S w then 1 else 0 := by
  unfold rk
  rw [List.range_succ, List.filter_append]
  by_cases h : Led S w <;> simp [h]

theorem rk_succ_of {S : Vec → Prop} {w : Nat} (h : Led S w) : rk S (w + 1) = rk S w + 1 := by rw [rk_succ, if_pos h]
theorem rk_succ_not {S : Vec → Prop} {w : Nat} (h : ¬ Led S w) : rk S (w + 1) = rk S w := by rw [rk_succ, if_neg h]; omega

theorem rk_zero (S : Vec → Prop) : rk S 0 = 0 := by simp [rk]

/-- Two matrices of n rows that span the same. -/
def Same (n : Nat) (M N : Mat) : Prop := (∀ i < n, Sp (Rows n N) (M i)) ∧ (∀ i < n, Sp (Rows n M) (N i))

theorem Same.refl (n : Nat) (M : Mat) : Same n M M := ⟨fun _ h => .row (Rows.mk h), fun _ h => .row (Rows.mk h)⟩
theorem Same.fwd {n : Nat} {M N : Mat} (h : Same n M N) {v : Vec} (hv : Sp (Rows n M) v) : Sp (Rows n N) v :=
  hv.mono fun _ ⟨i, _, hi, e⟩ => e ▸ h.1 i hi
theorem Same.bwd {n : Nat} {M N : Mat} (h : Same n M N) {v : Vec} (hv : Sp (Rows n N) v) : Sp (Rows n M) v :=
  hv.mono fun _ ⟨i, _, hi, e⟩ => e ▸ h.2 i hi
theorem Same.trans {n : Nat} {M N K : Mat} (h : Same n M N) (h' : Same n N K) : Same n M K :=
  ⟨fun i hi => h'.fwd (h.1 i hi), fun i hi => h.bwd (h'.2 i hi)⟩
theorem Same.symm {n : Nat} {M N : Mat} (h : Same n M N) : Same n N M := ⟨h.2, h.1⟩
theorem Same.led {n : Nat} {M N : Mat} (h : Same n M N) (c : Nat) : Led (Rows n M) c ↔ Led (Rows n N) c :=
  ⟨fun ⟨v, hv, hl⟩ => ⟨v, h.fwd hv, hl⟩, fun ⟨v, hv, hl⟩ => ⟨v, h.bwd hv, hl⟩⟩

/-! ### The operations on rows -/

def swap (M : Mat) (i p : Nat) : Mat := fun r => if r = i then M p else if r = p then M i else M r
def scale (M : Mat) (p : Nat) (c : F) : Mat := fun r => if r = p then fun j => mul c (M p j) else M r
/-- To each row r below n, but p, k r times row p is added. -/
def elim (M : Mat) (n p : Nat) (k : Nat → F) : Mat := fun r => if r ≠ p ∧ r < n then fun j => M r j ^^^ mul (k r) (M p j) else M r

theorem same_swap {n : Nat} (M : Mat) {i p : Nat} (hi : i < n) (hp : p < n) : Same n M (swap M i p) := by
  constructor
  · intro r hr
    by_cases h1 : r = i
    · subst h1
      refine .row ⟨p, Nat.zero_le _, hp, ?_⟩
      unfold swap
      by_cases h2 : p = r
      · simp [h2]
      · simp [h2]
    · by_cases h2 : r = p
      · subst h2
        refine .row ⟨i, Nat.zero_le _, hi, ?_⟩
        simp [swap]
      · refine .row ⟨r, Nat.zero_le _, hr, ?_⟩
        simp [swap, h1, h2]
  · intro r hr
    unfold swap
    split
    · exact .row (Rows.mk hp)
    · split
      · exact .row (Rows.mk hi)
      · exact .row (Rows.mk hr)

theorem same_scale {n : Nat} (M : Mat) {p : Nat} {c : F} (hp : p < n) (hc : c ≠ 0) : Same n M (scale M p c) := by
  constructor
  · intro r hr
    by_cases h : r = p
    · subst h
      have hrow : Sp (Rows n (scale M r c)) (scale M r c r) := .row (Rows.mk hr)
      have := hrow.smul (inv c)
      refine cast (congrArg (Sp _) (funext fun j => ?_)) this
      show mul (inv c) (scale M r c r j) = M r j
      simp only [scale, if_true]
      rw [← mul_assoc, inv_mul hc, one_mul]
    · refine .row ⟨r, Nat.zero_le _, hr, ?_⟩
      simp [scale, h]
  · intro r hr
    unfold scale
    split
    · exact (Sp.row (Rows.mk hp)).smul c
    · exact .row (Rows.mk hr)

theorem same_elim {n : Nat} (M : Mat) {p : Nat} (k : Nat → F) (hp : p < n) : Same n M (elim M n p k) := by
  have hpp : elim M n p k p = M p := by simp [elim]
  constructor
  · intro r hr
    have hrow : Sp (Rows n (elim M n p k)) (elim M n p k r) := .row (Rows.mk hr)
    have hprow : Sp (Rows n (elim M n p k)) (M p) := hpp ▸ .row (Rows.mk hp)
    by_cases h : r = p
    · subst h; rw [hpp] at hrow; exact hrow
    · have := hrow.add (hprow.smul (k r))
      refine cast (congrArg (Sp _) (funext fun j => ?_)) this
      simp only [elim, if_pos (show r ≠ p ∧ r < n from ⟨h, hr⟩)]
      rw [UInt8.xor_assoc]; simp
  · intro r hr
    unfold elim
    split
    · exact (Sp.row (Rows.mk hr)).add ((Sp.row (Rows.mk hp)).smul (k r))
    · exact .row (Rows.mk hr)

end Lin
