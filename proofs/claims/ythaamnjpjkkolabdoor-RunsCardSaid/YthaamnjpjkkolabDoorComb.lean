import Derived.Test.YthaamnjpjkkolabDoorCauchy
/- How a row is made of others: what the program's Combine finds. -/
namespace Lin
open Gf

theorem dot_succ (w : Nat) (v x : Vec) : dot (w + 1) v x = dot w v x ^^^ mul (v w) (x w) := by
  have key : ∀ (l : List Nat) (s : F), l.foldr (fun j s => mul (v j) (x j) ^^^ s) s = l.foldr (fun j s => mul (v j) (x j) ^^^ s) 0 ^^^ s := by
    intro l s
    induction l with
    | nil => simp
    | cons a l ih => simp only [List.foldr_cons]; rw [ih, UInt8.xor_assoc]
  unfold dot
  rw [List.range_succ, List.foldr_append, List.foldr_cons, List.foldr_nil, key]
  simp

theorem dot_congr {w : Nat} {u v x y : Vec} (h : ∀ j, j < w → u j = v j) (h' : ∀ j, j < w → x j = y j) : dot w u x = dot w v y := by
  induction w with
  | zero => rfl
  | succ w ih => rw [dot_succ, dot_succ, ih (fun j hj => h j (by omega)) (fun j hj => h' j (by omega)), h w (by omega), h' w (by omega)]

theorem dot_comm (w : Nat) (u v : Vec) : dot w u v = dot w v u := by
  induction w with
  | zero => rfl
  | succ w ih => rw [dot_succ, dot_succ, ih, mul_comm]

theorem dot_add_right (w : Nat) (v x y : Vec) : dot w v (fun j => x j ^^^ y j) = dot w v x ^^^ dot w v y := by
  rw [dot_comm, dot_add, dot_comm w x, dot_comm w y]
theorem dot_smul_right (w : Nat) (c : F) (v x : Vec) : dot w v (fun j => mul c (x j)) = mul c (dot w v x) := by
  rw [dot_comm, dot_smul, dot_comm w x]
theorem dot_zero_right (w : Nat) (v : Vec) : dot w v (fun _ => 0) = 0 := by rw [dot_comm, dot_zero]

theorem dot_one {w k : Nat} {v x : Vec} (hk : k < w) (h : ∀ j, j < w → j ≠ k → mul (v j) (x j) = 0) : dot w v x = mul (v k) (x k) := by
  unfold dot
  exact foldr_one _ List.nodup_range (fun j => mul (v j) (x j)) k (by simpa using hk) fun j hj hne => h j (by simpa using hj) hne

/-- What is spanned is a sum of multiples. -/
theorem sp_coef {n : Nat} {M : Mat} {v : Vec} (h : Sp (Rows n M) v) : ∃ y : Vec, ∀ j, v j = dot n (fun k => M k j) y := by
  induction h with
  | zero => exact ⟨fun _ => 0, fun j => (dot_zero_right _ _).symm⟩
  | step c hr _ ih =>
    obtain ⟨y, hy⟩ := ih
    obtain ⟨i, _, hi, rfl⟩ := hr
    refine ⟨fun k => (if k = i then c else 0) ^^^ y k, fun j => ?_⟩
    rw [dot_add_right, ← hy j, dot_one hi fun k _ hne => by simp [hne, mul_zero]]
    simp [mul_comm]
theorem coef_sp {n : Nat} {M : Mat} (y : Vec) : Sp (Rows n M) (fun j => dot n (fun k => M k j) y) := by
  have key : ∀ m, m ≤ n → Sp (Rows n M) (fun j => dot m (fun k => M k j) y) := by
    intro m
    induction m with
    | zero => intro _; exact Sp.zero
    | succ m ih =>
      intro hm
      have h1 := (Sp.smul (y m) (.row (Rows.mk (M := M) (show m < n by omega)))).add (ih (by omega))
      refine cast (congrArg (Sp (Rows n M)) (funext fun j => ?_)) h1
      rw [dot_succ, mul_comm]; ac_rfl
  exact key n (Nat.le_refl _)

/-- The equations: one for each place. -/
def eqM (R : Nat) (rows : Mat) (t : Vec) : Mat := fun i j => if j < R then rows j i else t i

/-- What Combine answers. -/
def solX (n R : Nat) (M0 : Mat) : Vec := fun j => match (reduce n M0 R).2.idxOf? j with
  | some i => (reduce n M0 R).1 i R
  | none => 0

theorem idxOf_of {l : List Nat} (hm : l.Pairwise (· < ·)) {i : Nat} (hi : i < l.length) : l.idxOf? l[i] = some i := by
  rw [List.idxOf?_eq_some_iff]
  exact ⟨hi, by simp, fun j hj => by
    have := List.pairwise_iff_getElem.1 hm j i (by omega) hi hj
    simp; omega⟩

theorem solve {n R : Nat} {M0 : Mat} (h : ∃ y : Vec, ∀ i < n, dot R (M0 i) y = M0 i R) :
    (∀ i, (reduce n M0 R).2.length ≤ i → i < n → (reduce n M0 R).1 i R = 0) ∧ ∀ i < n, dot R (M0 i) (solX n R M0) = M0 i R := by
  have hr := reduced n M0 R
  unfold solX
  generalize reduce n M0 R = s at *
  obtain ⟨M, piv⟩ := s
  obtain ⟨hech, hsame, hrank, halone⟩ := hr
  simp only at hech hsame hrank halone ⊢
  obtain ⟨y, hy⟩ := h
  -- y answers the reduced equations
  have hM : ∀ i < n, dot R (M i) y = M i R := by
    intro i hi
    have h0 : dot (R + 1) (M i) (fun j => if j < R then y j else 1) = 0 := by
      refine dot_span (S := Rows n M0) ?_ (hsame.2 i hi)
      rintro r ⟨k, _, hk, rfl⟩
      rw [dot_succ, dot_congr (y := y) (fun _ _ => rfl) (fun j hj => if_pos hj), hy k hk]
      simp [mul_one]
    rw [dot_succ, dot_congr (y := y) (fun _ _ => rfl) (fun j hj => if_pos hj)] at h0
    simp only [Nat.lt_irrefl, if_false, mul_one] at h0
    have := congrArg (fun t => t ^^^ M i R) h0
    simp only [UInt8.xor_assoc, x_self] at this
    simpa using this
  have hz : ∀ i, piv.length ≤ i → i < n → M i R = 0 := by
    intro i h1 h2
    rw [← hM i h2]
    unfold dot
    exact foldr_zero _ _ fun j hj => by rw [hech.rest i h1 h2 j (by simpa using hj), zero_mul]
  refine ⟨hz, fun i hi => ?_⟩
  generalize hx : (fun j => match piv.idxOf? j with | some i => M i R | none => (0 : F)) = x
  have hxp : ∀ k (hk : k < piv.length), x piv[k] = M k R := by
    intro k hk; subst hx; simp only [idxOf_of hech.mono hk]
  have hxo : ∀ j, (∀ k (hk : k < piv.length), piv[k] ≠ j) → x j = 0 := by
    intro j hp; subst hx
    have : piv.idxOf? j = none := by
      rw [List.idxOf?_eq_none_iff]
      intro hm
      obtain ⟨k, hk, e⟩ := List.getElem_of_mem hm
      exact hp k hk e
    simp only [this]
  have hrow : ∀ k < n, dot R (M k) x = M k R := by
    intro k hk
    by_cases hkp : k < piv.length
    · rw [dot_one (hech.lead k hkp).2 fun j _ hne => ?_, hxp k hkp, halone k hkp k hk, if_pos rfl, one_mul]
      by_cases hpj : ∃ i, ∃ hi : i < piv.length, piv[i] = j
      · obtain ⟨i, hi, rfl⟩ := hpj
        rw [halone i hi k hk, if_neg (fun e => hne (by subst e; rfl)), zero_mul]
      · rw [hxo j (fun i hi e => hpj ⟨i, hi, e⟩), mul_zero]
    · rw [hz k (by omega) hk]
      unfold dot
      exact foldr_zero _ _ fun j hj => by rw [hech.rest k (by omega) hk j (by simpa using hj), zero_mul]
  have h0 : dot (R + 1) (M0 i) (fun j => if j < R then x j else 1) = 0 := by
    refine dot_span (S := Rows n M) ?_ (hsame.1 i hi)
    rintro r ⟨k, _, hk, rfl⟩
    rw [dot_succ, dot_congr (y := x) (fun _ _ => rfl) (fun j hj => if_pos hj), hrow k hk]
    simp [mul_one]
  rw [dot_succ, dot_congr (y := x) (fun _ _ => rfl) (fun j hj => if_pos hj)] at h0
  simp only [Nat.lt_irrefl, if_false, mul_one] at h0
  have := congrArg (fun t => t ^^^ M0 i R) h0
  simp only [UInt8.xor_assoc, x_self] at this
  simpa using this

/-- A row that is made of others is made as Combine says. -/
theorem combine_sound {D R : Nat} {rows : Mat} {t : Vec} (h : ∃ u, Sp (Rows R rows) u ∧ ∀ j < D, u j = t j) :
    (∀ i, (reduce D (eqM R rows t) R).2.length ≤ i → i < D → (reduce D (eqM R rows t) R).1 i R = 0) ∧
    ∀ j < D, dot R (fun k => rows k j) (solX D R (eqM R rows t)) = t j := by
  obtain ⟨u, hu, hut⟩ := h
  obtain ⟨y, hy⟩ := sp_coef hu
  have hl : ∀ (i : Nat) (x : Vec), dot R (eqM R rows t i) x = dot R (fun k => rows k i) x := fun i x => dot_congr (fun j hj => by unfold eqM; rw [if_pos hj]) fun _ _ => rfl
  have hr : ∀ i, eqM R rows t i R = t i := fun i => by unfold eqM; rw [if_neg (by omega)]
  obtain ⟨h1, h2⟩ := solve (n := D) (R := R) (M0 := eqM R rows t) ⟨y, fun i hi => by rw [hl, hr, ← hy, hut i hi]⟩
  exact ⟨h1, fun j hj => by rw [← hl, h2 j hj, hr]⟩
end Lin
