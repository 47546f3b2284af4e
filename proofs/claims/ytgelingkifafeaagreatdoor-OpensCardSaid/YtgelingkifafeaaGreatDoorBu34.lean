import Derived.Test.YtgelingkifafeaaGreatDoorBu01
/- Sums of x / (a + y): nought at as many points as there are poles only if all the x are nought. And: of too small a rank, all rows are orthogonal to something. -/
namespace Lin
open Gf

def cs (P : List F) (x : F → F) (y : F) : F := P.foldr (fun a s => mul (x a) (inv (a ^^^ y)) ^^^ s) 0
def sm (P : List F) (x : F → F) : F := P.foldr (fun a s => x a ^^^ s) 0

theorem xne {a b : F} (h : a ≠ b) : a ^^^ b ≠ 0 := fun e => h (by
  have : a ^^^ (a ^^^ b) = a := by rw [e]; simp
  rw [x_cancel] at this
  exact this.symm)

theorem inv_sub {a y z : F} (hy : a ≠ y) (hz : a ≠ z) : inv (a ^^^ y) ^^^ inv (a ^^^ z) = mul (z ^^^ y) (mul (inv (a ^^^ z)) (inv (a ^^^ y))) := by
  have e : z ^^^ y = (a ^^^ y) ^^^ (a ^^^ z) := by
    rw [show (a ^^^ y) ^^^ (a ^^^ z) = (a ^^^ a) ^^^ (z ^^^ y) by ac_rfl]; simp
  rw [e, xor_mul]
  rw [show mul (a ^^^ y) (mul (inv (a ^^^ z)) (inv (a ^^^ y))) = mul (mul (a ^^^ y) (inv (a ^^^ y))) (inv (a ^^^ z)) by rw [mul_assoc, mul_comm (inv (a ^^^ z))]]
  rw [mul_inv (xne hy), one_mul, ← mul_assoc (a ^^^ z), mul_inv (xne hz), one_mul]
  ac_rfl

theorem cs_diff (P : List F) (x : F → F) {y z : F} (hy : ∀ a ∈ P, a ≠ y) (hz : ∀ a ∈ P, a ≠ z) :
    cs P x y ^^^ cs P x z = mul (z ^^^ y) (cs P (fun a => mul (x a) (inv (a ^^^ z))) y) := by
  induction P with
  | nil => simp [cs, mul_zero]
  | cons a P ih =>
    have ih := ih (fun b hb => hy b (List.mem_cons_of_mem _ hb)) (fun b hb => hz b (List.mem_cons_of_mem _ hb))
    simp only [cs, List.foldr_cons] at ih ⊢
    rw [mul_xor, ← ih]
    rw [show ∀ p q r s : F, (p ^^^ q) ^^^ (r ^^^ s) = (p ^^^ r) ^^^ (q ^^^ s) from fun p q r s => by ac_rfl]
    congr 1
    rw [← mul_xor, inv_sub (hy a (List.mem_cons_self ..)) (hz a (List.mem_cons_self ..)), ← mul_assoc, mul_comm (x a), mul_assoc, mul_assoc]

theorem cs_shift (P : List F) (x : F → F) (a0 : F) {y : F} (hy : ∀ a ∈ P, a ≠ y) :
    mul (a0 ^^^ y) (cs P x y) = sm P x ^^^ cs P (fun a => mul (x a) (a0 ^^^ a)) y := by
  induction P with
  | nil => simp [cs, sm, mul_zero]
  | cons a P ih =>
    have ih := ih (fun b hb => hy b (List.mem_cons_of_mem _ hb))
    simp only [cs, sm, List.foldr_cons] at ih ⊢
    rw [mul_xor, ih]
    rw [show ∀ p q r s : F, (p ^^^ q) ^^^ (r ^^^ s) = (p ^^^ r) ^^^ (q ^^^ s) from fun p q r s => by ac_rfl]
    congr 1
    have e : a0 ^^^ y = (a ^^^ y) ^^^ (a0 ^^^ a) := by
      rw [show (a ^^^ y) ^^^ (a0 ^^^ a) = (a ^^^ a) ^^^ (a0 ^^^ y) by ac_rfl]; simp
    rw [e, xor_mul, mul_comm (a ^^^ y), mul_assoc, mul_comm (inv _) (a ^^^ y), mul_inv (xne (hy a (List.mem_cons_self ..))), mul_one]
    congr 1
    rw [← mul_assoc, mul_comm (a0 ^^^ a)]

theorem cs_zero (P : List F) (x : F → F) (y : F) (h : ∀ a ∈ P, x a = 0) : cs P x y = 0 := by
  induction P with
  | nil => rfl
  | cons b P ih =>
    show mul (x b) _ ^^^ cs P x y = 0
    rw [h b (List.mem_cons_self ..), zero_mul, ih (fun a ha => h a (List.mem_cons_of_mem _ ha))]; rfl

/-- Nought at as many points as poles, or a constant at one more. -/
theorem cauchy (n : Nat) : ∀ (P : List F), P.length = n → P.Nodup → ∀ (Y : List F), Y.Nodup → (∀ a ∈ P, ∀ y ∈ Y, a ≠ y) → ∀ (x : F → F) (b : F),
    (b = 0 ∧ n ≤ Y.length ∨ n < Y.length) → (∀ y ∈ Y, cs P x y = b) → ∀ a ∈ P, x a = 0 := by
  induction n with
  | zero => intro P hP _ _ _ _ _ _ _ _ a ha; rw [List.length_eq_zero_iff.1 hP] at ha; simp at ha
  | succ n ih =>
    -- nought at n + 1 points
    have key : ∀ (P : List F), P.length = n + 1 → P.Nodup → ∀ (Y : List F), Y.Nodup → (∀ a ∈ P, ∀ y ∈ Y, a ≠ y) → ∀ (x : F → F),
        n + 1 ≤ Y.length → (∀ y ∈ Y, cs P x y = 0) → ∀ a ∈ P, x a = 0 := by
      intro P hP hPn Y hYn hPY x hlen hz
      match P, hP with
      | a0 :: P', hP =>
        have hP' : P'.length = n := by simpa using hP
        have hn' := List.nodup_cons.1 hPn
        have h1 : ∀ a ∈ P', (fun a => mul (x a) (a0 ^^^ a)) a = 0 := by
          refine ih P' hP' hn'.2 Y hYn (fun a ha => hPY a (List.mem_cons_of_mem _ ha)) _ (x a0 ^^^ sm P' x) (.inr (by omega)) (fun y hy => ?_)
          have h0 := hz y hy
          have hsh := cs_shift P' x a0 (y := y) (fun a ha => hPY a (List.mem_cons_of_mem _ ha) y hy)
          have h0' : mul (x a0) (inv (a0 ^^^ y)) ^^^ cs P' x y = 0 := h0
          have h2 : cs P' x y = mul (x a0) (inv (a0 ^^^ y)) := by
            have := congrArg (fun t => mul (x a0) (inv (a0 ^^^ y)) ^^^ t) h0'
            simp only [x_cancel] at this
            simpa using this
          rw [h2, ← mul_assoc, mul_comm (a0 ^^^ y), mul_assoc, mul_inv (xne (hPY a0 (List.mem_cons_self ..) y hy)), mul_one] at hsh
          rw [hsh]
          show _ = sm P' x ^^^ _ ^^^ sm P' x
          rw [show ∀ p q : F, p ^^^ q ^^^ p = p ^^^ (p ^^^ q) from fun p q => by ac_rfl, x_cancel]
        have h2 : ∀ a ∈ P', x a = 0 := by
          intro a ha
          rcases mul_eq_zero (h1 a ha) with h | h
          · exact h
          · exact absurd h (xne (fun e => hn'.1 (e ▸ ha)))
        intro a ha
        rcases List.mem_cons.1 ha with rfl | ha'
        · match Y, hlen with
          | y :: Y', _ =>
            have h0 := hz y (List.mem_cons_self ..)
            have hc : cs P' x y = 0 := cs_zero P' x y h2
            have h0' : mul (x a) (inv (a ^^^ y)) ^^^ cs P' x y = 0 := h0
            rw [hc] at h0'
            rcases mul_eq_zero (show mul (x a) (inv (a ^^^ y)) = 0 by simpa using h0') with h | h
            · exact h
            · exact absurd h (inv_ne (xne (hPY a (List.mem_cons_self ..) y (List.mem_cons_self ..))))
        · exact h2 a ha'
    intro P hP hPn Y hYn hPY x b hb hz
    rcases hb with ⟨hb0, hl⟩ | hl
    · subst hb0
      exact key P hP hPn Y hYn hPY x hl hz
    · match Y, hl with
      | y0 :: Y', hl =>
        have hn' := List.nodup_cons.1 hYn
        have hx : ∀ a ∈ P, (fun a => mul (x a) (inv (a ^^^ y0))) a = 0 := by
          refine key P hP hPn Y' hn'.2 (fun a ha y hy => hPY a ha y (List.mem_cons_of_mem _ hy)) _ (by simp at hl; omega) (fun y hy => ?_)
          have hd := cs_diff P x (y := y) (z := y0) (fun a ha => hPY a ha y (List.mem_cons_of_mem _ hy)) (fun a ha => hPY a ha y0 (List.mem_cons_self ..))
          rw [hz y (List.mem_cons_of_mem _ hy), hz y0 (List.mem_cons_self ..), x_self] at hd
          rcases mul_eq_zero hd.symm with h | h
          · exact absurd h (xne (fun e => hn'.1 (e ▸ hy)))
          · exact h
        intro a ha
        rcases mul_eq_zero (hx a ha) with h | h
        · exact h
        · exact absurd h (inv_ne (xne (hPY a ha y0 (List.mem_cons_self ..))))

/-! ### What is orthogonal to all rows -/

def dot (w : Nat) (v x : Vec) : F := (List.range w).foldr (fun j s => mul (v j) (x j) ^^^ s) 0

theorem foldr_add (l : List Nat) (f g : Nat → F) : l.foldr (fun j s => (f j ^^^ g j) ^^^ s) 0 = l.foldr (fun j s => f j ^^^ s) 0 ^^^ l.foldr (fun j s => g j ^^^ s) 0 := by
  induction l with
  | nil => simp
  | cons a l ih => simp only [List.foldr_cons, ih]; ac_rfl

theorem foldr_smul (l : List Nat) (c : F) (f : Nat → F) : l.foldr (fun j s => mul c (f j) ^^^ s) 0 = mul c (l.foldr (fun j s => f j ^^^ s) 0) := by
  induction l with
  | nil => simp [mul_zero]
  | cons a l ih => simp only [List.foldr_cons, ih, mul_xor]

theorem foldr_zero (l : List Nat) (f : Nat → F) (h : ∀ j ∈ l, f j = 0) : l.foldr (fun j s => f j ^^^ s) 0 = 0 := by
  induction l with
  | nil => rfl
  | cons a l ih => simp only [List.foldr_cons]; rw [h a (List.mem_cons_self ..), ih (fun j hj => h j (List.mem_cons_of_mem _ hj))]; rfl

theorem dot_add (w : Nat) (u v x : Vec) : dot w (fun j => u j ^^^ v j) x = dot w u x ^^^ dot w v x := by
  unfold dot; rw [← foldr_add]; simp only [xor_mul]

theorem dot_smul (w : Nat) (c : F) (v x : Vec) : dot w (fun j => mul c (v j)) x = mul c (dot w v x) := by
  unfold dot; rw [← foldr_smul]; simp only [mul_assoc]

theorem dot_zero (w : Nat) (x : Vec) : dot w (fun _ => 0) x = 0 := by
  unfold dot; exact foldr_zero _ _ fun j _ => zero_mul _

theorem dot_span {S : Vec → Prop} {w : Nat} {x : Vec} (h : ∀ r, S r → dot w r x = 0) {v : Vec} (hv : Sp S v) : dot w v x = 0 := by
  induction hv with
  | zero => exact dot_zero w x
  | step c hr _ ih =>
    rw [dot_add w (fun j => mul c _) _ x, dot_smul, h _ hr, ih, mul_zero]; rfl

/-- One place alone counts. -/
theorem foldr_one (l : List Nat) (hn : l.Nodup) (f : Nat → F) (k : Nat) (hk : k ∈ l) (h : ∀ j ∈ l, j ≠ k → f j = 0) : l.foldr (fun j s => f j ^^^ s) 0 = f k := by
  induction l with
  | nil => simp at hk
  | cons a l ih =>
    have hn' := List.nodup_cons.1 hn
    simp only [List.foldr_cons]
    rcases List.mem_cons.1 hk with rfl | hk'
    · rw [foldr_zero l f (fun j hj => h j (List.mem_cons_of_mem _ hj) (fun e => hn'.1 (e ▸ hj)))]; simp
    · rw [h a (List.mem_cons_self ..) (fun e => hn'.1 (e ▸ hk')), ih hn'.2 hk' (fun j hj hne => h j (List.mem_cons_of_mem _ hj) hne)]; simp

theorem exists_not_led {S : Vec → Prop} {w : Nat} (h : rk S w < w) : ∃ c < w, ¬ Led S c := by
  induction w with
  | zero => omega
  | succ w ih =>
    by_cases hl : Led S w
    · rw [rk_succ_of hl] at h
      obtain ⟨c, hc, hn⟩ := ih (by omega)
      exact ⟨c, by omega, hn⟩
    · exact ⟨w, by omega, hl⟩

/-- OF TOO SMALL A RANK: all rows are orthogonal to something that is not nought. -/
theorem kernel_of_rk {n : Nat} {M : Mat} {w : Nat} (h : rk (Rows n M) w < w) : ∃ x : Vec, (∃ c < w, x c ≠ 0) ∧ ∀ i < n, dot w (M i) x = 0 := by
  obtain ⟨f, hf, hnl⟩ := exists_not_led h
  have hr := reduced n M w
  generalize reduce n M w = s at hr
  obtain ⟨R, piv⟩ := s
  obtain ⟨hech, hsame, hrank, halone⟩ := hr
  simp only at hech hsame hrank halone
  have hfp : ∀ i (hi : i < piv.length), piv[i] ≠ f := by
    intro i hi e
    refine hnl ((hsame.led f).2 ⟨R i, .row (Rows.mk (by have := hech.le; omega)), ?_⟩)
    rw [← e]; exact (hech.lead i hi).1
  -- 1 at f; at the pivot of row i what row i has at f
  refine ⟨fun j => if j = f then 1 else match piv.idxOf? j with | some i => R i f | none => 0, ⟨f, hf, by simp⟩, fun i hi => ?_⟩
  refine dot_span (S := Rows n R) ?_ (hsame.1 i hi)
  rintro r ⟨k, _, hk, rfl⟩
  generalize hx : (fun j => if j = f then (1 : F) else match piv.idxOf? j with | some i => R i f | none => 0) = x
  have hxf : x f = 1 := by subst hx; simp
  have hxp : ∀ i (hi : i < piv.length), x piv[i] = R i f := by
    intro i hi; subst hx
    simp only [if_neg (hfp i hi)]
    have hnd : piv.Nodup := hech.mono.imp (fun h => Nat.ne_of_lt h)
    have : piv.idxOf? piv[i] = some i := by
      rw [List.idxOf?_eq_some_iff]
      exact ⟨hi, by simp, fun j hj => by
        have := List.pairwise_iff_getElem.1 hech.mono j i (by omega) hi hj
        simp; omega⟩
    rw [this]
  have hxo : ∀ j, j ≠ f → (∀ i (hi : i < piv.length), piv[i] ≠ j) → x j = 0 := by
    intro j hj hp; subst hx
    simp only [if_neg hj]
    have : piv.idxOf? j = none := by
      rw [List.idxOf?_eq_none_iff]
      intro hm
      obtain ⟨i, hi, e⟩ := List.getElem_of_mem hm
      exact hp i hi e
    rw [this]
  -- row k of the reduced matrix
  have hsplit : dot w (R k) x = R k f ^^^ (if hk : k < piv.length then R k f else 0) := by
    by_cases hkp : k < piv.length
    · rw [dif_pos hkp]
      have hpw : piv[k] < w := (hech.lead k hkp).2
      -- the two places
      have e : dot w (R k) x = dot w (fun j => if j = f then R k j else 0) x ^^^ dot w (fun j => if j = f then 0 else R k j) x := by
        rw [← dot_add]
        congr 1
        funext j
        by_cases ej : j = f <;> simp [ej]
      rw [e]
      congr 1
      · unfold dot
        rw [foldr_one _ List.nodup_range _ f (by simpa using hf) (fun j _ hj => by simp [hj, zero_mul])]
        simp [hxf, mul_one]
      · unfold dot
        rw [foldr_one _ List.nodup_range _ piv[k] (by simpa using hpw) (fun j hj hne => ?_)]
        · simp only [if_neg (hfp k hkp)]
          rw [halone k hkp k hk, if_pos rfl, one_mul, hxp k hkp]
        · by_cases ej : j = f
          · simp [ej, zero_mul]
          · simp only [if_neg ej]
            by_cases hpj : ∃ i, ∃ hi : i < piv.length, piv[i] = j
            · obtain ⟨i, hi, rfl⟩ := hpj
              rw [halone i hi k hk, if_neg (fun e => hne (by subst e; rfl)), zero_mul]
            · rw [hxo j ej (fun i hi e => hpj ⟨i, hi, e⟩), mul_zero]
    · rw [dif_neg hkp]
      have hz : ∀ j < w, R k j = 0 := hech.rest k (by omega) hk
      rw [hz f hf]
      unfold dot
      rw [foldr_zero _ _ (fun j hj => by rw [hz j (by simpa using hj), zero_mul])]; rfl
  rw [hsplit]
  by_cases hkp : k < piv.length
  · rw [dif_pos hkp, x_self]
  · rw [dif_neg hkp, hech.rest k (by omega) hk f hf]; rfl

end Lin
