import Derived.Test.YtgelingkifafeaaGreatDoorBu29
import Derived.Test.YtgelingkifafeaaGreatDoorBu11
import Derived.Test.YtgelingkifafeaaGreatDoorBu01
/- As many shards as there are global parities may be lost; less where more can: in plain words. -/
namespace Go.Proofs.YtgelingkifafeaaGreatDoor
open Lin Gf
set_option maxRecDepth 100000
set_option linter.unusedVariables false

/-- The rows at the places of a list, over the first D places. -/
def SL (D : Nat) (M : Mat) (l : List Nat) : Vec → Prop := fun r => ∃ i ∈ l, r = fun j => if j < D then M i j else 0

theorem wid_plain (D : Nat) (M : Mat) (l : List Nat) : ∀ k, wid (plainS D M l) k = if k = 0 then 0 else D
  | 0 => rfl
  | k + 1 => by
    simp only [wid, wid_plain D M l k]
    by_cases h : k = 0
    · simp [h, plainS]
    · simp [h, plainS]

theorem rows_plain (D : Nat) (M : Mat) (l : List Nat) (w : Nat) : rk (Lin.Rows l.length (fun t => padX (plainS D M l t))) w = rk (SL D M l) w := by
  refine rk_eq (fun r h => ?_) (fun r h => ?_) w
  · obtain ⟨t, _, ht, rfl⟩ := h
    exact .row ⟨l.getD t 0, getD_mem ht, rfl⟩
  · obtain ⟨i, hi, rfl⟩ := h
    obtain ⟨t, ht, rfl⟩ := List.getElem_of_mem hi
    refine .row ⟨t, Nat.zero_le _, ht, ?_⟩
    funext j
    simp [padX, plainS, List.getD_eq_getElem?_getD, ht]

theorem decB_iff {D L G x : Nat} (h1 : 1 ≤ D) (h2 : D ≤ 12) (h7 : D + L + G ≤ 16) : decB D L G x = true ↔ rk (SL D (codeM D L) (left (D + L + G) x)) D = D := by
  have hln : (left (D + L + G) x).length ≤ 16 := Nat.le_trans (sel_len _ _) h7
  unfold decB rankL
  generalize left (D + L + G) x = l at *
  rw [rankV_ok (by omega) (by rw [wid_plain]; split <;> omega), wid_plain, reduce_rank, rows_plain]
  by_cases h : l.length = 0
  · rw [if_pos h]
    have hl : l = [] := List.length_eq_zero_iff.1 h
    have e0 : rk (SL D (codeM D L) l) 0 = 0 := Nat.le_zero.1 (rk_le _ 0)
    have e1 : rk (SL D (codeM D L) l) D ≠ D := by
      intro e
      have hled : ∃ c, c < D ∧ Led (SL D (codeM D L) l) c := by
        refine Classical.byContradiction fun hn => ?_
        have : rk (SL D (codeM D L) l) D = 0 := by
          unfold rk
          rw [List.length_eq_zero_iff, List.filter_eq_nil_iff]
          intro c hc hd
          exact hn ⟨c, by simpa using hc, by simpa using hd⟩
        omega
      obtain ⟨c, _, v, hv, hlead⟩ := hled
      have hz : ∀ j, v j = 0 := by
        clear hlead
        induction hv with
        | zero => intro j; rfl
        | step c hr _ ih => obtain ⟨i, hi, _⟩ := hr; rw [hl] at hi; simp at hi
      exact hlead.2 (hz c)
    rw [e0]
    constructor
    · intro h; have : (0 : Int) = (D : Int) := by simpa using h
      omega
    · intro h; exact absurd h e1
  · rw [if_neg h]
    constructor
    · intro h; have : ((rk (SL D (codeM D L) l) D : Nat) : Int) = (D : Int) := by simpa using h
      omega
    · intro h; rw [h]; simp

/-- Less where more can. -/
theorem decB_less {D L G x y : Nat} (h1 : 1 ≤ D) (h2 : D ≤ 12) (h7 : D + L + G ≤ 16) (hxy : ∀ i, i < D + L + G → y.testBit i = true → x.testBit i = true) (h : decB D L G x = true) : decB D L G y = true := by
  rw [decB_iff h1 h2 h7] at h ⊢
  have hsub : ∀ r, SL D (codeM D L) (left (D + L + G) x) r → Sp (SL D (codeM D L) (left (D + L + G) y)) r := by
    rintro r ⟨i, hi, rfl⟩
    obtain ⟨a, b⟩ := mem_sel.1 hi
    refine .row ⟨i, mem_sel.2 ⟨a, ?_⟩, rfl⟩
    cases hy : y.testBit i with
    | false => rfl
    | true => rw [hxy i a hy] at b; simp at b
  have hm := rk_mono hsub D
  rw [h] at hm
  exact Nat.le_antisymm (rk_le _ _) hm

/-- All lost. -/
theorem decB_none {D L G x : Nat} (h1 : 1 ≤ D) (hx : ∀ i, i < D + L + G → x.testBit i = true) : decB D L G x = false := by
  have hl : left (D + L + G) x = [] := by
    unfold left sel
    rw [List.filter_eq_nil_iff]
    intro i hi
    simp [hx i (by simpa using hi)]
  unfold decB rankL
  rw [hl]
  have : rankV ([] : List Nat).length (plainS D (codeM D L) []) = 0 := rfl
  rw [this]
  simp; omega
theorem sel_add_len (n : Nat) (p : Nat → Bool) : ∀ m, (sel (n + m) p).length = (sel n p).length + (sel m (fun k => p (n + k))).length
  | 0 => by simp [sel]
  | m + 1 => by
    rw [show n + (m + 1) = (n + m) + 1 by omega, sel_succ, sel_succ]
    have ih := sel_add_len n p m
    by_cases h : p (n + m) = true
    · rw [if_pos h, if_pos h]; simp; omega
    · rw [if_neg h, if_neg h]; exact ih
theorem sel_compl (p : Nat → Bool) : ∀ n, (sel n p).length + (sel n (fun k => !p k)).length = n
  | 0 => by simp [sel]
  | n + 1 => by
    rw [sel_succ, sel_succ]
    have ih := sel_compl p n
    by_cases h : p n = true
    · rw [if_pos h, if_neg (by simp [h])]; simp; omega
    · rw [if_neg h, if_pos (by simp [h])]; simp; omega

theorem foldr_sel (f : Nat → UInt8) (p : Nat → Bool) : ∀ l : List Nat, (∀ j ∈ l, p j = false → f j = 0) → l.foldr (fun j s => f j ^^^ s) 0 = (l.filter p).foldr (fun j s => f j ^^^ s) 0
  | [], _ => rfl
  | a :: l, h => by
    have ih := foldr_sel f p l (fun j hj => h j (List.mem_cons_of_mem _ hj))
    by_cases hp : p a = true
    · rw [List.filter_cons_of_pos hp, List.foldr_cons, List.foldr_cons, ih]
    · rw [List.filter_cons_of_neg hp, List.foldr_cons, ih, h a (List.mem_cons_self ..) (by simpa using hp)]; simp

theorem ofNat_toNat {j : Nat} (h : j < 256) : (UInt8.ofNat j).toNat = j := by rw [UInt8.toNat_ofNat', Nat.mod_eq_of_lt h]
theorem ofNat_xor {a b : Nat} (ha : a < 2 ^ 8) (hb : b < 2 ^ 8) : UInt8.ofNat (a ^^^ b) = UInt8.ofNat b ^^^ UInt8.ofNat a := by
  apply UInt8.toNat.inj
  rw [UInt8.toNat_xor, ofNat_toNat ha, ofNat_toNat hb, ofNat_toNat (Nat.xor_lt_two_pow ha hb), Nat.xor_comm]
theorem ofNat_inj {a b : Nat} (ha : a < 256) (hb : b < 256) (h : UInt8.ofNat a = UInt8.ofNat b) : a = b := by
  have := congrArg UInt8.toNat h
  rwa [ofNat_toNat ha, ofNat_toNat hb] at this

theorem nodup_sel (n : Nat) (p : Nat → Bool) : (sel n p).Nodup := List.Pairwise.filter _ List.nodup_range
theorem nodup_map_of {l : List Nat} (hl : l.Nodup) {f : Nat → UInt8} (hf : ∀ a ∈ l, ∀ b ∈ l, f a = f b → a = b) : (l.map f).Nodup := by
  unfold List.Nodup
  rw [List.pairwise_map]
  exact List.Pairwise.imp_of_mem (fun ha hb hne e => hne (hf _ ha _ hb e)) hl

/-- No more lost than there are global parities. -/
theorem decB_small {D L G x : Nat} (h1 : 1 ≤ D) (h2 : D ≤ 12) (h7 : D + L + G ≤ 16) (hc : (sel (D + L + G) x.testBit).length ≤ G) : decB D L G x = true := by
  refine (decB_iff h1 h2 h7).2 (Classical.byContradiction fun hne => ?_)
  have hlt : rk (SL D (codeM D L) (left (D + L + G) x)) D < D := Nat.lt_of_le_of_ne (rk_le _ _) hne
  rw [← rows_plain] at hlt
  obtain ⟨v, ⟨c, hcD, hvc⟩, hv⟩ := kernel_of_rk hlt
  -- orthogonal to each row that is left
  have hrow : ∀ i, i < D + L + G → x.testBit i = false → dot D (codeM D L i) v = 0 := by
    intro i hi hb
    have hm : i ∈ left (D + L + G) x := mem_sel.2 ⟨hi, by simp [hb]⟩
    obtain ⟨t, ht, e⟩ := List.getElem_of_mem hm
    have h0 := hv t ht
    have hg : (left (D + L + G) x).getD t 0 = i := by rw [List.getD_eq_getElem?_getD, List.getElem?_eq_getElem ht, e]; rfl
    have he : dot D (padX (plainS D (codeM D L) (left (D + L + G) x) t)) v = dot D (codeM D L i) v := by
      unfold dot
      have key : ∀ l : List Nat, (∀ j ∈ l, j < D) → l.foldr (fun j s => mul (padX (plainS D (codeM D L) (left (D + L + G) x) t) j) (v j) ^^^ s) 0 = l.foldr (fun j s => mul (codeM D L i j) (v j) ^^^ s) 0 := by
        intro l
        induction l with
        | nil => intro _; rfl
        | cons a l ih =>
          intro hl
          rw [List.foldr_cons, List.foldr_cons, ih fun j hj => hl j (List.mem_cons_of_mem _ hj)]
          have : padX (plainS D (codeM D L) (left (D + L + G) x) t) a = codeM D L i a := by
            have ha := hl a (List.mem_cons_self ..)
            simp only [padX, plainS, if_pos ha, hg]
          rw [this]
      exact key _ fun j hj => by simpa using hj
    rw [← he]; exact h0
  -- nought at data places that are left
  have hdata : ∀ j, j < D → x.testBit j = false → v j = 0 := by
    intro j hj hb
    have h0 := hrow j (by omega) hb
    unfold dot at h0
    rw [foldr_one _ List.nodup_range _ j (by simpa using hj) (fun k _ hne => by simp [codeM, hj, Ne.symm hne, zero_mul])] at h0
    simpa [codeM, hj, one_mul] using h0
  -- the sums at the global parities that are left
  let p : Nat → Bool := x.testBit
  let q : Nat → Bool := fun k => !x.testBit (D + L + k)
  have hP : ∀ a ∈ (sel D p).map UInt8.ofNat, (fun a : UInt8 => v a.toNat) a = 0 := by
    refine cauchy (sel D p).length ((sel D p).map UInt8.ofNat) (by simp) (nodup_map_of (nodup_sel _ _) fun a ha b hb e => ofNat_inj (by have := (mem_sel.1 ha).1; omega) (by have := (mem_sel.1 hb).1; omega) e)
      ((sel G q).map fun k => UInt8.ofNat (D + k)) (nodup_map_of (nodup_sel _ _) fun a ha b hb e => by have := ofNat_inj (by have := (mem_sel.1 ha).1; omega) (by have := (mem_sel.1 hb).1; omega) e; omega)
      (fun a ha y hy e => ?_) (fun a => v a.toNat) 0 (.inl ⟨rfl, ?_⟩) (fun y hy => ?_)
    · obtain ⟨j, hj, rfl⟩ := List.mem_map.1 ha
      obtain ⟨k, hk, rfl⟩ := List.mem_map.1 hy
      have hj' := (mem_sel.1 hj).1
      have hk' := (mem_sel.1 hk).1
      have := ofNat_inj (by omega) (by omega) e
      omega
    · rw [List.length_map]
      have e1 := sel_add_len (D + L) x.testBit G
      have e2 := sel_add_len D x.testBit L
      have e3 := sel_compl (fun k => x.testBit (D + L + k)) G
      show (sel D x.testBit).length ≤ (sel G (fun k => !x.testBit (D + L + k))).length
      omega
    · obtain ⟨k, hk, rfl⟩ := List.mem_map.1 hy
      obtain ⟨hkG, hkb⟩ := mem_sel.1 hk
      have h0 := hrow (D + L + k) (by omega) (by simpa [q] using hkb)
      unfold dot at h0
      rw [foldr_sel _ p _ (fun j hj hb => by rw [hdata j (by simpa using hj) hb, mul_zero])] at h0
      unfold cs
      rw [List.foldr_map]
      refine Eq.trans ?_ h0
      show (sel D p).foldr _ 0 = (sel D p).foldr _ 0
      have key : ∀ l : List Nat, (∀ j ∈ l, j < D) → l.foldr (fun j s => mul (v (UInt8.ofNat j).toNat) (inv (UInt8.ofNat j ^^^ UInt8.ofNat (D + k))) ^^^ s) 0 = l.foldr (fun j s => mul (codeM D L (D + L + k) j) (v j) ^^^ s) 0 := by
        intro l
        induction l with
        | nil => intro _; rfl
        | cons a l ih =>
          intro hl
          have ha := hl a (List.mem_cons_self ..)
          rw [List.foldr_cons, List.foldr_cons, ih fun j hj => hl j (List.mem_cons_of_mem _ hj), ← codeM_global, ofNat_toNat (by omega), ofNat_xor (by omega) (by omega), mul_comm]
      exact key _ fun j hj => (mem_sel.1 hj).1
  by_cases hb : x.testBit c = true
  · have := hP (UInt8.ofNat c) (List.mem_map.2 ⟨c, mem_sel.2 ⟨hcD, hb⟩, rfl⟩)
    simp only [ofNat_toNat (show c < 256 by omega)] at this
    exact hvc this
  · exact hvc (hdata c hcD (by simpa using hb))
end Go.Proofs.YtgelingkifafeaaGreatDoor
