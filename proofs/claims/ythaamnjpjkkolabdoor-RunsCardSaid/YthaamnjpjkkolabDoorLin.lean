import Derived.Test.YthaamnjpjkkolabDoorGf
/- Rows of numbers of the field: what they span, the columns at which something of the span begins, and the count of these: the rank. -/
namespace Lin
open Gf

abbrev F := UInt8
/-- A row: its numbers by their places. -/
abbrev Vec := Nat → F

theorem x_self (a : F) : a ^^^ a = 0 := by simp
theorem x_cancel (a b : F) : a ^^^ (a ^^^ b) = b := by rw [← UInt8.xor_assoc]; simp

/-- What rows span: sums of multiples. (`S i` for the rows i that count.) -/
inductive Sp (S : Vec → Prop) : Vec → Prop
  | zero : Sp S (fun _ => 0)
  | step {v r : Vec} (c : F) (hr : S r) (hv : Sp S v) : Sp S (fun j => mul c (r j) ^^^ v j)

theorem Sp.row {S : Vec → Prop} {r : Vec} (h : S r) : Sp S r := by
  have := Sp.step (1 : F) h Sp.zero
  simpa [one_mul] using this

theorem Sp.add {S : Vec → Prop} {u v : Vec} (hu : Sp S u) (hv : Sp S v) : Sp S (fun j => u j ^^^ v j) := by
  induction hu with
  | zero => simpa using hv
  | step c hr _ ih =>
    have := Sp.step c hr ih
    refine cast (congrArg (Sp S) (funext fun j => ?_)) this
    rw [UInt8.xor_assoc]

theorem Sp.smul {S : Vec → Prop} {v : Vec} (c : F) (hv : Sp S v) : Sp S (fun j => mul c (v j)) := by
  induction hv with
  | zero => simpa [mul_zero] using Sp.zero
  | step d hr _ ih =>
    have := Sp.step (mul c d) hr ih
    refine cast (congrArg (Sp S) (funext fun j => ?_)) this
    rw [mul_xor, mul_assoc]

theorem Sp.mono {S T : Vec → Prop} (h : ∀ r, S r → Sp T r) {v : Vec} (hv : Sp S v) : Sp T v := by
  induction hv with
  | zero => exact .zero
  | step c hr _ ih => exact Sp.add ((h _ hr).smul c) ih

theorem Sp.sub {S T : Vec → Prop} (h : ∀ r, S r → T r) {v : Vec} (hv : Sp S v) : Sp T v := hv.mono fun r hr => .row (h r hr)

/-- A row begins at c: 0 ahead of it, not 0 there. -/
def Lead (v : Vec) (c : Nat) : Prop := (∀ j < c, v j = 0) ∧ v c ≠ 0

theorem Lead.inj {v : Vec} {c d : Nat} (h : Lead v c) (h' : Lead v d) : c = d := by
  rcases Nat.lt_trichotomy c d with h1 | h1 | h1
  · exact absurd (h'.1 c h1) h.2
  · exact h1
  · exact absurd (h.1 d h1) h'.2

/-- Something of the span begins at c. -/
def Led (S : Vec → Prop) (c : Nat) : Prop := ∃ v, Sp S v ∧ Lead v c

open Classical in
/-- The rank, over the first w places. -/
noncomputable def rk (S : Vec → Prop) (w : Nat) : Nat := ((List.range w).filter fun c => decide (Led S c)).length

theorem rk_le (S : Vec → Prop) (w : Nat) : rk S w ≤ w := by
  unfold rk
  have := List.length_filter_le (fun c => @decide (Led S c) (Classical.propDecidable _)) (List.range w)
  simpa using this

theorem filter_length_mono {α : Type} {p q : α → Bool} (h : ∀ a, p a = true → q a = true) (l : List α) : (l.filter p).length ≤ (l.filter q).length := by
  induction l with
  | nil => simp
  | cons a l ih =>
    simp only [List.filter_cons]
    by_cases hp : p a = true
    · simp [hp, h a hp, ih]
    · simp only [hp]
      by_cases hq : q a = true
      · simp [hq]; omega
      · simp [hq]; exact ih

theorem filter_length_lt {α : Type} {p q : α → Bool} (h : ∀ a, p a = true → q a = true) (l : List α) {a : α} (ha : a ∈ l) (hq : q a = true) (hp : p a = false) :
    (l.filter p).length < (l.filter q).length := by
  induction l with
  | nil => simp at ha
  | cons b l ih =>
    simp only [List.filter_cons]
    have hm := filter_length_mono h l
    rcases List.mem_cons.1 ha with rfl | hin
    · simp [hp, hq]; omega
    · have := ih hin
      by_cases hb : p b = true
      · simp [hb, h b hb]; exact this
      · simp only [hb]
        by_cases hq' : q b = true
        · simp [hq']; omega
        · simp [hq']; exact this

theorem Led.mono {S T : Vec → Prop} (h : ∀ r, S r → Sp T r) {c : Nat} (hc : Led S c) : Led T c :=
  let ⟨v, hv, hl⟩ := hc; ⟨v, hv.mono h, hl⟩

theorem rk_mono {S T : Vec → Prop} (h : ∀ r, S r → Sp T r) (w : Nat) : rk S w ≤ rk T w := by
  unfold rk
  exact filter_length_mono (fun c hc => by simpa using Led.mono h (by simpa using hc)) _

theorem rk_eq {S T : Vec → Prop} (h : ∀ r, S r → Sp T r) (h' : ∀ r, T r → Sp S r) (w : Nat) : rk S w = rk T w :=
  Nat.le_antisymm (rk_mono h w) (rk_mono h' w)

/-- A row with nothing in the first w places and beyond is none; the others begin somewhere. -/
theorem lead_or_zero (v : Vec) (w : Nat) : (∀ j < w, v j = 0) ∨ ∃ c < w, Lead v c := by
  induction w with
  | zero => left; intro j hj; omega
  | succ w ih =>
    rcases ih with h | ⟨c, hc, hl⟩
    · by_cases hw : v w = 0
      · left; intro j hj
        rcases Nat.lt_succ_iff_lt_or_eq.1 hj with h1 | h1
        · exact h j h1
        · rw [h1, hw]
      · right; exact ⟨w, by omega, h, hw⟩
    · right; exact ⟨c, by omega, hl⟩

/-- If T's span begins nowhere but where S's does, and S lies within it, then each of T's span is one of S's, in the first w places. -/
theorem span_of_leads {S T : Vec → Prop} (h : ∀ r, S r → Sp T r) (w : Nat) (hl : ∀ c < w, Led T c → Led S c) :
    ∀ (n : Nat) (v : Vec), Sp T v → (∀ j, j + n < w → v j = 0) → ∃ u, Sp S u ∧ ∀ j < w, u j = v j := by
  intro n
  induction n with
  | zero => intro v _ hv; exact ⟨fun _ => 0, .zero, fun j hj => (hv j (by omega)).symm⟩
  | succ n ih =>
    intro v hv hz
    by_cases hw : w ≤ n
    · exact ih v hv (fun j hj => by omega)
    · have hlt : w - (n + 1) < w := by omega
      by_cases h0 : v (w - (n + 1)) = 0
      · refine ih v hv (fun j hj => ?_)
        by_cases hj' : j + (n + 1) < w
        · exact hz j hj'
        · have : j = w - (n + 1) := by omega
          rw [this, h0]
      · obtain ⟨u, hu, hul⟩ := hl _ hlt ⟨v, hv, fun j hj => hz j (by omega), h0⟩
        have hc : mul (mul (v (w - (n + 1))) (inv (u (w - (n + 1))))) (u (w - (n + 1))) = v (w - (n + 1)) := by
          rw [mul_assoc, inv_mul hul.2, mul_one]
        generalize hk : mul (v (w - (n + 1))) (inv (u (w - (n + 1)))) = k at hc
        obtain ⟨x, hx, hxe⟩ := ih (fun j => mul k (u j) ^^^ v j) ((hu.mono h).smul k |>.add hv) (fun j hj => by
          by_cases hj' : j + (n + 1) < w
          · show mul k (u j) ^^^ v j = 0
            rw [hul.1 j (by omega), hz j hj', mul_zero]; rfl
          · have : j = w - (n + 1) := by omega
            subst this
            show mul k _ ^^^ _ = 0
            rw [hc]; simp)
        refine ⟨fun j => mul k (u j) ^^^ x j, (hu.smul k).add hx, fun j hj => ?_⟩
        show mul k (u j) ^^^ x j = v j
        rw [hxe j hj, x_cancel]

theorem filter_eq_of_length {α : Type} {p q : α → Bool} (h : ∀ a, p a = true → q a = true) (l : List α) (hlen : (l.filter p).length = (l.filter q).length) {a : α} (ha : a ∈ l) (hq : q a = true) : p a = true := by
  by_cases hp : p a = true
  · exact hp
  · have := filter_length_lt h l ha hq (by simpa using hp)
    omega

/-- Of the same rank, one within the other: they span the same in the first w places. -/
theorem span_of_rk {S T : Vec → Prop} (h : ∀ r, S r → Sp T r) (w : Nat) (hr : rk S w = rk T w) {v : Vec} (hv : Sp T v) : ∃ u, Sp S u ∧ ∀ j < w, u j = v j := by
  refine span_of_leads h w (fun c hc hT => ?_) w v hv (fun j hj => by omega)
  unfold rk at hr
  have := @filter_eq_of_length Nat (fun c => @decide (Led S c) (Classical.propDecidable _)) (fun c => @decide (Led T c) (Classical.propDecidable _))
    (fun c hc => by simpa using Led.mono h (by simpa using hc)) (List.range w) hr c (by simpa using hc) (by simpa using hT)
  simpa using this

end Lin
