import Derived.Test.YthaamnjpjkkolabDoorTell
import Derived.Test.YthaamnjpjkkolabDoorVec
import Derived.Test.YthaamnjpjkkolabDoorSmall
/- Programs: steps, by their index; Check; the law's program; the reference's Check. -/
namespace Go.Proofs.YthaamnjpjkkolabDoor
open Go.RowKit Go.Proofs
set_option maxRecDepth 100000
set_option linter.unusedVariables false

/-- A step. -/
structure Stp where
  k : UInt8
  a : Int
  b : Int
  c : UInt8

/-- Its cells, as the program has them. -/
def sc (s : Stp) (j : Nat) : Value := if j = 0 then B s.k else if j = 1 then I s.a else if j = 2 then I s.b else B s.c
/-- Its cells, as the reference has them. -/
def rc (s : Stp) (j : Nat) : Value := if j = 0 then I (s.k.toNat : Int) else if j = 1 then I s.a else if j = 2 then I s.b else B s.c
/-- The cells of elements of four, one behind the other. -/
def el4 (f : Nat → Nat → Value) : Nat → Value := fun i => f (i / 4) (i % 4)
theorem el4_at (f : Nat → Nat → Value) (k j : Nat) (hj : j < 4) : el4 f (k * 4 + j) = f k j := by
  unfold el4; rw [show (k * 4 + j) / 4 = k by omega, show (k * 4 + j) % 4 = j by omega]

/-- A step that is none. -/
def OkStep (regs shards : Int) (s : Stp) : Prop :=
  0 ≤ s.a ∧ s.a < regs ∧ ((s.k.toNat = 0 ∨ s.k.toNat = 2) ∧ 0 ≤ s.b ∧ s.b < shards ∨ s.k.toNat = 1 ∧ 0 ≤ s.b ∧ s.b < regs ∧ s.a ≠ s.b)
def OkP (regs : Int) (n : Nat) (S : Nat → Stp) (shards : Int) : Prop := 0 ≤ regs ∧ regs ≤ 32 ∧ n ≤ 2000 ∧ ∀ i, i < n → OkStep regs shards (S i)
/-- Steps up to k that are right. -/
def OkTo (regs : Int) (k : Nat) (S : Nat → Stp) (shards : Int) : Prop := ∀ i, i < k → OkStep regs shards (S i)
theorem OkTo.next {regs shards : Int} {k : Nat} {S : Nat → Stp} (h : OkTo regs k S shards) (h' : OkStep regs shards (S k)) : OkTo regs (k + 1) S shards := fun i hi => by
  by_cases e : i = k
  · exact e ▸ h'
  · exact h i (by omega)

/-- The cells of step k. -/
structure At4 (w : World) (b o k : Nat) (f : Nat → Value) : Prop where
  c0 : w.cell? ⟨b, o + k * 4, none⟩ = some (f 0)
  c1 : w.cell? ⟨b, o + k * 4 + 1, none⟩ = some (f 1)
  c2 : w.cell? ⟨b, o + k * 4 + 2, none⟩ = some (f 2)
  c3 : w.cell? ⟨b, o + k * 4 + 3, none⟩ = some (f 3)
theorem Rd.at4 {w : World} {b o n k : Nat} {f : Nat → Nat → Value} (h : Rd w b o (n * 4) (el4 f)) (hk : k < n) : At4 w b o k (f k) :=
  ⟨by have := h (k * 4 + 0) (by omega); rw [el4_at _ _ _ (by omega)] at this; exact this, by have := h (k * 4 + 1) (by omega); rw [el4_at _ _ _ (by omega)] at this; exact this,
   by have := h (k * 4 + 2) (by omega); rw [el4_at _ _ _ (by omega)] at this; exact this, by have := h (k * 4 + 3) (by omega); rw [el4_at _ _ _ (by omega)] at this; exact this⟩

/-- Steps that lie in memory. -/
structure Stps (w : World) (a : Option Addr) (b o n c : Nat) (f : Nat → Nat → Value) : Prop where
  addr : 0 < n → a = some ⟨b, o, none⟩
  rd : Rd w b o (n * 4) (el4 f)
  cap : n ≤ c
  max : c ≤ 9223372036854775807
theorem Stps.later {w w' : World} {a : Option Addr} {b o n c : Nat} {f : Nat → Nat → Value} (h : Stps w a b o n c f) (hb : Below w.heap.size w w') : Stps w' a b o n c f := ⟨h.addr, h.rd.later hb, h.cap, h.max⟩
theorem Stps.upd {w w' : World} {G : Nat → Prop} {a : Option Addr} {b o n c : Nat} {f : Nat → Nat → Value} (h : Stps w a b o n c f) (hu : Upd G w w') (hg : 0 < n → ¬ G b) : Stps w' a b o n c f :=
  ⟨h.addr, h.rd.upd hu (fun h0 => hg (by omega)), h.cap, h.max⟩

theorem bfalse {a b : Int} (h : a ≠ b) : (a == b) = false := by simpa using h
theorem btrue {a b : Int} (h : a = b) : (a == b) = true := by simpa using h
theorem nfalse {a b : Int} (h : a = b) : (a != b) = false := by simpa using h
theorem ntrue {a b : Int} (h : a ≠ b) : (a != b) = true := by simpa using h

/-- Is it a number below n? -/
def inB (x n : Int) : Bool := decide (0 ≤ x ∧ x < n)
theorem inB_t {x n : Int} (h : inB x n = true) : 0 ≤ x ∧ x < n := by simpa [inB] using h
theorem inB_f {x n : Int} (h : inB x n = false) : ¬ (0 ≤ x ∧ x < n) := by simpa [inB] using h
set_option maxHeartbeats 400000 in
theorem in_any (x n : Int) (w : World) : Calls Tryd.prog 67 #[I x, I n] w fun e w' => e = .returned (.bool (inB x n)) ∧ w = w' := by
  by_cases h : 0 ≤ x
  · by_cases h' : x < n
    · have HE := Lib.hid (show inB x n = true by unfold inB; simp; omega)
      go_enter Tryd.func67, Tryd.ntmps67
      go_wp2_with fail
      go_ret
      exact ⟨by rw [HE.out]; simp, rfl⟩
    · have HE := Lib.hid (show inB x n = false by unfold inB; simp; omega)
      go_enter Tryd.func67, Tryd.ntmps67
      go_wp2_with fail
      go_ret
      exact ⟨by rw [HE.out]; simp, rfl⟩
  · have HE := Lib.hid (show inB x n = false by unfold inB; simp; omega)
    have hd : decide (0 ≤ x) = false := by simpa using h
    go_enter Tryd.func67, Tryd.ntmps67
    go_wp2_with fail
    go_ret
    exact ⟨by rw [HE.out]; rfl, rfl⟩

def CheckIs (P : Prop) (w : World) (e : Ending) (w' : World) : Prop := (P ∧ e = .returned .nilIface ∨ ¬ P ∧ e = .returned (.iface 33 (I 4))) ∧ Below w.heap.size w w'

set_option maxHeartbeats 2000000 in
theorem check_any (a : Option Addr) (b o n c : Nat) (S : Nat → Stp) (regs shards : Int) (w : World) (h : Stps w a b o n c fun i => sc (S i)) :
    Calls Tryd.prog 52 #[.agg #[I regs, .slice a n c], I shards] w (CheckIs (OkP regs n S shards) w) := by
  have HS := Lib.hid h
  have hcap := h.cap; have hmax := h.max
  clear h
  have HB := Lib.hid ((Below.refl w.heap.size w).alloc (Nat.le_refl _) (.cells #[I regs, .slice a n c] 39))
  by_cases h1 : regs < 0
  · go_enter Tryd.func52, Tryd.ntmps52
    go_wp2_with fail
    go_ret
    exact ⟨.inr ⟨fun h => by have := h.1; omega, rfl⟩, HB.out⟩
  by_cases h2 : 32 < regs
  · go_enter Tryd.func52, Tryd.ntmps52
    go_wp2_with fail
    go_ret
    exact ⟨.inr ⟨fun h => by have := h.2.1; omega, rfl⟩, HB.out⟩
  by_cases h3 : 2000 < n
  · go_enter Tryd.func52, Tryd.ntmps52
    go_wp2_with fail
    go_ret
    exact ⟨.inr ⟨fun h => by have := h.2.2.1; omega, rfl⟩, HB.out⟩
  go_enter Tryd.func52, Tryd.ntmps52
  go_wp2_with fail
  go_loopg [27] n (fun g i wr => ∃ k : Nat, g = n - k ∧ k ≤ n ∧ i = I k ∧ Below w.heap.size w wr ∧ Below (w.heap.size + 1) (w.alloc (.cells #[I regs, .slice a n c] 39)) wr ∧ OkTo regs k S shards)
  case atStart => exact ⟨0, rfl, by omega, rfl, HB.out, Below.refl _ _, fun i hi => absurd hi (by omega)⟩
  case round =>
    obtain ⟨k, rfl, hk, rfl, hb, hb2, ho⟩ := hrel
    have HB1 := Lib.hid hb
    have HB2 := Lib.hid hb2
    have HO := Lib.hid ho
    clear hb hb2 ho
    by_cases hlt : k < n
    · obtain rfl := HS.out.addr (by omega)
      have hat := (HS.out.later HB1.out).rd.at4 hlt
      have p0 : wr.cell? ⟨w.heap.size, 0, none⟩ = some (I regs) := (HB2.out.cell (p := ⟨w.heap.size, 0, none⟩) (by simp)).trans (by simp)
      have hsz : w.heap.size < wr.heap.size := by have := HB2.out.size; rw [Deep.nblk_alloc] at this; omega
      obtain ⟨s, hs⟩ : ∃ s, s = S k := ⟨_, rfl⟩
      rw [← hs] at hat
      have HSk := Lib.hid hs
      have c0 : wr.cell? ⟨b, o + k * 4, none⟩ = some (B s.k) := hat.c0
      have c1 : wr.cell? ⟨b, o + k * 4 + 1, none⟩ = some (I s.a) := hat.c1
      have c2 : wr.cell? ⟨b, o + k * 4 + 2, none⟩ = some (I s.b) := hat.c2
      have c3 : wr.cell? ⟨b, o + k * 4 + 3, none⟩ = some (B s.c) := hat.c3
      clear hs hat
      have HN := Lib.hid ((HB1.out.alloc HB1.out.size (.cells #[B s.k, I s.a, I s.b, B s.c] 84)))
      have HN2 := Lib.hid ((HB2.out.alloc (by omega) (.cells #[B s.k, I s.a, I s.b, B s.c] 84)))
      have HY := Lib.hid (fun h : OkStep regs shards s => HO.out.next (HSk.out ▸ h))
      have HX := Lib.hid (fun h : ¬ OkStep regs shards s => (show ¬ OkP regs n S shards from fun h' => h (HSk.out ▸ h'.2.2.2 k hlt)))
      clear HO HSk
      rcases (show s.k.toNat = 0 ∨ s.k.toNat = 1 ∨ s.k.toNat = 2 ∨ 2 < s.k.toNat by omega) with e | e | e | e
      · have t0 := btrue (a := (s.k.toNat : Int)) (b := 0) (by omega)
        have HE := Lib.hid e
        clear e
        cases ha : inB s.a regs with
        | false =>
          have HA := Lib.hid ha
          go_wp2_with (go_at_call 67; refine (in_any _ _ _).mono ?_; rintro e w1 ⟨rfl, rfl⟩)
          (go_ret; exact ⟨.inr ⟨HX.out fun h => by have h0 := HE.out; have h1 := inB_f HA.out; unfold OkStep at h; omega, rfl⟩, HN.out⟩)
        | true =>
          have HA := Lib.hid ha
          cases hc : inB s.b shards with
          | false =>
            have HC := Lib.hid hc
            go_wp2_with (go_at_call 67; refine (in_any _ _ _).mono ?_; rintro e w1 ⟨rfl, rfl⟩)
            (go_ret; exact ⟨.inr ⟨HX.out fun h => by have h0 := HE.out; have h1 := inB_f HC.out; unfold OkStep at h; omega, rfl⟩, HN.out⟩)
          | true =>
            have HC := Lib.hid hc
            go_wp2_with (go_at_call 67; refine (in_any _ _ _).mono ?_; rintro e w1 ⟨rfl, rfl⟩)
            (go_roundg (n - (k + 1)); (case measure => omega); (case rel => exact ⟨k + 1, rfl, by omega, by go_num, HN.out, HN2.out, HY.out (by have h0 := HE.out; have h1 := inB_t HA.out; have h2 := inB_t HC.out; unfold OkStep; omega)⟩))
      · have t0 := bfalse (a := (s.k.toNat : Int)) (b := 0) (by omega)
        have t2 := bfalse (a := (s.k.toNat : Int)) (b := 2) (by omega)
        have t1 := btrue (a := (s.k.toNat : Int)) (b := 1) (by omega)
        have HE := Lib.hid e
        clear e
        cases ha : inB s.a regs with
        | false =>
          have HA := Lib.hid ha
          go_wp2_with (go_at_call 67; refine (in_any _ _ _).mono ?_; rintro e w1 ⟨rfl, rfl⟩)
          (go_ret; exact ⟨.inr ⟨HX.out fun h => by have h0 := HE.out; have h1 := inB_f HA.out; unfold OkStep at h; omega, rfl⟩, HN.out⟩)
        | true =>
          have HA := Lib.hid ha
          cases hc : inB s.b regs with
          | false =>
            have HC := Lib.hid hc
            go_wp2_with (go_at_call 67; refine (in_any _ _ _).mono ?_; rintro e w1 ⟨rfl, rfl⟩)
            (go_ret; exact ⟨.inr ⟨HX.out fun h => by have h0 := HE.out; have h1 := inB_f HC.out; unfold OkStep at h; omega, rfl⟩, HN.out⟩)
          | true =>
            have HC := Lib.hid hc
            by_cases hab : s.a = s.b
            · have t3 := nfalse hab
              have HAB := Lib.hid hab
              clear hab
              go_wp2_with (go_at_call 67; refine (in_any _ _ _).mono ?_; rintro e w1 ⟨rfl, rfl⟩)
              (go_ret; exact ⟨.inr ⟨HX.out fun h => by have h0 := HE.out; have h1 := HAB.out; unfold OkStep at h; omega, rfl⟩, HN.out⟩)
            · have t3 := ntrue hab
              have HAB := Lib.hid hab
              clear hab
              go_wp2_with (go_at_call 67; refine (in_any _ _ _).mono ?_; rintro e w1 ⟨rfl, rfl⟩)
              (go_roundg (n - (k + 1)); (case measure => omega); (case rel => exact ⟨k + 1, rfl, by omega, by go_num, HN.out, HN2.out, HY.out (by have h0 := HE.out; have h1 := inB_t HA.out; have h2 := inB_t HC.out; have h3 := HAB.out; unfold OkStep; omega)⟩))
      · have t0 := bfalse (a := (s.k.toNat : Int)) (b := 0) (by omega)
        have t2 := btrue (a := (s.k.toNat : Int)) (b := 2) (by omega)
        have HE := Lib.hid e
        clear e
        cases ha : inB s.a regs with
        | false =>
          have HA := Lib.hid ha
          go_wp2_with (go_at_call 67; refine (in_any _ _ _).mono ?_; rintro e w1 ⟨rfl, rfl⟩)
          (go_ret; exact ⟨.inr ⟨HX.out fun h => by have h0 := HE.out; have h1 := inB_f HA.out; unfold OkStep at h; omega, rfl⟩, HN.out⟩)
        | true =>
          have HA := Lib.hid ha
          cases hc : inB s.b shards with
          | false =>
            have HC := Lib.hid hc
            go_wp2_with (go_at_call 67; refine (in_any _ _ _).mono ?_; rintro e w1 ⟨rfl, rfl⟩)
            (go_ret; exact ⟨.inr ⟨HX.out fun h => by have h0 := HE.out; have h1 := inB_f HC.out; unfold OkStep at h; omega, rfl⟩, HN.out⟩)
          | true =>
            have HC := Lib.hid hc
            go_wp2_with (go_at_call 67; refine (in_any _ _ _).mono ?_; rintro e w1 ⟨rfl, rfl⟩)
            (go_roundg (n - (k + 1)); (case measure => omega); (case rel => exact ⟨k + 1, rfl, by omega, by go_num, HN.out, HN2.out, HY.out (by have h0 := HE.out; have h1 := inB_t HA.out; have h2 := inB_t HC.out; unfold OkStep; omega)⟩))
      · have t0 := bfalse (a := (s.k.toNat : Int)) (b := 0) (by omega)
        have t2 := bfalse (a := (s.k.toNat : Int)) (b := 2) (by omega)
        have t1 := bfalse (a := (s.k.toNat : Int)) (b := 1) (by omega)
        have HE := Lib.hid e
        clear e
        go_wp2_with (go_at_call 67; refine (in_any _ _ _).mono ?_; rintro e w1 ⟨rfl, rfl⟩)
        (go_ret; exact ⟨.inr ⟨HX.out fun h => by have h0 := HE.out; have h1 := True.intro; unfold OkStep at h; omega, rfl⟩, HN.out⟩)
    · obtain rfl : n = k := by omega
      go_wp2_with fail
      go_ret
      exact ⟨.inl ⟨⟨h1, h2, by omega, HO.out⟩, rfl⟩, HB1.out⟩
end Go.Proofs.YthaamnjpjkkolabDoor
